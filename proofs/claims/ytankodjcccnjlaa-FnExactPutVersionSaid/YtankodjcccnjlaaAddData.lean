/- A record with one more event, and its due day, as plain functions; without a program; no condition. -/
import Derived.Test.YtankodjcccnjlaaDecData
import Derived.Test.YtankodjcccnjlaaNeedData
namespace Go.Rd
def lessE (l : List Evt) (n : Int) : Nat := (l.takeWhile fun e => decide (e.ki < n)).length
def addEL (l : List Evt) (e : Evt) : List Evt := l.take (lessE l e.ki) ++ [e] ++ l.drop (lessE l e.ki)
def addR (r : Rec) (e : Evt) : Rec := { r with evs := addEL r.evs e }
def addOk (r : Rec) (e : Evt) : Bool := okRec r && (okE e && okRec (addR r e))
theorem lessE_le (l : List Evt) (n : Int) : lessE l n ≤ l.length := by
  unfold lessE; exact (List.takeWhile_sublist _).length_le
theorem lessE_at : ∀ (l : List Evt) (n : Int) (k : Nat), k ≤ l.length → (∀ j x, j < k → l[j]? = some x → x.ki < n) → (∀ x, l[k]? = some x → ¬ x.ki < n) → lessE l n = k
  | [], n, k, hk, _, _ => by simp at hk; subst hk; rfl
  | y :: l, n, 0, _, _, h2 => by
    have := h2 y rfl
    simp [lessE, this]
  | y :: l, n, k + 1, hk, h1, h2 => by
    have hy := h1 0 y (by omega) rfl
    have := lessE_at l n k (by simpa using hk) (fun j x hj hx => h1 (j + 1) x (by omega) (by simpa using hx)) (fun x hx => h2 x (by simpa using hx))
    unfold lessE at this ⊢
    simp [hy, this]
theorem takeE_lt (l : List Evt) (n : Int) : ∀ x ∈ l.take (lessE l n), x.ki < n := by
  induction l with
  | nil => simp [lessE]
  | cons y l ih =>
    intro x hx
    unfold lessE at hx ih
    by_cases hy : y.ki < n
    · simp only [List.takeWhile_cons, hy, decide_true, if_true, List.length_cons, List.take_succ_cons, List.mem_cons] at hx
      rcases hx with rfl | hx
      · exact hy
      · exact ih x hx
    · simp [hy] at hx
theorem goodE_rise {ma : Int} {l : List Evt} (h : goodE ma l = true) : RiseI (l.map (·.ki)) := by
  have h1 := ascB_spec h
  refine rise_of_steps fun i x y hx hy => ?_
  rw [List.getElem?_map] at hx hy
  cases ha : l[i]? with
  | none => rw [ha] at hx; cases hx
  | some a =>
    cases hb : l[i + 1]? with
    | none => rw [hb] at hy; cases hy
    | some b =>
      rw [ha] at hx; rw [hb] at hy
      simp only [Option.map_some, Option.some.injEq] at hx hy
      have := (h1 (i + 1) (List.getElem?_eq_some_iff.1 hb).1).2 (by omega)
      rw [List.getD_eq_getElem?_getD, List.getD_eq_getElem?_getD, Nat.add_sub_cancel, ha, hb] at this
      have := of_decide_eq_true this
      simp only [Option.getD_some] at this
      omega
theorem addEL_length (l : List Evt) (e : Evt) : (addEL l e).length = l.length + 1 := by
  have := lessE_le l e.ki
  unfold addEL
  simp only [List.length_append, List.length_take, List.length_drop, List.length_singleton]; omega
/-- An event of a kind that is there already cannot be added. -/
theorem add_has {r : Rec} {e : Evt} (he : okE e = true) {d : Int} (h : dayOf r e.ki = some d) : okRec (addR r e) = false := by
  cases hok : okRec (addR r e)
  · rfl
  · exfalso
    have h1 := goodE_rise (okRec_parts hok).2.2.2.2
    have hk : (e.ki == 0) = false := by
      simp only [okE, Bool.and_eq_true, inB_true] at he
      exact beq_eq_false_iff_ne.2 (by omega)
    rw [dayOf_pos hk] at h
    cases hf : r.evs.find? (fun x => x.ki == e.ki) with
    | none => rw [hf] at h; cases h
    | some x =>
      have hx := List.mem_of_find?_eq_some hf
      have hxk : x.ki = e.ki := by simpa using List.find?_some hf
      have hs : (addR r e).evs = r.evs.take (lessE r.evs e.ki) ++ (e :: r.evs.drop (lessE r.evs e.ki)) := by simp [addR, addEL]
      rw [hs, List.map_append, List.map_cons] at h1
      have h2 := (List.pairwise_cons.1 (List.pairwise_append.1 h1).2.1).1
      rw [← List.take_append_drop (lessE r.evs e.ki) r.evs] at hx
      rcases List.mem_append.1 hx with h3 | h3
      · have := takeE_lt _ _ x h3; omega
      · have := h2 x.ki (List.mem_map_of_mem h3); omega
def dueAOk (r : Rec) (sch : List Rul) (e : Evt) : Bool := addOk r e && (goodR sch && decide (0 ≤ (decD (addR r e) sch).2))
def dueAO (r : Rec) (sch : List Rul) (e : Evt) : Option Int := if dueAOk r sch e = true then some (decD (addR r e) sch).2 else none
theorem dueAO_yes {r : Rec} {sch : List Rul} {e : Evt} (h : dueAOk r sch e = true) : dueAO r sch e = some (decD (addR r e) sch).2 := if_pos h
theorem dueAO_no {r : Rec} {sch : List Rul} {e : Evt} (h : dueAOk r sch e = false) : dueAO r sch e = none := if_neg (by rw [h]; exact Bool.false_ne_true)
end Go.Rd
