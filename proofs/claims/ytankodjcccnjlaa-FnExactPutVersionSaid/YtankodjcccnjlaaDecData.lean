/- The deciding rule of a record under a schedule, as a plain fold; without a program; no condition. -/
import Derived.Test.YtankodjcccnjlaaRecData
import Derived.Test.YtankodjcccnjlaaFmData
namespace Go.Rd
theorem goodR_mem {l : List Rul} (h : goodR l = true) {x : Rul} (hx : x ∈ l) : okR x = true := by
  simp only [goodR, Bool.and_eq_true] at h
  obtain ⟨i, hi, rfl⟩ := List.mem_iff_getElem.1 hx
  have := (ascB_spec h.1 i hi).1
  rwa [List.getD_eq_getElem?_getD, List.getElem?_eq_getElem hi] at this
theorem forR_dy {sch : List Rul} (h : goodR sch = true) {s : Int} {k : Nat} {x : Rul} (hx : (forR sch s)[k]? = some x) : 0 ≤ x.dy ∧ x.dy ≤ 20000 := by
  have := goodR_mem h (List.mem_filter.1 (List.mem_of_getElem? hx)).1
  simp only [okR, Bool.and_eq_true, inB_true] at this
  omega
theorem neg_waitP {r : Rec} {x : Rul} (h : okRec r = true) (h0 : 0 ≤ x.dy) : decide (negO (endO r x) < (0 : Int)) = waitP r x := by
  unfold waitP endO
  cases hd : dayOf r x.ev with
  | none => rfl
  | some d => obtain ⟨d1, _⟩ := dayOf_bounds h hd; exact decide_eq_false (show ¬ (d + x.dy < 0) by omega)
theorem waitL_yes {r : Rec} {sch : List Rul} (h : bothOk r sch = true) : waitL r sch = ((forR sch r.se).filter (waitP r)).map (·.ev) := if_pos h
theorem waitL_no {r : Rec} {sch : List Rul} (h : bothOk r sch = false) : waitL r sch = [] := if_neg (by rw [h]; exact Bool.false_ne_true)
theorem waitL_length (r : Rec) (sch : List Rul) : (waitL r sch).length ≤ sch.length := by
  unfold waitL; split
  · rw [List.length_map]; exact Nat.le_trans (List.length_filter_le _ _) (forR_length _ _)
  · simp
/-- The rule x with the end t is put before the rule b with the end d. -/
def dcond (x b : Rul) (t d : Int) : Bool := decide (d < t) || (t == d && decide (x.ac < b.ac))
def dstep (r : Rec) (s : Option (Rul × Int)) (x : Rul) : Option (Rul × Int) :=
  match s with
  | none => none
  | some (b, d) => if waitP r x = true then none else if dcond x b (negO (endO r x)) d = true then some (x, negO (endO r x)) else some (b, d)
def decF (r : Rec) (l : List Rul) : Option (Rul × Int) := l.foldl (dstep r) (some (⟨0, 0, 0, 0⟩, -1))
/-- The deciding rule and the due day; the empty rule and -1 where there is none. -/
def decD (r : Rec) (sch : List Rul) : Rul × Int := (decF r (forR sch r.se)).getD (⟨0, 0, 0, 0⟩, -1)
theorem dstep_fold_none (r : Rec) (l : List Rul) : l.foldl (dstep r) none = none := by
  induction l with
  | nil => rfl
  | cons x l ih => exact ih
theorem decF_step {r : Rec} {l : List Rul} {k : Nat} {x : Rul} (h : l[k]? = some x) : decF r (l.take (k + 1)) = dstep r (decF r (l.take k)) x := by
  unfold decF; rw [List.take_add_one, h, List.foldl_append]; rfl
theorem decF_open {r : Rec} {l : List Rul} {k : Nat} {x : Rul} {s : Rul × Int} (h : l[k]? = some x) (hs : decF r (l.take k) = some s) (hw : waitP r x = true) : decF r l = none := by
  have h1 := decF_step (r := r) h
  rw [hs] at h1
  obtain ⟨b, d⟩ := s
  simp only [dstep, hw, if_true] at h1
  unfold decF at h1 ⊢
  rw [← List.take_append_drop (k + 1) l, List.foldl_append, h1, dstep_fold_none]
theorem decF_put {r : Rec} {l : List Rul} {k : Nat} {x b : Rul} {d : Int} (h : l[k]? = some x) (hs : decF r (l.take k) = some (b, d)) (hw : waitP r x = false) (hc : dcond x b (negO (endO r x)) d = true) : decF r (l.take (k + 1)) = some (x, negO (endO r x)) := by
  rw [decF_step h, hs]; simp only [dstep, hw, hc, if_true, Bool.false_eq_true, if_false]
theorem decF_leave {r : Rec} {l : List Rul} {k : Nat} {x b : Rul} {d : Int} (h : l[k]? = some x) (hs : decF r (l.take k) = some (b, d)) (hw : waitP r x = false) (hc : dcond x b (negO (endO r x)) d = false) : decF r (l.take (k + 1)) = some (b, d) := by
  rw [decF_step h, hs]; simp only [dstep, hw, hc, Bool.false_eq_true, if_false]
/-- Due days lie between -1 and the greatest day with the greatest period. -/
theorem decF_bound {r : Rec} (hr : okRec r = true) : ∀ (l : List Rul), (∀ x ∈ l, 0 ≤ x.dy ∧ x.dy ≤ 20000) → ∀ (s : Rul × Int), (-1 ≤ s.2 ∧ s.2 ≤ 40000) → ∀ t, l.foldl (dstep r) (some s) = some t → -1 ≤ t.2 ∧ t.2 ≤ 40000
  | [], _, s, hs, t, ht => by simp only [List.foldl_nil, Option.some.injEq] at ht; subst ht; exact hs
  | x :: l, hx, (b, d), hs, t, ht => by
    rw [List.foldl_cons] at ht
    have h1 := hx x List.mem_cons_self
    cases hw : waitP r x with
    | true => simp only [dstep, hw, if_true] at ht; rw [dstep_fold_none] at ht; cases ht
    | false =>
      cases hc : dcond x b (negO (endO r x)) d with
      | true =>
        simp only [dstep, hw, hc, Bool.false_eq_true, if_false, if_true] at ht
        refine decF_bound hr l (fun y hy => hx y (List.mem_cons_of_mem _ hy)) _ ?_ t ht
        unfold endO
        cases hd : dayOf r x.ev with
        | none => simp [negO]
        | some e => obtain ⟨d1, d2⟩ := dayOf_bounds hr hd; simp only [Option.map_some, negO, Option.getD_some]; omega
      | false =>
        simp only [dstep, hw, hc, Bool.false_eq_true, if_false] at ht
        exact decF_bound hr l (fun y hy => hx y (List.mem_cons_of_mem _ hy)) _ hs t ht
theorem decD_bound {r : Rec} {sch : List Rul} (hr : okRec r = true) (hg : goodR sch = true) : -1 ≤ (decD r sch).2 ∧ (decD r sch).2 ≤ 40000 := by
  unfold decD
  cases h : decF r (forR sch r.se) with
  | none => simp
  | some t => exact decF_bound hr _ (fun x hx => by obtain ⟨i, hi, rfl⟩ := List.mem_iff_getElem.1 hx; exact forR_dy hg (List.getElem?_eq_getElem hi)) _ (by simp) t h
theorem decD_some {r : Rec} {sch : List Rul} {t : Rul × Int} (h : decF r (forR sch r.se) = some t) : decD r sch = t := by unfold decD; rw [h]; rfl
theorem decD_none {r : Rec} {sch : List Rul} (h : decF r (forR sch r.se) = none) : decD r sch = (⟨0, 0, 0, 0⟩, -1) := by unfold decD; rw [h]; rfl
end Go.Rd
