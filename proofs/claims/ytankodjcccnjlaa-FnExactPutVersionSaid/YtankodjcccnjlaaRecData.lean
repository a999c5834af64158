/- Records, their events and periods as plain functions; without a program; no condition. -/
import Derived.Test.YtankodjcccnjlaaNestData
namespace Go.Rd
def okE (e : Evt) : Bool := inB e.ki 1 9 && inB e.dy 0 20000
def okEv (ma : Int) (e : Evt) : Bool := okE e && !decide (e.dy < ma)
def ltE (a b : Evt) : Bool := decide (a.ki < b.ki)
def goodE (ma : Int) (l : List Evt) : Bool := ascB (okEv ma) ltE l
def okRec (r : Rec) : Bool := inB r.id 1 999 && inB r.se 1 99 && inB r.ma 0 20000 && decide (r.evs.length ≤ 6) && goodE r.ma r.evs
def ltRec (a b : Rec) : Bool := decide (a.id < b.id)
def goodRs (l : List Rec) : Bool := ascB okRec ltRec l && decide (l.length ≤ 10)
/-- The day of an event of a kind; the day made for 0. -/
def dayOf (r : Rec) (kind : Int) : Option Int := if (kind == 0) = true then some r.ma else (r.evs.find? fun e => e.ki == kind).map (·.dy)
def endO (r : Rec) (x : Rul) : Option Int := (dayOf r x.ev).map fun d => d + x.dy
theorem dayOf_zero {r : Rec} {k : Int} (h : (k == 0) = true) : dayOf r k = some r.ma := if_pos h
theorem dayOf_pos {r : Rec} {k : Int} (h : (k == 0) = false) : dayOf r k = (r.evs.find? fun e => e.ki == k).map (·.dy) := if_neg (by rw [h]; exact Bool.false_ne_true)
theorem okRec_parts {r : Rec} (h : okRec r = true) : (1 ≤ r.id ∧ r.id ≤ 999) ∧ (1 ≤ r.se ∧ r.se ≤ 99) ∧ (0 ≤ r.ma ∧ r.ma ≤ 20000) ∧ r.evs.length ≤ 6 ∧ goodE r.ma r.evs = true := by
  simp only [okRec, Bool.and_eq_true, inB_true, decide_eq_true_eq] at h
  exact ⟨h.1.1.1.1, h.1.1.1.2, h.1.1.2, h.1.2, h.2⟩
theorem goodE_mem {ma : Int} {l : List Evt} (h : goodE ma l = true) {e : Evt} (he : e ∈ l) : (1 ≤ e.ki ∧ e.ki ≤ 9) ∧ (0 ≤ e.dy ∧ e.dy ≤ 20000) ∧ ma ≤ e.dy := by
  obtain ⟨i, hi, rfl⟩ := List.mem_iff_getElem.1 he
  have := (ascB_spec h i hi).1
  rw [List.getD_eq_getElem?_getD, List.getElem?_eq_getElem hi] at this
  simp only [okEv, okE, Option.getD_some, Bool.and_eq_true, inB_true, Bool.not_eq_true', decide_eq_false_iff_not] at this
  omega
theorem goodRs_mem {l : List Rec} (h : goodRs l = true) {r : Rec} (hr : r ∈ l) : okRec r = true := by
  simp only [goodRs, Bool.and_eq_true] at h
  obtain ⟨i, hi, rfl⟩ := List.mem_iff_getElem.1 hr
  have := (ascB_spec h.1 i hi).1
  rwa [List.getD_eq_getElem?_getD, List.getElem?_eq_getElem hi] at this
theorem dayOf_bounds {r : Rec} (h : okRec r = true) {k d : Int} (hd : dayOf r k = some d) : 0 ≤ d ∧ d ≤ 20000 := by
  obtain ⟨_, _, h3, _, h5⟩ := okRec_parts h
  cases hk : (k == 0)
  case true => rw [dayOf_zero hk] at hd; simp only [Option.some.injEq] at hd; omega
  case false =>
    rw [dayOf_pos hk] at hd
    cases hf : r.evs.find? (fun e => e.ki == k) with
    | none => rw [hf] at hd; cases hd
    | some e =>
      rw [hf] at hd
      simp only [Option.map_some, Option.some.injEq] at hd
      have := (goodE_mem h5 (List.mem_of_find?_eq_some hf)).2.1
      omega
theorem find_first {α : Type} {p : α → Bool} : ∀ {l : List α} {i : Nat} {x : α}, l[i]? = some x → p x = true → (∀ j y, j < i → l[j]? = some y → p y = false) → l.find? p = some x
  | [], i, x, h, _, _ => by simp at h
  | a :: l, 0, x, h, hp, _ => by
    simp only [List.getElem?_cons_zero, Option.some.injEq] at h
    subst h; simp [hp]
  | a :: l, i + 1, x, h, hp, ha => by
    have h0 := ha 0 a (by omega) rfl
    rw [List.find?_cons, h0]
    exact find_first (l := l) (by simpa using h) hp fun j y hj hy => ha (j + 1) y (by omega) (by simpa using hy)
theorem find_none {α : Type} {p : α → Bool} {l : List α} (h : ∀ (j : Nat) (y : α), l[j]? = some y → p y = false) : l.find? p = none := by
  rw [List.find?_eq_none]
  intro x hx
  obtain ⟨i, hi, rfl⟩ := List.mem_iff_getElem.1 hx
  simp [h i _ (List.getElem?_eq_getElem hi)]
def negO (r : Option Int) : Int := r.getD (-1)
def waitP (r : Rec) (x : Rul) : Bool := (endO r x).isNone
def bothOk (r : Rec) (sch : List Rul) : Bool := okRec r && goodR sch
def allOk (l : List Rec) (sch : List Rul) : Bool := goodRs l && goodR sch
def waitL (r : Rec) (sch : List Rul) : List Int := if bothOk r sch = true then ((forR sch r.se).filter (waitP r)).map (·.ev) else []
def notL (l : List Rec) (sch : List Rul) : List Int := if allOk l sch = true then (l.filter fun r => decide ((forR sch r.se).length = 0)).map (·.id) else []
end Go.Rd
