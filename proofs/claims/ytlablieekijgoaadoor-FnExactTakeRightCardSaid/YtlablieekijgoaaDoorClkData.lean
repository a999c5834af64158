/- Clerks and their rights as plain functions; without a program; no condition. -/
import Derived.Test.YtlablieekijgoaaDoorTextData
import Derived.Test.YtlablieekijgoaaDoorWordData
namespace Go.Rd
open Go.Sort Go.RowKit
def bAnd (x y : Int) : Int := bits .and .i64 x y
def bOr (x y : Int) : Int := bits .or .i64 x y
def bothR (r : Int) : Bool := decide (bAnd r 10 = 10)
def okClk (x : Clk) : Bool := inB x.id 1 99 && (okW x.na && (inB x.ri 0 15 && (!bothR x.ri && (inB x.un 0 20000 && (inB x.fr 0 x.un && (inB x.st 0 99 && decide (x.st ≠ x.id)))))))
/-- The place of the first clerk with an id, or -1. -/
def atI (l : List Clk) (id : Int) : Int := idxOf (fun x => x.id == id) l
theorem atI_cases (l : List Clk) (id : Int) : atI l id = -1 ∨ ∃ (j : Nat) (y : Clk), atI l id = (j : Int) ∧ l[j]? = some y ∧ y.id = id := by
  cases h : l.findIdx? (fun x => x.id == id) with
  | none => exact .inl (by unfold atI idxOf; rw [h])
  | some j =>
    obtain ⟨hj, h1, _⟩ := List.findIdx?_eq_some_iff_getElem.1 h
    exact .inr ⟨j, l[j], by unfold atI idxOf; rw [h], List.getElem?_eq_getElem hj, by simpa using h1⟩
/-- Whether the clerk that one stands in for is one of the list and stands in for no other. -/
def standB (l : List Clk) (x : Clk) : Bool := !decide (0 < x.st) || (decide (0 ≤ atI l x.st) && decide ((l.getD (atI l x.st).toNat default).st = 0))
theorem standB_no {l : List Clk} {x : Clk} (h : ¬ 0 < x.st) : standB l x = true := by unfold standB; rw [decide_eq_false h]; rfl
theorem standB_neg {l : List Clk} {x : Clk} (h : 0 < x.st) (ha : atI l x.st = -1) : standB l x = false := by unfold standB; rw [ha, decide_eq_true h]; rfl
theorem standB_at {l : List Clk} {x y : Clk} {j : Nat} (h : 0 < x.st) (ha : atI l x.st = (j : Int)) (hy : l[j]? = some y) : standB l x = decide (y.st = 0) := by
  unfold standB
  rw [ha, decide_eq_true h, decide_eq_true (show (0 : Int) ≤ (j : Int) by omega), Int.toNat_natCast, List.getD_eq_getElem?_getD, hy]; rfl
def okC (l : List Clk) (x : Clk) : Bool := okClk x && standB l x
def ltC (a b : Clk) : Bool := decide (a.id < b.id)
def goodC (l : List Clk) : Bool := ascB (okC l) ltC l && decide (l.length ≤ 8)
theorem geC_not (a b : Clk) : decide (b.id ≤ a.id) = !ltC a b := by
  unfold ltC; rw [Bool.eq_iff_iff]; simp
theorem ascC_bad {l : List Clk} {k : Nat} {x q : Clk} (h : AscAt (okC l) ltC l k ↔ okC l x = true ∧ (0 < k → ltC q x = true)) (hb : (!okClk x || (decide (0 < k) && !ltC q x)) = true) : ¬ AscAt (okC l) ltC l k := by
  rw [h]; intro ⟨h1, h2⟩
  unfold okC at h1
  rw [Bool.and_eq_true] at h1
  rw [h1.1] at hb
  simp only [Bool.not_true, Bool.false_or, Bool.and_eq_true, decide_eq_true_eq, Bool.not_eq_true'] at hb
  rw [h2 hb.1] at hb; exact Bool.noConfusion hb.2
theorem ascC_bad2 {l : List Clk} {k : Nat} {x q : Clk} (h : AscAt (okC l) ltC l k ↔ okC l x = true ∧ (0 < k → ltC q x = true)) (hb : standB l x = false) : ¬ AscAt (okC l) ltC l k := by
  rw [h]; intro ⟨h1, _⟩
  unfold okC at h1
  rw [hb, Bool.and_false] at h1; exact Bool.noConfusion h1
theorem ascC_fine {l : List Clk} {k : Nat} {x q : Clk} (hb : (!okClk x || (decide (0 < k) && !ltC q x)) = false) (hs : standB l x = true) : okC l x = true ∧ (0 < k → ltC q x = true) := by
  simp only [Bool.or_eq_false_iff, Bool.not_eq_false', Bool.and_eq_false_iff, decide_eq_false_iff_not] at hb
  refine ⟨by unfold okC; rw [hb.1, hs]; rfl, fun hk => ?_⟩
  rcases hb.2 with h | h
  · exact absurd hk h
  · exact h
theorem okClk_st {x : Clk} (h : okClk x = true) : x.st ≠ x.id := by
  unfold okClk at h; simp only [Bool.and_eq_true, decide_eq_true_eq] at h; exact h.2.2.2.2.2.2.2
theorem okClk_of {x q : Clk} {k : Nat} (hb : (!okClk x || (decide (0 < k) && !ltC q x)) = false) : okClk x = true := by
  simp only [Bool.or_eq_false_iff, Bool.not_eq_false'] at hb; exact hb.1
end Go.Rd
