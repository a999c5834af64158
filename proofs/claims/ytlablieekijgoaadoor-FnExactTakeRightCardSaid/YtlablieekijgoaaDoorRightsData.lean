/- The rights of clerks on a day as plain functions; without a program; no condition. -/
import Derived.Test.YtlablieekijgoaaDoorClkData
namespace Go.Rd
open Go.Sort Go.RowKit
theorem bOr_fin : ∀ a b : Fin 16, inB (bOr (a.val : Int) (b.val : Int)) 0 15 = true := by decide +kernel
theorem bOr_in {a b : Int} (ha : 0 ≤ a ∧ a ≤ 15) (hb : 0 ≤ b ∧ b ≤ 15) : inB (bOr a b) 0 15 = true := by
  have := bOr_fin ⟨a.toNat, by omega⟩ ⟨b.toNat, by omega⟩
  simp only [Int.toNat_of_nonneg ha.1, Int.toNat_of_nonneg hb.1] at this
  exact this
theorem okClk_ri {x : Clk} (h : okClk x = true) : 0 ≤ x.ri ∧ x.ri ≤ 15 := by
  unfold okClk at h; simp only [Bool.and_eq_true, inB_true] at h; exact h.2.2.1
theorem goodC_at {l : List Clk} (h : goodC l = true) {i : Nat} {x : Clk} (hx : l[i]? = some x) : okClk x = true ∧ standB l x = true := by
  simp only [goodC, Bool.and_eq_true] at h
  have hi := (List.getElem?_eq_some_iff.1 hx).1
  have := (ascB_spec h.1 i hi).1
  rw [List.getD_eq_getElem?_getD, hx] at this
  simp only [Option.getD_some, okC, Bool.and_eq_true] at this
  exact this
theorem goodC_len {l : List Clk} (h : goodC l = true) : l.length ≤ 8 := by
  simp only [goodC, Bool.and_eq_true, decide_eq_true_eq] at h; exact h.2
theorem goodC_st {l : List Clk} (h : goodC l = true) {i : Nat} {x : Clk} (hx : l[i]? = some x) (hs : 0 < x.st) : ∃ (j : Nat) (o : Clk), atI l x.st = (j : Int) ∧ l[j]? = some o := by
  have h2 := (goodC_at h hx).2
  rcases atI_cases l x.st with hj | ⟨j, y, hj, hy, _⟩
  · rw [standB_neg hs hj] at h2; exact Bool.noConfusion h2
  · exact ⟨j, y, hj, hy⟩
/-- All rights that a clerk of a list may use on a day. -/
def rightsC (l : List Clk) (x : Clk) (day : Int) : Int :=
  if inB day x.fr x.un = true then
    (if 0 < x.st then
      (let o := l.getD (atI l x.st).toNat default
       if (!inB day o.fr o.un && !bothR (bOr x.ri o.ri)) = true then bOr x.ri o.ri else x.ri)
     else x.ri)
  else 0
theorem rightsC_off {l : List Clk} {x : Clk} {day : Int} (h : inB day x.fr x.un = false) : rightsC l x day = 0 := if_neg (by rw [h]; exact Bool.false_ne_true)
theorem rightsC_own {l : List Clk} {x : Clk} {day : Int} (h : inB day x.fr x.un = true) (hs : ¬ 0 < x.st) : rightsC l x day = x.ri := by
  unfold rightsC; rw [if_pos h, if_neg hs]
theorem rightsC_st {l : List Clk} {x o : Clk} {day : Int} {j : Nat} (h : inB day x.fr x.un = true) (hs : 0 < x.st) (hj : atI l x.st = (j : Int)) (ho : l[j]? = some o) :
    rightsC l x day = if (!inB day o.fr o.un && !bothR (bOr x.ri o.ri)) = true then bOr x.ri o.ri else x.ri := by
  unfold rightsC; rw [if_pos h, if_pos hs, hj, Int.toNat_natCast, List.getD_eq_getElem?_getD, ho]; rfl
def rOn (l : List Clk) (id day : Int) : Option Int :=
  if (goodC l && (decide (0 ≤ atI l id) && inB day 0 20000)) = true then some (rightsC l (l.getD (atI l id).toNat default) day) else none
theorem rOn_no {l : List Clk} {id day : Int} (h : (goodC l && (decide (0 ≤ atI l id) && inB day 0 20000)) = false) : rOn l id day = none := if_neg (by rw [h]; exact Bool.false_ne_true)
theorem rOn_yes {l : List Clk} {id day : Int} {j : Nat} {x : Clk} (hg : goodC l = true) (hj : atI l id = (j : Int)) (hx : l[j]? = some x) (hd : inB day 0 20000 = true) : rOn l id day = some (rightsC l x day) := by
  unfold rOn
  rw [hg, hd, hj, decide_eq_true (show (0 : Int) ≤ (j : Int) by omega), Int.toNat_natCast, List.getD_eq_getElem?_getD, hx]; rfl
def mayDok (l : List Clk) (id rights day : Int) : Bool := (rOn l id day).isSome && inB rights 1 15
def mayD (l : List Clk) (id rights day : Int) : Bool := mayDok l id rights day && decide (bAnd ((rOn l id day).getD 0) rights = rights)
end Go.Rd
