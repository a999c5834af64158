/- Who may do what, as plain functions; without a program; no condition. -/
import Derived.Test.YtlablieekijgoaaDoorRightsData
import Derived.Test.YtlablieekijgoaaDoorFmData
namespace Go.Rd
open Go.Sort Go.RowKit
def hasR (l : List Clk) (rights day : Int) (x : Clk) : Bool := decide (bAnd (rightsC l x day) rights = rights)
def whoL (l : List Clk) (rights day : Int) : List Int := (l.filter (hasR l rights day)).map (·.id)
theorem whoL_length (l : List Clk) (rights day : Int) : (whoL l rights day).length ≤ l.length := by
  unfold whoL; rw [List.length_map]; exact List.length_filter_le _ _
def whoOk (l : List Clk) (rights day : Int) : Bool := goodC l && (inB rights 1 15 && inB day 0 20000)
def whoR (l : List Clk) (rights day : Int) : List Int := if whoOk l rights day = true then whoL l rights day else []
theorem whoR_yes {l : List Clk} {rights day : Int} (h : whoOk l rights day = true) : whoR l rights day = whoL l rights day := if_pos h
theorem whoR_no {l : List Clk} {rights day : Int} (h : whoOk l rights day = false) : whoR l rights day = [] := if_neg (by rw [h]; exact Bool.false_ne_true)
theorem whoR_length (l : List Clk) (rights day : Int) : (whoR l rights day).length ≤ l.length := by
  unfold whoR; split
  · exact whoL_length _ _ _
  · simp
def pairOk (l : List Clk) (day : Int) : Bool := goodC l && inB day 0 20000
def pairO (l : List Clk) (day : Int) : Int × Int × Bool :=
  if pairOk l day = true then (match whoL l 2 day, whoL l 8 day with | a :: _, b :: _ => (a, b, true) | _, _ => (0, 0, false)) else (0, 0, false)
theorem pairO_no {l : List Clk} {day : Int} (h : pairOk l day = false) : pairO l day = (0, 0, false) := if_neg (by rw [h]; exact Bool.false_ne_true)
theorem pairO_a {l : List Clk} {day : Int} (h : whoL l 2 day = []) : pairO l day = (0, 0, false) := by
  unfold pairO; rw [h]; simp
theorem pairO_b {l : List Clk} {day : Int} (h : whoL l 8 day = []) : pairO l day = (0, 0, false) := by
  unfold pairO; rw [h]; cases whoL l 2 day <;> simp
theorem pairO_yes {l : List Clk} {day a b : Int} {s t : List Int} (h : pairOk l day = true) (ha : whoL l 2 day = a :: s) (hb : whoL l 8 day = b :: t) : pairO l day = (a, b, true) := by
  unfold pairO; rw [if_pos h, ha, hb]
def daysOk (l : List Clk) (rights fr tt : Int) : Bool := goodC l && (inB rights 1 15 && (inB tt 0 20000 && (inB fr 0 tt && decide (tt - fr ≤ 200))))
def freeOf (l : List Clk) (rights fr : Int) (i : Nat) : Bool := decide ((whoL l rights (fr + (i : Int))).length = 0)
def daysN (l : List Clk) (rights fr : Int) (n k : Nat) : List Int := fmK (freeOf l rights fr) (fun i => fr + (i : Int)) (List.range n) k
def daysW (l : List Clk) (rights fr tt : Int) : List Int :=
  if daysOk l rights fr tt = true then daysN l rights fr (tt - fr + 1).toNat (tt - fr + 1).toNat else []
theorem daysW_yes {l : List Clk} {rights fr tt : Int} (h : daysOk l rights fr tt = true) : daysW l rights fr tt = daysN l rights fr (tt - fr + 1).toNat (tt - fr + 1).toNat := if_pos h
theorem daysW_no {l : List Clk} {rights fr tt : Int} (h : daysOk l rights fr tt = false) : daysW l rights fr tt = [] := if_neg (by rw [h]; exact Bool.false_ne_true)
theorem daysOk_parts {l : List Clk} {rights fr tt : Int} (h : daysOk l rights fr tt = true) : (1 ≤ rights ∧ rights ≤ 15) ∧ (0 ≤ tt ∧ tt ≤ 20000) ∧ (0 ≤ fr ∧ fr ≤ tt) ∧ tt - fr ≤ 200 := by
  simp only [daysOk, Bool.and_eq_true, inB_true, decide_eq_true_eq] at h
  exact ⟨h.2.1, h.2.2.1, h.2.2.2.1, h.2.2.2.2⟩
theorem daysN_len (l : List Clk) (rights fr : Int) (n k : Nat) : (daysN l rights fr n k).length ≤ k := fmK_len _ _ _ _
theorem daysN_yes {l : List Clk} {rights fr : Int} {n k : Nat} (hk : k < n) (h : (whoL l rights (fr + (k : Int))).length = 0) : daysN l rights fr n (k + 1) = daysN l rights fr n k ++ [fr + (k : Int)] :=
  fmK_yes (by simp [hk]) (decide_eq_true h)
theorem daysN_no {l : List Clk} {rights fr : Int} {n k : Nat} (hk : k < n) (h : ¬ (whoL l rights (fr + (k : Int))).length = 0) : daysN l rights fr n (k + 1) = daysN l rights fr n k :=
  fmK_no (by simp [hk]) (decide_eq_false h)
theorem daysW_length (l : List Clk) (rights fr tt : Int) : (daysW l rights fr tt).length ≤ 1048576 := by
  cases h : daysOk l rights fr tt
  · rw [daysW_no h]; simp
  · rw [daysW_yes h]
    have := daysOk_parts h
    exact Nat.le_trans (daysN_len _ _ _ _ _) (by omega)
end Go.Rd
