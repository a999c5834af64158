/- A list in which one clerk is changed, as a plain function, and how its cells turn; without a program; no condition. -/
import Derived.Test.YtlablieekijgoaaDoorRightsData
import Derived.Test.YtlablieekijgoaaDoorBase
namespace Go.Rd
open Go.Sort Go.RowKit
theorem Filled.set {w : World} {g : Nat} {e : TypeId} {size : Nat} {xs : List Value} (hf : Filled w g e size xs) (i : Nat) (u : Value) :
    Filled (w.setCell ⟨g, i, none⟩ u) g e size (xs.set i u) := by
  obtain ⟨cur, h1, h2, h3⟩ := hf
  refine ⟨cur.setIfInBounds i u, heap_setCell_same w g _ cur e u h1, by simpa using h2, ?_⟩
  rw [List.length_set, Array.toList_setIfInBounds, List.take_set, h3]
theorem split_at {α : Type} {l : List α} {i : Nat} {o : α} (h : l[i]? = some o) : ∃ A B, l = A ++ o :: B ∧ A.length = i := by
  have hi := (List.getElem?_eq_some_iff.1 h).1
  refine ⟨l.take i, l.drop (i + 1), ?_, by rw [List.length_take]; omega⟩
  have h2 := (List.getElem?_eq_some_iff.1 h).2
  rw [← h2, ← List.drop_eq_getElem_cons hi, List.take_append_drop]
theorem owns_cases2 {w : World} {base : Nat} {e : TypeId} {sz : Nat} {v : Value} {n : Nat} {cs : List Value} (h : w.ownsRow base e sz v n cs) :
    (v = .slice none 0 0 ∧ n = 0) ∨ ∃ g cap, v = .slice (some ⟨g, 0, none⟩) n cap ∧ base ≤ g ∧ g < w.heap.size ∧ n ≤ cap ∧ cap ≤ maxLen ∧ Filled w g e (cap * sz) cs := by
  rcases h.2 with h1 | ⟨g, cap, cur, hv, hb, hg, hnc, hcm, hcs, htake⟩
  · exact .inl h1
  · exact .inr ⟨g, cap, hv, hb, (Array.getElem?_eq_some_iff.1 hg).1, hnc, hcm, cur, hg, hcs, by rw [h.1]; exact htake⟩
theorem clk_set6 {l : List Clk} {i : Nat} {o : Clk} (x : Clk) (h : l[i]? = some o) :
    ((((((l.flatMap Clk.enc).set (i * 6) (.int .i64 x.id)).set (i * 6 + 1) (.string ⟨x.na.toArray⟩)).set (i * 6 + 2) (.int .i64 x.ri)).set (i * 6 + 3) (.int .i64 x.fr)).set (i * 6 + 4) (.int .i64 x.un)).set (i * 6 + 5) (.int .i64 x.st) = (l.set i x).flatMap Clk.enc := by
  obtain ⟨A, B, rfl, rfl⟩ := split_at h
  have hA : (A.flatMap Clk.enc).length = A.length * 6 := flat_length Clk.enc 6 Clk.enc_len A
  rw [List.set_append_right _ _ (Nat.le_refl _), Nat.sub_self, List.set_cons_zero]
  simp only [List.flatMap_append, List.flatMap_cons]
  iterate 6 rw [List.set_append_right _ _ (by omega)]
  rw [hA]
  have e1 : ∀ k, A.length * 6 + k - A.length * 6 = k := fun k => by omega
  simp [e1, Clk.enc]
theorem clk_set_ri {l : List Clk} {i : Nat} {o : Clk} (u : Int) (h : l[i]? = some o) :
    (l.flatMap Clk.enc).set (i * 6 + 2) (.int .i64 u) = (l.set i { o with ri := u }).flatMap Clk.enc := by
  obtain ⟨A, B, rfl, rfl⟩ := split_at h
  have hA : (A.flatMap Clk.enc).length = A.length * 6 := flat_length Clk.enc 6 Clk.enc_len A
  rw [List.set_append_right _ _ (Nat.le_refl _), Nat.sub_self, List.set_cons_zero]
  simp only [List.flatMap_append, List.flatMap_cons]
  rw [List.set_append_right _ _ (by omega), hA]
  have e1 : ∀ k, A.length * 6 + k - A.length * 6 = k := fun k => by omega
  simp [e1, Clk.enc]
theorem clk_set_st {l : List Clk} {i : Nat} {o : Clk} (u : Int) (h : l[i]? = some o) :
    (l.flatMap Clk.enc).set (i * 6 + 5) (.int .i64 u) = (l.set i { o with st := u }).flatMap Clk.enc := by
  obtain ⟨A, B, rfl, rfl⟩ := split_at h
  have hA : (A.flatMap Clk.enc).length = A.length * 6 := flat_length Clk.enc 6 Clk.enc_len A
  rw [List.set_append_right _ _ (Nat.le_refl _), Nat.sub_self, List.set_cons_zero]
  simp only [List.flatMap_append, List.flatMap_cons]
  rw [List.set_append_right _ _ (by omega), hA]
  have e1 : ∀ k, A.length * 6 + k - A.length * 6 = k := fun k => by omega
  simp [e1, Clk.enc]
/-- The list if it is good, and whether it is. -/
def keepC (l : List Clk) : List Clk := if goodC l = true then l else []
theorem keepC_yes {l : List Clk} (h : goodC l = true) : keepC l = l := if_pos h
theorem keepC_no {l : List Clk} (h : goodC l = false) : keepC l = [] := if_neg (by rw [h]; exact Bool.false_ne_true)
/-- The list with one clerk changed, or nothing. -/
def chL (l : List Clk) (pre : Bool) (id : Int) (f : Clk → Clk) : List Clk :=
  if (goodC l && (decide (0 ≤ atI l id) && pre)) = true then keepC (l.set (atI l id).toNat (f (l.getD (atI l id).toNat default))) else []
def chB (l : List Clk) (pre : Bool) (id : Int) (f : Clk → Clk) : Bool :=
  (goodC l && (decide (0 ≤ atI l id) && pre)) && goodC (l.set (atI l id).toNat (f (l.getD (atI l id).toNat default)))
theorem ch_no {l : List Clk} {pre : Bool} {id : Int} {f : Clk → Clk} (h : (goodC l && (decide (0 ≤ atI l id) && pre)) = false) : chL l pre id f = [] ∧ chB l pre id f = false := by
  unfold chL chB; rw [h]; exact ⟨rfl, rfl⟩
theorem ch_yes {l : List Clk} {pre : Bool} {id : Int} {f : Clk → Clk} {j : Nat} {x : Clk} (hg : goodC l = true) (hj : atI l id = (j : Int)) (hx : l[j]? = some x) (hp : pre = true) :
    chL l pre id f = keepC (l.set j (f x)) ∧ chB l pre id f = goodC (l.set j (f x)) := by
  unfold chL chB
  rw [hg, hj, hp, decide_eq_true (show (0 : Int) ≤ (j : Int) by omega), Int.toNat_natCast, List.getD_eq_getElem?_getD, hx]; exact ⟨rfl, rfl⟩
theorem chL_length (l : List Clk) (pre : Bool) (id : Int) (f : Clk → Clk) : (chL l pre id f).length ≤ l.length := by
  unfold chL keepC
  split
  · split
    · simp
    · simp
  · simp
def rightB (r : Int) : Bool := decide (r = 1) || (decide (r = 2) || (decide (r = 4) || decide (r = 8)))
def stF (other : Int) (x : Clk) : Clk := { x with st := other }
def giveF (right : Int) (x : Clk) : Clk := { x with ri := bOr x.ri right }
def takeF (right : Int) (x : Clk) : Clk := { x with ri := x.ri - right }
def takeP (l : List Clk) (id right : Int) : Bool := rightB right && decide (bAnd (l.getD (atI l id).toNat default).ri right ≠ 0)
theorem take_fin : ∀ a : Fin 16, ∀ r ∈ ([1, 2, 4, 8] : List Int), bAnd (a.val : Int) r ≠ 0 → bits .andNot .i64 (a.val : Int) r = (a.val : Int) - r ∧ 0 ≤ (a.val : Int) - r := by decide +kernel
theorem rightB_mem {r : Int} (h : rightB r = true) : r ∈ ([1, 2, 4, 8] : List Int) := by
  simp only [rightB, Bool.or_eq_true, decide_eq_true_eq] at h
  simp; exact h
theorem take_eq {a r : Int} (ha : 0 ≤ a ∧ a ≤ 15) (hr : rightB r = true) (hb : bAnd a r ≠ 0) : bits .andNot .i64 a r = a - r ∧ 0 ≤ a - r := by
  have := take_fin ⟨a.toNat, by omega⟩ r (rightB_mem hr)
  simp only [Int.toNat_of_nonneg ha.1] at this
  exact this hb
theorem set_na {l : List Clk} {i : Nat} {x : Clk} {B : Nat} (hl : ∀ p ∈ l, p.na.length ≤ B) (hx : x.na.length ≤ B) : ∀ p ∈ l.set i x, p.na.length ≤ B := by
  intro p hp
  rcases List.mem_or_eq_of_mem_set hp with h | h
  · exact hl p h
  · rw [h]; exact hx
end Go.Rd
