/- Rules that never decide, as plain functions; without a program; no condition. -/
import Derived.Test.YtpmjjkhikciokaaDecData
namespace Go.Rd
/-- A filter with a map behind it, taken element by element. -/
def fmG {α β : Type} (p : α → Bool) (f : α → β) (l : List α) (k : Nat) : List β := ((l.take k).filter p).map f
theorem fmG_yes {α β : Type} {p : α → Bool} {f : α → β} {l : List α} {k : Nat} {x : α} (h : l[k]? = some x) (hp : p x = true) : fmG p f l (k + 1) = fmG p f l k ++ [f x] := by
  unfold fmG; rw [filter_step p l k x h, if_pos hp]; simp
theorem fmG_no {α β : Type} {p : α → Bool} {f : α → β} {l : List α} {k : Nat} {x : α} (h : l[k]? = some x) (hp : p x = false) : fmG p f l (k + 1) = fmG p f l k := by
  unfold fmG; rw [filter_step p l k x h, if_neg (by rw [hp]; exact Bool.false_ne_true)]; simp
theorem fmG_len {α β : Type} (p : α → Bool) (f : α → β) (l : List α) (k : Nat) : (fmG p f l k).length ≤ k := by
  unfold fmG; rw [List.length_map]
  exact Nat.le_trans (List.length_filter_le _ _) (by rw [List.length_take]; omega)
theorem fmG_zero {α β : Type} (p : α → Bool) (f : α → β) (l : List α) : fmG p f l 0 = [] := by simp [fmG]
theorem fmG_all {α β : Type} (p : α → Bool) (f : α → β) {l : List α} {k : Nat} (h : l.length ≤ k) : fmG p f l k = (l.filter p).map f := by
  unfold fmG; rw [List.take_of_length_le h]
/-- The longest period of a series; 0 where it has none. -/
def longF (l : List Rul) (k : Nat) : Int := (l.take k).foldl (fun m x => max m x.dy) 0
theorem longF_step {l : List Rul} {k : Nat} {x : Rul} (h : l[k]? = some x) : longF l (k + 1) = max (longF l k) x.dy := by
  unfold longF; rw [List.take_add_one, h, List.foldl_append]; rfl
def longP (sch : List Rul) (s : Int) : Int := (forR sch s).foldl (fun m x => max m x.dy) 0
theorem longF_all {sch : List Rul} {s : Int} {k : Nat} (h : (forR sch s).length ≤ k) : longF (forR sch s) k = longP sch s := by
  unfold longF longP; rw [List.take_of_length_le h]
theorem max_fold (l : List Rul) : ∀ (a d : Int), d < l.foldl (fun m x => max m x.dy) a ↔ d < a ∨ ∃ y ∈ l, d < y.dy := by
  induction l with
  | nil => intro a d; simp
  | cons x l ih =>
    intro a d
    rw [List.foldl_cons, ih]
    simp only [List.mem_cons, exists_eq_or_imp]
    constructor
    · rintro (h | h)
      · by_cases h2 : d < a
        · exact .inl h2
        · exact .inr (.inl (by omega))
      · exact .inr (.inr h)
    · rintro (h | h | h)
      · exact .inl (by omega)
      · exact .inl (by omega)
      · exact .inr h
def nevP (sch : List Rul) (x : Rul) : Bool := x.ev == 0 && sch.any fun y => y.se == x.se && decide (x.dy < y.dy)
theorem nevP_long {sch : List Rul} {x : Rul} (h0 : 0 ≤ x.dy) : (x.ev == 0 && decide (x.dy < longP sch x.se)) = nevP sch x := by
  unfold nevP
  congr 1
  rw [Bool.eq_iff_iff, decide_eq_true_eq, longP, max_fold, List.any_eq_true]
  constructor
  · rintro (h | ⟨y, hy, h⟩)
    · omega
    · obtain ⟨h1, h2⟩ := List.mem_filter.1 hy
      exact ⟨y, h1, by rw [Bool.and_eq_true, decide_eq_true_eq]; exact ⟨h2, h⟩⟩
  · rintro ⟨y, hy, h⟩
    rw [Bool.and_eq_true, decide_eq_true_eq] at h
    exact .inr ⟨y, List.mem_filter.2 ⟨hy, h.1⟩, h.2⟩
def pairR (x : Rul) : Evt := ⟨x.se, x.ev⟩
def nevL (sch : List Rul) : List Evt := if goodR sch = true then (sch.filter (nevP sch)).map pairR else []
theorem nevL_yes {sch : List Rul} (h : goodR sch = true) : nevL sch = (sch.filter (nevP sch)).map pairR := if_pos h
theorem nevL_no {sch : List Rul} (h : goodR sch = false) : nevL sch = [] := if_neg (by rw [h]; exact Bool.false_ne_true)
theorem nevL_length (sch : List Rul) : (nevL sch).length ≤ sch.length := by
  unfold nevL; split
  · rw [List.length_map]; exact List.length_filter_le _ _
  · simp
theorem rul_dy {sch : List Rul} (h : goodR sch = true) {x : Rul} (hx : x ∈ sch) : 0 ≤ x.dy ∧ x.dy ≤ 20000 := by
  have := goodR_mem h hx
  simp only [okR, Bool.and_eq_true, inB_true] at this
  omega
end Go.Rd
