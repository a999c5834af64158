/- A filter with a map behind it, taken element by element; without a program; no condition. -/
import Derived.Test.YtankodjcccnjlaaData
namespace Go.Rd
def fmK {α : Type} (p : α → Bool) (f : α → Int) (l : List α) (k : Nat) : List Int := ((l.take k).filter p).map f
theorem fmK_yes {α : Type} {p : α → Bool} {f : α → Int} {l : List α} {k : Nat} {x : α} (h : l[k]? = some x) (hp : p x = true) : fmK p f l (k + 1) = fmK p f l k ++ [f x] := by
  unfold fmK; rw [filter_step p l k x h, if_pos hp]; simp
theorem fmK_no {α : Type} {p : α → Bool} {f : α → Int} {l : List α} {k : Nat} {x : α} (h : l[k]? = some x) (hp : p x = false) : fmK p f l (k + 1) = fmK p f l k := by
  unfold fmK; rw [filter_step p l k x h, if_neg (by rw [hp]; exact Bool.false_ne_true)]; simp
theorem fmK_len {α : Type} (p : α → Bool) (f : α → Int) (l : List α) (k : Nat) : (fmK p f l k).length ≤ k := by
  unfold fmK; rw [List.length_map]
  exact Nat.le_trans (List.length_filter_le _ _) (by rw [List.length_take]; omega)
theorem fmK_zero {α : Type} (p : α → Bool) (f : α → Int) (l : List α) : fmK p f l 0 = [] := by simp [fmK]
theorem fmK_all {α : Type} (p : α → Bool) (f : α → Int) {l : List α} {k : Nat} (h : l.length ≤ k) : fmK p f l k = (l.filter p).map f := by
  unfold fmK; rw [List.take_of_length_le h]
end Go.Rd
