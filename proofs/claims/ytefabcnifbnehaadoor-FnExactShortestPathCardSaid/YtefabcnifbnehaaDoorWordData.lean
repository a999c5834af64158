/- What a word is, over lists of bytes; without a program; no condition. -/
import Derived.Test.YtefabcnifbnehaaDoorData
import Derived.Lib.SlTrimSet
namespace Go.Rd
open Go.Sort Go.RowKit
def abc : List UInt8 := [97, 98, 99, 100, 101, 102, 103, 104, 105, 106, 107, 108, 109, 110, 111, 112, 113, 114, 115, 116, 117, 118, 119, 120, 121, 122]
def letB (b : UInt8) : Bool := decide (97 ≤ b.toNat) && decide (b.toNat ≤ 122)
theorem abc_fin : ∀ n : Fin 256, abc.contains (UInt8.ofNat n.val) = letB (UInt8.ofNat n.val) := by decide +kernel
theorem abc_has (b : UInt8) : abc.contains b = letB b := by
  have h := abc_fin ⟨b.toNat, b.toNat_lt⟩
  rw [show UInt8.ofNat (⟨b.toNat, b.toNat_lt⟩ : Fin 256).val = b from UInt8.ofNat_toNat] at h
  exact h
def okW (l : List UInt8) : Bool := l.all letB && inB (l.length : Int) 1 10
theorem dropWhile_nil {α : Type} (p : α → Bool) : ∀ l : List α, l.dropWhile p = [] ↔ l.all p = true
  | [] => by simp
  | x :: l => by
    have ih := dropWhile_nil p l
    cases hx : p x
    · simp [hx]
    · simp only [List.dropWhile_cons, hx, if_true, List.all_cons, Bool.true_and]; exact ih
theorem trim_nil (l : List UInt8) : Lib.trimS l abc = [] ↔ l.all letB = true := by
  have hp : (fun b => abc.contains b) = letB := funext abc_has
  unfold Lib.trimS Lib.trimLeftS Lib.trimRightS
  rw [hp, dropWhile_nil]
  constructor
  · intro h
    rw [List.all_reverse] at h
    by_cases hn : l.reverse.dropWhile letB = []
    · have := (dropWhile_nil letB _).1 hn
      rwa [List.all_reverse] at this
    · exfalso
      have h1 := List.head_dropWhile_not letB hn
      have h2 := List.all_eq_true.1 h _ (List.head_mem hn)
      rw [h1] at h2; exact Bool.noConfusion h2
  · intro h
    have h2 : l.reverse.dropWhile letB = [] := (dropWhile_nil letB _).2 (by rw [List.all_reverse]; exact h)
    rw [h2]; rfl
theorem trim_dec (l : List UInt8) : decide (Lib.trimS l abc = []) = l.all letB := by
  by_cases h : l.all letB = true
  · rw [h]; exact decide_eq_true ((trim_nil l).2 h)
  · rw [Bool.not_eq_true _ |>.mp h]; exact decide_eq_false (fun hh => h ((trim_nil l).1 hh))
theorem all_step {l : List UInt8} {k : Nat} {b : UInt8} (hb : l[k]? = some b) (ht : (l.take k).all letB = true) (hl : letB b = true) : (l.take (k + 1)).all letB = true := by
  rw [List.take_add_one, hb, List.all_append, ht]; simp [hl]
theorem all_no {l : List UInt8} {k : Nat} {b : UInt8} (hb : l[k]? = some b) (hl : letB b = false) : okW l = false := by
  have : l.all letB = false := by
    rw [List.all_eq_false]; exact ⟨b, List.mem_of_getElem? hb, by rw [hl]; exact Bool.false_ne_true⟩
  unfold okW; rw [this]; rfl
theorem all_end {l : List UInt8} {k : Nat} (hk : ¬ k < l.length) (ht : (l.take k).all letB = true) : okW l = inB (l.length : Int) 1 10 := by
  rw [List.take_of_length_le (by omega)] at ht
  unfold okW; rw [ht]; rfl
end Go.Rd
