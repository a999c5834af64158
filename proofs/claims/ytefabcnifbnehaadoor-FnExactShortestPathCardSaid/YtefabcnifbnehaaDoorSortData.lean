/- Sorted and compacted lists of integers; without a program; no condition beyond the lists that are named. -/
import Derived.Test.YtefabcnifbnehaaDoorContraData
import Derived.Lib.SlicesCompact
namespace Go.Rd
theorem keep_reach (zs : List Int) : ∀ i, i < zs.length → ∃ j, j ≤ i ∧ Lib.keeps zs.toArray j = true ∧ zs.toArray[j]! = zs.toArray[i]!
  | 0, _ => ⟨0, Nat.le_refl _, by simp [Lib.keeps], rfl⟩
  | i + 1, h => by
    cases hk : Lib.keeps zs.toArray (i + 1)
    case true => exact ⟨i + 1, Nat.le_refl _, hk, rfl⟩
    case false =>
      have he : zs.toArray[i + 1]! = zs.toArray[i]! := by
        simp only [Lib.keeps, decide_eq_false_iff_not, not_or, Decidable.not_not] at hk
        exact hk.2
      obtain ⟨j, h1, h2, h3⟩ := keep_reach zs i (by omega)
      exact ⟨j, by omega, h2, by rw [h3, he]⟩
theorem mem_compact {zs : List Int} {x : Int} : x ∈ Lib.compact zs ↔ x ∈ zs := by
  unfold Lib.compact Lib.compactUpTo
  rw [List.mem_map]
  constructor
  · rintro ⟨i, hi, rfl⟩
    have hi' : i < zs.length := List.mem_range.1 (List.mem_filter.1 hi).1
    simp [getElem!_pos, hi']
  · intro hx
    obtain ⟨i, hi, rfl⟩ := List.mem_iff_getElem.1 hx
    obtain ⟨j, h1, h2, h3⟩ := keep_reach zs i hi
    refine ⟨j, List.mem_filter.2 ⟨List.mem_range.2 (by omega), h2⟩, ?_⟩
    rw [h3]
    simp [getElem!_pos, hi]
theorem compact_strict {zs : List Int} (h : zs.Pairwise (· ≤ ·)) : (Lib.compact zs).Pairwise (· < ·) := by
  unfold Lib.compact Lib.compactUpTo
  rw [List.pairwise_map, List.pairwise_filter]
  refine (List.pairwise_lt_range (n := zs.length)).imp_of_mem ?_
  intro i j hi hj hij _ hkj
  have hj' : j < zs.length := List.mem_range.1 hj
  have hn : zs.toArray[j]! ≠ zs.toArray[j - 1]! := by
    simp only [Lib.keeps, decide_eq_true_eq] at hkj
    rcases hkj with h | h
    · omega
    · exact h
  rw [List.pairwise_iff_getElem] at h
  have e1 : zs.toArray[i]! = zs[i]'(by omega) := by simp [getElem!_pos, show i < zs.length by omega]
  have e2 : zs.toArray[j]! = zs[j]'hj' := by simp [getElem!_pos, hj']
  have e3 : zs.toArray[j - 1]! = zs[j - 1]'(by omega) := by simp [getElem!_pos, show j - 1 < zs.length by omega]
  rw [e2, e3] at hn
  rw [e1, e2]
  have h2 := h (j - 1) j (by omega) hj' (by omega)
  by_cases hc : i = j - 1
  · subst hc; omega
  · have h1 := h i (j - 1) (by omega) (by omega) (by omega); omega
theorem sort_sorted (l : List Int) : (l.mergeSort fun x y => decide (x ≤ y)).Pairwise (· ≤ ·) := by
  have := List.pairwise_mergeSort (le := fun x y : Int => decide (x ≤ y)) (fun a b c h1 h2 => by simp at *; omega) (fun a b => by simp; omega) l
  exact this.imp fun h => by simpa using h
theorem mem_sort {l : List Int} {x : Int} : x ∈ (l.mergeSort fun x y => decide (x ≤ y)) ↔ x ∈ l := List.mem_mergeSort
end Go.Rd
