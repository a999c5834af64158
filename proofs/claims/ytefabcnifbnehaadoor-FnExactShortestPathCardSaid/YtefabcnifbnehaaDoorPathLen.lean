/- A shortest path is no longer than the list; without a program; no condition. -/
import Derived.Test.YtefabcnifbnehaaDoorPathI
namespace Go.Proofs.YtefabcnifbnehaaDoor
open Go.RowKit Go.Sort Go.Rd
theorem pathR_len (l : List Fmt) (u t day : Int) : ((pathR l u t day).getD []).length ≤ l.length := by
  cases hk : pathOk l u t day
  · rw [pathR_no hk]; exact Nat.zero_le _
  · rw [pathR_yes hk]
    cases hs : shortO l day u t with
    | none => exact Nat.zero_le _
    | some p =>
      obtain ⟨n, h1, h2⟩ := shortO_of hs
      have hw : waysOk l u day = true := by
        unfold pathOk at hk
        rw [Bool.and_eq_true] at hk
        exact hk.1
      have h3 := short_len (waysOk_parts hw).2 ⟨p, h1.1⟩ h2
      have h4 := waysL_length l u day
      have h5 := h1.1.len
      simp only [Option.getD_some]
      omega
end Go.Proofs.YtefabcnifbnehaaDoor
