/- What the law's own marks that are texts compute; no condition beyond the bound that is named. -/
import Derived.Test.YtefabcnifbnehaaDoorTextData
import Derived.Test.YtefabcnifbnehaaDoorRows
import Derived.Laws.IdiomStrings
namespace Go.Rd
theorem digA_step {n0 n : Nat} {acc : List UInt8} (h : digA n acc = digA n0 []) (hn : n ≠ 0) : digA (n / 10) (UInt8.ofNat (48 + n % 10) :: acc) = digA n0 [] := by
  rw [← digA_pos hn]; exact h
end Go.Rd
namespace Go.Proofs.YtefabcnifbnehaaDoor
open Go.RowKit Go.Sort Go.Rd
set_option maxRecDepth 2000 in
set_option maxHeartbeats 1000000 in
theorem markText_ok (k : Int) (w : World) (hk1 : k ≤ 1048576 * 1048576 * 1024) :
    Calls Tryd.prog 54 #[.int .i64 k] w fun e w' => e = .returned (.string ⟨(markB k).toArray⟩) ∧ Ext w w' := by
  by_cases hk0 : k ≤ 0
  · have HB : Hid (markB k = [109, 48]) := Lib.hid (if_pos hk0)
    go_enter Tryd.func54, Tryd.ntmps54
    go_wp2
    go_ret
    rw [HB.out]
    exact ⟨rfl, Ext.refl _⟩
  have HB : Hid (markB k = 109 :: digA k.toNat []) := Lib.hid (if_neg hk0)
  obtain ⟨n0, rfl⟩ : ∃ n : Nat, k = n := ⟨k.toNat, by omega⟩
  rw [Int.toNat_natCast] at HB
  go_enter Tryd.func54, Tryd.ntmps54
  go_wp2
  go_loopw [0, 3] (fun nv sv wr => ∃ (n : Nat) (acc : List UInt8), nv = .int .i64 n ∧ sv = .string ⟨acc.toArray⟩ ∧ Hid (digA n acc = digA n0 []) ∧ acc.length + n ≤ n0 ∧ Ext w wr) (fun nv _ _ => (intOf nv).toNat)
  case atStart => exact ⟨n0, [], rfl, rfl, Lib.hid rfl, by simp, Ext.refl _⟩
  case round =>
    obtain ⟨n, acc, rfl, rfl, HD, hn, hE⟩ := hrel
    by_cases hz : n = 0
    · subst hz
      go_wp2
      go_ret
      have h1 := HD.out
      rw [digA_zero] at h1
      rw [HB.out, ← h1]
      exact ⟨rfl, hE⟩
    · have hpos : (0 : Int) < (n : Int) := by omega
      have hcv := run_convert_bytes_back (P := Tryd.prog) (wr.alloc (.cells #[.int .u8 (48 + (n : Int) % 10)] 5)) 90 9 5 ⟨wr.heap.size, 0, none⟩ 1 [UInt8.ofNat (48 + n % 10)] Tryd.underlying90 Tryd.underlying5 Tryd.underlying9 (fun j hj => by
        obtain rfl : j = 0 := by simpa using hj
        have h10 : n % 10 < 10 := Nat.mod_lt _ (by omega)
        simp [Addr.add]; omega)
      simp only [List.length_cons, List.length_nil, Nat.zero_add] at hcv
      have HD2 := Lib.hid (digA_step HD.out (by omega))
      have HQ : Hid ((n : Int) / 10 = ((n / 10 : Nat) : Int)) := Lib.hid (by omega)
      go_wp2
      go_roundw
      case rel => exact ⟨n / 10, UInt8.ofNat (48 + n % 10) :: acc, by first | rfl | rw [← HQ.out], congrArg Value.string (ByteArray.ext (by simp)), HD2, by simp only [List.length_cons]; omega, hE.alloc _⟩
      case measure => simp [intOf]; omega
end Go.Proofs.YtefabcnifbnehaaDoor
