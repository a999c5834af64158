/- What the tests of a word compute; the one condition is that the text is not longer than Go allows. -/
import Derived.Test.YtefabcnifbnehaaDoorWordData
import Derived.Test.YtefabcnifbnehaaDoorCore
import Derived.Shelf.Lay
import Derived.Shelf.Strings.SlTrimAscii
import Derived.Ground.NamesProg
import Derived.Laws.IdiomStrings
namespace Go.Proofs
open Go.Shelf
shelf_lay Lays.n160 Nm 160 at Tryd as Tryd.lays160
end Go.Proofs
namespace Go.Proofs.YtefabcnifbnehaaDoor
open Go.RowKit Go.Sort Go.Rd Go.Shelf

set_option maxHeartbeats 1000000 in
theorem l2Word_ok (l : List UInt8) (w : World) (hl : l.length ≤ maxLen) : Calls Tryd.prog 81 #[.string ⟨l.toArray⟩] w fun e w' => e = .returned (.bool (okW l)) ∧ Ext w w' := by
  unfold maxLen at hl
  go_enter Tryd.func81, Tryd.ntmps81
  go_wp2
  go_loopw [3] (fun iv wr => ∃ k : Nat, iv = .int .i64 k ∧ k ≤ l.length ∧ Hid ((l.take k).all letB = true) ∧ wr = w) (fun iv _ => ((l.length : Int) - intOf iv).toNat)
  case atStart => exact ⟨0, rfl, Nat.zero_le _, Lib.hid rfl, rfl⟩
  case round =>
    obtain ⟨k, rfl, hk, hH, rfl⟩ := hrel
    by_cases hlt : k < l.length
    · obtain ⟨b, hb⟩ := get_of_lt hlt
      have hb2 : (⟨l.toArray⟩ : ByteArray)[k]'(by simpa [ByteArray.size] using hlt) = b := by
        have := hb; rw [List.getElem?_eq_getElem hlt] at this; simpa [ByteArray.getElem_eq_getElem_data] using this
      by_cases h1 : b.toNat < 97
      · have HN := Lib.hid (all_no hb (by unfold letB; rw [decide_eq_false (by omega : ¬ 97 ≤ b.toNat)]; rfl))
        go_wp2
        go_ret
        rw [HN.out]
        exact ⟨rfl, Ext.refl _⟩
      by_cases h2 : 122 < b.toNat
      · have HN := Lib.hid (all_no hb (by unfold letB; rw [decide_eq_false (by omega : ¬ b.toNat ≤ 122), Bool.and_false]))
        go_wp2
        go_ret
        rw [HN.out]
        exact ⟨rfl, Ext.refl _⟩
      have HN := Lib.hid (all_step hb hH.out (by unfold letB; rw [decide_eq_true (by omega : 97 ≤ b.toNat), decide_eq_true (by omega : b.toNat ≤ 122)]; rfl))
      go_wp2
      go_roundw
      case rel => exact ⟨k + 1, by simp, by omega, HN, (by first | rfl | trivial)⟩
      case measure => simp [intOf]; omega
    · have HN := Lib.hid (all_end hlt hH.out)
      go_wp2_with fail
      refine (l1In_ok _ 1 10 _).mono ?_
      rintro e w' ⟨rfl, rfl⟩
      go_wp2
      go_ret
      rw [HN.out]
      exact ⟨rfl, Ext.refl _⟩
set_option maxHeartbeats 1000000 in
theorem isWord_ok (l : List UInt8) (w : World) (hl : l.length ≤ maxLen) : Calls Tryd.prog 56 #[.string ⟨l.toArray⟩] w fun e w' => e = .returned (.bool (okW l)) ∧ Ext w w' := by
  have hcon := Any.strings_Trim_laid Tryd.lays160 (by kernel_rfl) ⟨l.toArray⟩ ⟨#[97, 98, 99, 100, 101, 102, 103, 104, 105, 106, 107, 108, 109, 110, 111, 112, 113, 114, 115, 116, 117, 118, 119, 120, 121, 122]⟩ w (by show l.toArray.size ≤ _; simp; unfold maxLen at hl; omega) (by decide) (ascii_of_all (by decide))
  change Calls Tryd.prog 84 _ _ (fun e w' => e = .returned (.string ⟨(Lib.trimS l abc).toArray⟩) ∧ Below w.heap.size w w') at hcon
  obtain ⟨r, hr⟩ : ∃ r, Lib.trimS l abc = r := ⟨_, rfl⟩
  have HR : Hid (okW l = (inB (l.length : Int) 1 10 && decide (r = []))) := Lib.hid (by rw [← hr, trim_dec]; unfold okW; rw [Bool.and_comm])
  rw [hr] at hcon
  clear hr
  cases h1 : inB (l.length : Int) 1 10
  case false =>
    go_enter Tryd.func56, Tryd.ntmps56
    go_wp2_with fail
    refine (within_ok _ 1 10 _).mono ?_
    rintro e w' ⟨rfl, rfl⟩
    rw [h1]
    go_wp2
    go_ret
    rw [HR.out, h1]
    exact ⟨rfl, Ext.refl _⟩
  go_enter Tryd.func56, Tryd.ntmps56
  go_wp2_with fail
  refine (within_ok _ 1 10 _).mono ?_
  rintro e w' ⟨rfl, rfl⟩
  rw [h1]
  go_wp2_with fail
  refine (hcon).mono ?_
  rintro e w' ⟨rfl, E⟩
  go_wp2
  go_ret
  rw [HR.out, h1]
  refine ⟨ret_bool ?_, E⟩
  cases r <;> simp
end Go.Proofs.YtefabcnifbnehaaDoor
