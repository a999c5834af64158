/- What the searches for the first cycle compute, the program's and the reference's; no condition beyond the lengths that are named. -/
import Derived.Test.YteaaiiodnejmmaaCyc
namespace Go.Proofs.Yteaaiiodnejmmaa
open Go.RowKit Go.Sort Go.Rd

set_option maxHeartbeats 1000000 in
theorem firstCycle_ok (l : List Trig) (vl : Value) (w : World) (hvl : Reads w 3 vl l.length (l.flatMap Trig.enc)) (hl : l.length ≤ 1048576) :
    Calls Try.prog 55 #[vl] w (RetCyc w.heap.size w (firstCyc l)) := by
  go_enter Try.func55, Try.ntmps55
  go_wp2
  go_loopw [3, 4] (fun nx _ wr => ∃ k : Int, 1 ≤ k ∧ k ≤ 10 ∧ nx = .int .i64 k ∧ Hid (firstCyc l = someFrom (fun k => chainM 10 l [k]) (10 - k).toNat k) ∧ Ext w wr) (fun nx _ _ => (10 - intOf nx).toNat)
  case atStart => exact ⟨1, by omega, by omega, rfl, Lib.hid rfl, Ext.refl _⟩
  case round =>
    obtain ⟨k, hk1, hk10, rfl, HS, hE⟩ := hrel
    by_cases hk9 : k ≤ 9
    · have hm : (10 - k).toNat = (10 - (k + 1)).toNat + 1 := by omega
      have HS2 := HS.out
      rw [hm] at HS2
      have HS3 := Lib.hid HS2
      clear HS2 hm
      have hE' := hE.alloc (.cells #[.int .i64 k] 3)
      have o1 : (wr.alloc (.cells #[.int .i64 k] 3)).ownsRow w.heap.size 3 1 (.slice (some ⟨wr.heap.size, 0, none⟩) 1 1) [k].length ([k].flatMap encI) :=
        World.ownsRow_lit wr #[.int .i64 k] 1 hE.size (by decide) rfl
      have HC := cycleFrom_ok l vl hl w.heap.size 10 [k] _ _ (by have := avail_le [k]; omega) (by simp; omega) (by simp) (by simp) (hvl.mono hE') o1 (by have := hE'.size; omega)
      go_wp2_with fail
      refine HC.mono ?_
      rintro e w5 ⟨v5, rfl, hcyc, E5⟩
      have hE5 := Ext.trans hE' E5
      cases hr : chainM 10 l [k] with
      | none =>
        rw [hr] at hcyc
        obtain rfl : v5 = .slice none 0 0 := hcyc
        have HK2 := Lib.hid hr
        have hnil := fun w' => run_neq_slice_nil_any (P := Try.prog) w' 38 3 none 0 0 0 0 Try.underlying38
        clear hr
        go_wp2
        go_roundw
        case rel => exact ⟨k + 1, by omega, by omega, rfl, Lib.hid (by rw [HS3.out, someFrom_none HK2.out]), hE5⟩
        case measure => simp [intOf]; omega
      | some r =>
        rw [hr] at hcyc
        obtain ⟨hrne, o5⟩ := hcyc
        obtain ⟨g5, cap5, rfl, _⟩ := owns_some o5 (List.length_pos_iff.2 hrne)
        have hnil := fun w' => run_neq_slice_nil_any (P := Try.prog) w' 38 3 (some ⟨g5, 0, none⟩) r.length cap5 0 0 Try.underlying38
        have HFIN := Lib.hid (HS3.out.trans (someFrom_some hr))
        clear hr
        go_wp2
        go_ret
        rw [HFIN.out]
        exact ⟨_, rfl, ⟨hrne, o5⟩, hE5⟩
    · have hk : k = 10 := by omega
      have HFIN : Hid (firstCyc l = none) := (by rw [HS.out, hk]; rfl : firstCyc l = none)
      clear hk
      go_wp2
      go_ret
      rw [HFIN.out]
      exact ⟨_, rfl, rfl, hE⟩
set_option maxHeartbeats 1000000 in
theorem hasCycle_ok (l : List Trig) (vl : Value) (w : World) (hvl : Reads w 3 vl l.length (l.flatMap Trig.enc)) (hl : l.length ≤ 1048576) :
    Calls Try.prog 23 #[vl] w fun e w' => e = .returned (.tuple #[.bool (hasCycB l), .bool (goodT l)]) ∧ Ext w w' := by
  cases hg : goodT l
  case false =>
    have HB : Hid (hasCycB l = false) := (by simp [hasCycB, hg] : hasCycB l = false)
    go_enter Try.func23, Try.ntmps23
    go_wp2_with fail
    refine (areTriggers_ok l vl _ hvl hl).mono ?_
    rintro e w1 ⟨rfl, E1⟩
    go_wp2
    go_ret2
    rw [HB.out]
    exact ⟨rfl, E1⟩
  have HB : Hid (hasCycB l = (firstCyc l).isSome) := (by simp [hasCycB, hg] : hasCycB l = (firstCyc l).isSome)
  go_enter Try.func23, Try.ntmps23
  go_wp2_with fail
  refine (areTriggers_ok l vl _ hvl hl).mono ?_
  rintro e w1 ⟨rfl, E1⟩
  go_wp2_with fail
  refine (firstCycle_ok l vl _ (hvl.mono E1) hl).mono ?_
  rintro e w2 ⟨v2, rfl, hcyc, E2⟩
  have E2' := Ext.trans E1 E2
  cases hr : firstCyc l with
  | none =>
    rw [hr] at hcyc
    obtain rfl : v2 = .slice none 0 0 := hcyc
    have hnil := fun w' => run_neq_slice_nil_any (P := Try.prog) w' 38 3 none 0 0 0 0 Try.underlying38
    have HR := Lib.hid hr
    clear hr
    go_wp2
    go_ret2
    rw [HB.out, HR.out]
    exact ⟨rfl, E2'⟩
  | some r =>
    rw [hr] at hcyc
    obtain ⟨hrne, o5⟩ := hcyc
    obtain ⟨g5, cap5, rfl, _⟩ := owns_some o5 (List.length_pos_iff.2 hrne)
    have hnil := fun w' => run_neq_slice_nil_any (P := Try.prog) w' 38 3 (some ⟨g5, 0, none⟩) r.length cap5 0 0 Try.underlying38
    have HR := Lib.hid hr
    clear hr
    go_wp2
    go_ret2
    rw [HB.out, HR.out]
    exact ⟨rfl, E2'⟩
set_option maxHeartbeats 1000000 in
theorem firstCycleTop_ok (l : List Trig) (vl : Value) (w : World) (hvl : Reads w 3 vl l.length (l.flatMap Trig.enc)) (hl : l.length ≤ 1048576) :
    Calls Try.prog 25 #[vl] w (RetOwnB w 3 1 (cycL l).length ((cycL l).flatMap encI) (cycOk l)) := by
  cases hg : goodT l
  case false =>
    have HB : Hid (cycL l = []) := (by simp [cycL, hg] : cycL l = [])
    have HO : Hid (cycOk l = false) := (by simp [cycOk, hg] : cycOk l = false)
    go_enter Try.func25, Try.ntmps25
    go_wp2_with fail
    refine (areTriggers_ok l vl _ hvl hl).mono ?_
    rintro e w1 ⟨rfl, E1⟩
    go_wp2
    go_ret2
    rw [HB.out, HO.out]
    exact ⟨_, rfl, World.ownsRow_nil _ _ _ _, E1⟩
  have HB : Hid (cycL l = (firstCyc l).getD []) := (by simp [cycL, hg] : cycL l = (firstCyc l).getD [])
  have HO : Hid (cycOk l = (firstCyc l).isSome) := (by simp [cycOk, hg] : cycOk l = (firstCyc l).isSome)
  go_enter Try.func25, Try.ntmps25
  go_wp2_with fail
  refine (areTriggers_ok l vl _ hvl hl).mono ?_
  rintro e w1 ⟨rfl, E1⟩
  go_wp2_with fail
  refine (firstCycle_ok l vl _ (hvl.mono E1) hl).mono ?_
  rintro e w2 ⟨v2, rfl, hcyc, E2⟩
  have E2' := Ext.trans E1 E2
  cases hr : firstCyc l with
  | none =>
    rw [hr] at hcyc
    obtain rfl : v2 = .slice none 0 0 := hcyc
    have hnil := fun w' => run_neq_slice_nil_any (P := Try.prog) w' 38 3 none 0 0 0 0 Try.underlying38
    have HR := Lib.hid hr
    clear hr
    go_wp2
    go_ret2
    rw [HB.out, HO.out, HR.out]
    exact ⟨_, rfl, World.ownsRow_nil _ _ _ _, E2'⟩
  | some r =>
    rw [hr] at hcyc
    obtain ⟨hrne, o5⟩ := hcyc
    have o6 := owns_mono o5 E1.size
    obtain ⟨g5, cap5, rfl, _⟩ := owns_some o5 (List.length_pos_iff.2 hrne)
    have hnil := fun w' => run_neq_slice_nil_any (P := Try.prog) w' 38 3 (some ⟨g5, 0, none⟩) r.length cap5 0 0 Try.underlying38
    have HR := Lib.hid hr
    clear hr
    go_wp2
    go_ret2
    rw [HB.out, HO.out, HR.out]
    exact ⟨_, rfl, o6, E2'⟩
end Go.Proofs.Yteaaiiodnejmmaa
