/- What the tests of days and numbers compute; no condition. -/
import Derived.Test.YtlablieekijgoaaDoorCore
namespace Go.Proofs.YtlablieekijgoaaDoor
open Go.RowKit Go.Sort Go.Rd
set_option maxHeartbeats 400000 in
theorem l2Day_ok (x : Int) (w : World) : Calls Tryd.prog 53 #[.int .i64 x] w fun e w' => e = .returned (.bool (inB x 0 20000)) ∧ w = w' := by
  go_enter Tryd.func53, Tryd.ntmps53
  go_wp2_with fail
  refine (l1In_ok x 0 20000 _).mono ?_
  rintro e w' ⟨rfl, rfl⟩
  go_wp2
  go_ret
  exact ⟨rfl, rfl⟩
set_option maxHeartbeats 400000 in
theorem isDay_ok (x : Int) (w : World) : Calls Tryd.prog 55 #[.int .i64 x] w fun e w' => e = .returned (.bool (inB x 0 20000)) ∧ w = w' := by
  go_enter Tryd.func55, Tryd.ntmps55
  go_wp2_with fail
  refine (within_ok x 0 20000 _).mono ?_
  rintro e w' ⟨rfl, rfl⟩
  go_wp2
  go_ret
  exact ⟨rfl, rfl⟩
set_option maxHeartbeats 400000 in
theorem areDays_ok (x y : Int) (w : World) : Calls Tryd.prog 47 #[.int .i64 x, .int .i64 y] w fun e w' => e = .returned (.bool (inB x 0 20000 && inB y x 20000)) ∧ w = w' := by
  obtain ⟨res, hres⟩ : ∃ b, (inB x 0 20000 && inB y x 20000) = b := ⟨_, rfl⟩
  have HR := Lib.hid hres
  rw [hres]
  clear hres
  go_enter Tryd.func47, Tryd.ntmps47
  go_wp2_with fail
  refine (isDay_ok x _).mono ?_
  rintro e w' ⟨rfl, rfl⟩
  cases t1 : inB x 0 20000
  case false =>
    have HF : Hid (res = false) := Lib.hid (by rw [← HR.out, t1]; rfl)
    go_wp2
    go_ret
    exact ⟨ret_bool HF.out.symm, rfl⟩
  have t1' := inB_true.1 t1
  go_wp2_with fail
  refine (isDay_ok y _).mono ?_
  rintro e w' ⟨rfl, rfl⟩
  cases t2 : inB y 0 20000
  case false =>
    have HF : Hid (res = false) := Lib.hid (by rw [← HR.out, t1, Bool.true_and]; simp only [inB, decide_eq_false_iff_not] at t2 ⊢; omega)
    go_wp2
    go_ret
    exact ⟨ret_bool HF.out.symm, rfl⟩
  have t2' := inB_true.1 t2
  have HF : Hid (res = decide (x ≤ y)) := Lib.hid (by rw [← HR.out, t1, Bool.true_and, inB]; exact decide_eq_decide.2 (by omega))
  go_wp2
  go_ret
  exact ⟨ret_bool HF.out.symm, rfl⟩
set_option maxHeartbeats 400000 in
theorem isId_ok (x : Int) (w : World) : Calls Tryd.prog 44 #[.int .i64 x] w fun e w' => e = .returned (.bool (inB x 1 99)) ∧ w = w' := by
  go_enter Tryd.func44, Tryd.ntmps44
  go_wp2_with fail
  refine (within_ok x 1 99 _).mono ?_
  rintro e w' ⟨rfl, rfl⟩
  go_wp2
  go_ret
  exact ⟨rfl, rfl⟩
end Go.Proofs.YtlablieekijgoaaDoor
