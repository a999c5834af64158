/- What the tests of holds compute; no condition beyond the lengths that are named. -/
import Derived.Test.YtkbhonafbecbfaaHoldData
import Derived.Test.YtkbhonafbecbfaaRecs
import Derived.Test.YtkbhonafbecbfaaSeries
import Derived.Test.YtkbhonafbecbfaaHasI
import Derived.Test.YtkbhonafbecbfaaIntSl
namespace Go.Proofs.Ytkbhonafbecbfaa
open Go.RowKit Go.Sort Go.Rd
set_option maxHeartbeats 2000000 in
theorem l9One_ok (h : Hld) (sv : Value) (w : World) (hv : Hld.At w (h, sv)) (hl : h.ss.length ≤ 1048576) :
    Calls Try.prog 109 #[.agg #[.int .i64 h.id, .int .i64 h.fr, .int .i64 h.un, sv, .int .i64 h.fi, .int .i64 h.la]] w fun e w' => e = .returned (.bool (okH h)) ∧ Ext w w' := by
  obtain ⟨a, cap, hs⟩ := Reads.shape hv
  simp only at hs
  subst hs
  obtain ⟨w1, hw1⟩ : ∃ w1, w1 = w.alloc (.cells #[.int .i64 h.id, .int .i64 h.fr, .int .i64 h.un, .slice a h.ss.length cap, .int .i64 h.fi, .int .i64 h.la] 93) := ⟨_, rfl⟩
  have E1 : Ext w w1 := by rw [hw1]; exact (Ext.refl w).alloc _
  have b0 : w1.cell? ⟨w.heap.size, 0, none⟩ = some (.int .i64 h.id) := by rw [hw1]; simp
  have b1 : w1.cell? ⟨w.heap.size, 1, none⟩ = some (.int .i64 h.fr) := by rw [hw1]; simp
  have b2 : w1.cell? ⟨w.heap.size, 2, none⟩ = some (.int .i64 h.un) := by rw [hw1]; simp
  have b3 : w1.cell? ⟨w.heap.size, 3, none⟩ = some (.slice a h.ss.length cap) := by rw [hw1]; simp
  have b4 : w1.cell? ⟨w.heap.size, 4, none⟩ = some (.int .i64 h.fi) := by rw [hw1]; simp
  have b5 : w1.cell? ⟨w.heap.size, 5, none⟩ = some (.int .i64 h.la) := by rw [hw1]; simp
  obtain ⟨res, hres⟩ : ∃ b, okH h = b := ⟨_, rfl⟩
  rw [hres]
  have HR := Lib.hid hres
  clear hres
  rcases h with ⟨h0, h1, h2, l, h4, h5⟩
  simp only at b0 b1 b2 b3 b4 b5 hl hv hw1 ⊢
  go_enter Try.func109, Try.ntmps109
  go_upto_region 1 with fail
  rw [← hw1]
  clear hw1
  go_cut [26] (fun c wx => c = .bool (!(inB h0 1 99 && inB h1 0 20000 && (h2 == -1 || inB h2 (h1 + 1) 20000))) ∧ wx = w1)
  case first =>
    go_wp2_with fail
    refine (l1In_ok h0 1 99 _).mono ?_
    rintro e w' ⟨rfl, rfl⟩
    cases t1 : inB h0 1 99
    case false =>
      go_wp2
      go_meet
      exact ⟨congrArg Value.bool (by simp [t1]), rfl⟩
    go_wp2_with fail
    refine (l2Day_ok h1 _).mono ?_
    rintro e w' ⟨rfl, rfl⟩
    cases t2 : inB h1 0 20000
    case false =>
      go_wp2
      go_meet
      exact ⟨congrArg Value.bool (by simp [t1, t2]), rfl⟩
    have t2' := inB_true.1 t2
    cases t3 : (h2 == -1)
    case true =>
      obtain rfl := eq_of_beq t3
      go_wp2
      go_meet
      exact ⟨congrArg Value.bool (by simp [t1, t2]), rfl⟩
    have t3n : (h2 != -1) = true := by rw [bne, t3]; rfl
    have n4 : IntKind.i64.wrap (h1 + 1) = h1 + 1 := IntWalk.i64_in _ (by omega)
    go_wp2_with fail
    refine (l1In_ok h2 (h1 + 1) 20000 _).mono ?_
    rintro e w' ⟨rfl, rfl⟩
    cases t4 : inB h2 (h1 + 1) 20000
    all_goals
      go_wp2
      go_meet
      exact ⟨congrArg Value.bool (by rw [t1, t2, t3, t4]; rfl), rfl⟩
  case rest =>
  obtain ⟨rfl, rfl⟩ := hcut
  cases t1 : (inB h0 1 99 && inB h1 0 20000 && (h2 == -1 || inB h2 (h1 + 1) 20000))
  case false =>
    have HF : Hid (res = false) := Lib.hid (by rw [← HR.out, okH, t1]; rfl)
    go_wp2
    go_ret
    exact ⟨ret_bool HF.out.symm, E1⟩
  have HS : Hid (res = (seriesOk l 5 && inB h4 0 20000 && inB h5 h4 20000)) := Lib.hid (by rw [← HR.out, okH, t1]; simp only [Bool.true_and])
  by_cases t2 : (l.length : Int) ≤ 5
  case neg =>
    have HF : Hid (res = false) := Lib.hid (by rw [HS.out, seriesOk, decide_eq_false t2]; simp)
    go_wp2
    go_ret
    exact ⟨ret_bool HF.out.symm, E1⟩
  have HS2 : Hid (res = (riseB 1 99 l && inB h4 0 20000 && inB h5 h4 20000)) := Lib.hid (by rw [HS.out, seriesOk, decide_eq_true t2, Bool.and_true])
  go_wp2_with fail
  refine (l1Rising_ok l 1 99 _ _ (Reads.mono E1 hv) hl).mono ?_
  rintro e w2 ⟨rfl, E2⟩
  have b4 := E2.cell b4
  have b5 := E2.cell b5
  have E2' := Ext.trans E1 E2
  cases t3 : riseB 1 99 l
  case false =>
    have HF : Hid (res = false) := Lib.hid (by rw [HS2.out, t3]; rfl)
    go_wp2
    go_ret
    exact ⟨ret_bool HF.out.symm, E2'⟩
  go_wp2_with fail
  refine (l2Day_ok h4 _).mono ?_
  rintro e w' ⟨rfl, rfl⟩
  cases t4 : inB h4 0 20000
  case false =>
    have HF : Hid (res = false) := Lib.hid (by rw [HS2.out, t3, t4]; rfl)
    go_wp2
    go_ret
    exact ⟨ret_bool HF.out.symm, E2'⟩
  have HF : Hid (res = inB h5 h4 20000) := Lib.hid (by rw [HS2.out, t3, t4]; rfl)
  go_wp2_with fail
  refine (l1In_ok h5 h4 20000 _).mono ?_
  rintro e w' ⟨rfl, rfl⟩
  go_wp2
  go_ret
  exact ⟨ret_bool HF.out.symm, E2'⟩
set_option maxHeartbeats 400000 in
theorem areDays_ok (x y : Int) (w : World) : Calls Try.prog 142 #[.int .i64 x, .int .i64 y] w fun e w' => e = .returned (.bool (inB x 0 20000 && inB y x 20000)) ∧ w = w' := by
  obtain ⟨res, hres⟩ : ∃ b, (inB x 0 20000 && inB y x 20000) = b := ⟨_, rfl⟩
  have HR := Lib.hid hres
  rw [hres]
  clear hres
  go_enter Try.func142, Try.ntmps142
  go_wp2_with fail
  refine (isDay_ok x _).mono ?_
  rintro e w' ⟨rfl, rfl⟩
  cases t1 : inB x 0 20000
  case false =>
    have HF : Hid (res = false) := Lib.hid (by rw [← HR.out, t1]; rfl)
    go_wp2
    go_ret
    exact ⟨ret_bool HF.out.symm, rfl⟩
  have t1' := inB_true.1 t1
  go_wp2_with fail
  refine (isDay_ok y _).mono ?_
  rintro e w' ⟨rfl, rfl⟩
  cases t2 : inB y 0 20000
  case false =>
    have HF : Hid (res = false) := Lib.hid (by rw [← HR.out, t1, Bool.true_and]; simp only [inB, decide_eq_false_iff_not] at t2 ⊢; omega)
    go_wp2
    go_ret
    exact ⟨ret_bool HF.out.symm, rfl⟩
  have t2' := inB_true.1 t2
  have HF : Hid (res = decide (x ≤ y)) := Lib.hid (by rw [← HR.out, t1, Bool.true_and, inB]; exact decide_eq_decide.2 (by omega))
  go_wp2
  go_ret
  exact ⟨ret_bool HF.out.symm, rfl⟩
set_option maxHeartbeats 2000000 in
theorem isHold_ok (h : Hld) (sv : Value) (w : World) (hv : Hld.At w (h, sv)) (hl : h.ss.length ≤ 1048576) :
    Calls Try.prog 111 #[.agg #[.int .i64 h.id, .int .i64 h.fr, .int .i64 h.un, sv, .int .i64 h.fi, .int .i64 h.la]] w fun e w' => e = .returned (.bool (okH h)) ∧ Ext w w' := by
  obtain ⟨a, cap, hs⟩ := Reads.shape hv
  simp only at hs
  subst hs
  obtain ⟨w1, hw1⟩ : ∃ w1, w1 = w.alloc (.cells #[.int .i64 h.id, .int .i64 h.fr, .int .i64 h.un, .slice a h.ss.length cap, .int .i64 h.fi, .int .i64 h.la] 93) := ⟨_, rfl⟩
  have E1 : Ext w w1 := by rw [hw1]; exact (Ext.refl w).alloc _
  have b0 : w1.cell? ⟨w.heap.size, 0, none⟩ = some (.int .i64 h.id) := by rw [hw1]; simp
  have b1 : w1.cell? ⟨w.heap.size, 1, none⟩ = some (.int .i64 h.fr) := by rw [hw1]; simp
  have b2 : w1.cell? ⟨w.heap.size, 2, none⟩ = some (.int .i64 h.un) := by rw [hw1]; simp
  have b3 : w1.cell? ⟨w.heap.size, 3, none⟩ = some (.slice a h.ss.length cap) := by rw [hw1]; simp
  have b4 : w1.cell? ⟨w.heap.size, 4, none⟩ = some (.int .i64 h.fi) := by rw [hw1]; simp
  have b5 : w1.cell? ⟨w.heap.size, 5, none⟩ = some (.int .i64 h.la) := by rw [hw1]; simp
  obtain ⟨res, hres⟩ : ∃ b, okH h = b := ⟨_, rfl⟩
  rw [hres]
  have HR := Lib.hid hres
  clear hres
  rcases h with ⟨h0, h1, h2, l, h4, h5⟩
  simp only at b0 b1 b2 b3 b4 b5 hl hv hw1 ⊢
  go_enter Try.func111, Try.ntmps111
  go_upto_region 1 with fail
  rw [← hw1]
  clear hw1
  go_cut [2] (fun c wx => c = .bool res ∧ wx = w1)
  case first =>
    go_wp2_with fail
    refine (isId_ok h0 _).mono ?_
    rintro e w' ⟨rfl, rfl⟩
    cases t1 : inB h0 1 99
    case false =>
      have HF : Hid (res = false) := Lib.hid (by rw [← HR.out, okH]; simp [t1])
      go_wp2
      go_meet
      exact ⟨congrArg Value.bool HF.out.symm, rfl⟩
    go_wp2_with fail
    refine (isDay_ok h1 _).mono ?_
    rintro e w' ⟨rfl, rfl⟩
    cases t2 : inB h1 0 20000
    case false =>
      have HF : Hid (res = false) := Lib.hid (by rw [← HR.out, okH]; simp [t2])
      go_wp2
      go_meet
      exact ⟨congrArg Value.bool HF.out.symm, rfl⟩
    have t2' := inB_true.1 t2
    cases t3 : (h2 == -1)
    case true =>
      obtain rfl := eq_of_beq t3
      have HS : Hid (res = (seriesOk l 5 && (inB h4 0 20000 && inB h5 h4 20000))) := Lib.hid (by rw [← HR.out, okH]; simp [t1, t2, Bool.and_assoc])
      go_wp2_with fail
      refine (areSeries_ok l 5 _ _ (Reads.mono E1 hv) hl).mono ?_
      rintro e w' ⟨rfl, rfl⟩
      cases t4 : seriesOk l 5
      case false =>
        have HF : Hid (res = false) := Lib.hid (by rw [HS.out, t4]; rfl)
        go_wp2
        go_meet
        exact ⟨congrArg Value.bool HF.out.symm, rfl⟩
      have HF : Hid (res = (inB h4 0 20000 && inB h5 h4 20000)) := Lib.hid (by rw [HS.out, t4]; rfl)
      go_wp2_with fail
      refine (areDays_ok h4 h5 _).mono ?_
      rintro e w' ⟨rfl, rfl⟩
      go_wp2
      go_meet
      exact ⟨congrArg Value.bool HF.out.symm, rfl⟩
    have t3n : (h2 != -1) = true := by rw [bne, t3]; rfl
    have n4 : IntKind.i64.wrap (h1 + 1) = h1 + 1 := IntWalk.i64_in _ (by omega)
    go_wp2_with fail
    refine (within_ok h2 (h1 + 1) 20000 _).mono ?_
    rintro e w' ⟨rfl, rfl⟩
    cases t5 : inB h2 (h1 + 1) 20000
    case false =>
      have HF : Hid (res = false) := Lib.hid (by rw [← HR.out, okH]; simp [t1, t2, t3, t5])
      go_wp2
      go_meet
      exact ⟨congrArg Value.bool HF.out.symm, rfl⟩
    have HS : Hid (res = (seriesOk l 5 && (inB h4 0 20000 && inB h5 h4 20000))) := Lib.hid (by rw [← HR.out, okH]; simp [t1, t2, t5, Bool.and_assoc])
    go_wp2_with fail
    refine (areSeries_ok l 5 _ _ (Reads.mono E1 hv) hl).mono ?_
    rintro e w' ⟨rfl, rfl⟩
    cases t4 : seriesOk l 5
    case false =>
      have HF : Hid (res = false) := Lib.hid (by rw [HS.out, t4]; rfl)
      go_wp2
      go_meet
      exact ⟨congrArg Value.bool HF.out.symm, rfl⟩
    have HF : Hid (res = (inB h4 0 20000 && inB h5 h4 20000)) := Lib.hid (by rw [HS.out, t4]; rfl)
    go_wp2_with fail
    refine (areDays_ok h4 h5 _).mono ?_
    rintro e w' ⟨rfl, rfl⟩
    go_wp2
    go_meet
    exact ⟨congrArg Value.bool HF.out.symm, rfl⟩
  case rest =>
  obtain ⟨rfl, rfl⟩ := hcut
  go_wp2
  go_ret
  exact ⟨rfl, E1⟩
end Go.Proofs.Ytkbhonafbecbfaa
