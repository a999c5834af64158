/- What the functions on rules and schedules compute; no condition beyond the lengths that are named. -/
import Derived.Test.YtankodjcccnjlaaFlatRule
import Derived.Test.YtankodjcccnjlaaInts
import Derived.Test.YtankodjcccnjlaaCore
import Derived.Deep.RegionHeld3
namespace Go.Proofs.Ytankodjcccnjlaa
open Go.RowKit Go.Sort Go.Rd

set_option maxHeartbeats 400000 in
theorem l4One_ok (p1 p2 p3 p4 : Int) (w : World) :
    Calls Try.prog 40 #[.agg #[.int .i64 p1, .int .i64 p2, .int .i64 p3, .int .i64 p4]] w fun e w' => e = .returned (.bool (okR ⟨p1, p2, p3, p4⟩)) ∧ Ext w w' := by
  go_enter Try.func40, Try.ntmps40
  go_wp2_with (go_at_call 39; refine (l1In_ok _ _ _ _).mono ?_; rintro e w' ⟨rfl, rfl⟩)
  all_goals (go_ret; exact ⟨ret_bool (by simp [okR, *]), (Ext.refl _).alloc _⟩)
set_option maxHeartbeats 400000 in
theorem l4Before_ok (a1 a2 a3 a4 b1 b2 b3 b4 : Int) (w : World) :
    Calls Try.prog 41 #[.agg #[.int .i64 a1, .int .i64 a2, .int .i64 a3, .int .i64 a4], .agg #[.int .i64 b1, .int .i64 b2, .int .i64 b3, .int .i64 b4]] w fun e w' => e = .returned (.bool (ltR ⟨a1, a2, a3, a4⟩ ⟨b1, b2, b3, b4⟩)) ∧ Ext w w' := by
  cases h1 : decide (a1 < b1) <;> cases h2 : (a1 == b1) <;> cases h3 : decide (a2 < b2)
  all_goals
    have HR := Lib.hid (show ltR ⟨a1, a2, a3, a4⟩ ⟨b1, b2, b3, b4⟩ = (decide (a1 < b1) || (a1 == b1 && decide (a2 < b2))) from rfl)
    go_enter Try.func41, Try.ntmps41
    go_wp2
    go_ret
    exact ⟨ret_bool (by rw [HR.out, h1, h2, h3]; rfl), ((Ext.refl _).alloc _).alloc _⟩
set_option maxHeartbeats 400000 in
theorem isId_ok (x : Int) (w : World) : Calls Try.prog 46 #[.int .i64 x] w fun e w' => e = .returned (.bool (inB x 1 99)) ∧ w = w' := by
  go_enter Try.func46, Try.ntmps46
  go_wp2_with (go_at_call 42; refine (within_ok _ _ _ _).mono ?_; rintro e w' ⟨rfl, rfl⟩)
  go_ret
  exact ⟨rfl, rfl⟩
set_option maxHeartbeats 400000 in
theorem isAct_ok (x : Int) (w : World) : Calls Try.prog 47 #[.int .i64 x] w fun e w' => e = .returned (.bool (inB x 1 3)) ∧ w = w' := by
  go_enter Try.func47, Try.ntmps47
  go_wp2_with (go_at_call 42; refine (within_ok _ _ _ _).mono ?_; rintro e w' ⟨rfl, rfl⟩)
  go_ret
  exact ⟨rfl, rfl⟩
set_option maxHeartbeats 400000 in
theorem isRule_ok (p1 p2 p3 p4 : Int) (w : World) :
    Calls Try.prog 43 #[.agg #[.int .i64 p1, .int .i64 p2, .int .i64 p3, .int .i64 p4]] w fun e w' => e = .returned (.bool (okR ⟨p1, p2, p3, p4⟩)) ∧ Ext w w' := by
  go_enter Try.func43, Try.ntmps43
  go_wp2_with (first | (go_at_call 42; refine (within_ok _ _ _ _).mono ?_; rintro e w' ⟨rfl, rfl⟩) | (go_at_call 46; refine (isId_ok _ _).mono ?_; rintro e w' ⟨rfl, rfl⟩) | (go_at_call 47; refine (isAct_ok _ _).mono ?_; rintro e w' ⟨rfl, rfl⟩))
  all_goals (go_ret; exact ⟨ret_bool (by simp [okR, *]), (Ext.refl _).alloc _⟩)
set_option maxHeartbeats 1000000 in
theorem compareRules_ok (a1 a2 a3 a4 b1 b2 b3 b4 : Int) (w : World) :
    Calls Try.prog 44 #[.agg #[.int .i64 a1, .int .i64 a2, .int .i64 a3, .int .i64 a4], .agg #[.int .i64 b1, .int .i64 b2, .int .i64 b3, .int .i64 b4]] w fun e w' => e = .returned (.int .i64 (cmpR ⟨a1, a2, a3, a4⟩ ⟨b1, b2, b3, b4⟩)) ∧ Ext w w' := by
  have mixed : Try.prog.follows .mixedOrders = true := by kernel_rfl
  go_enter Try.func44, Try.ntmps44
  go_wp2
  obtain ⟨wb, hwb⟩ : ∃ wb, wb = (w.alloc (.cells #[.int .i64 a1, .int .i64 a2, .int .i64 a3, .int .i64 a4] 48)).alloc (.cells #[.int .i64 b1, .int .i64 b2, .int .i64 b3, .int .i64 b4] 48) := ⟨_, rfl⟩
  have t0 : wb.cell? ⟨w.heap.size, 0, none⟩ = some (.int .i64 a1) := by rw [hwb]; simp
  have t1 : wb.cell? ⟨w.heap.size, 1, none⟩ = some (.int .i64 a2) := by rw [hwb]; simp
  have t2 : wb.cell? ⟨w.heap.size + 1, 0, none⟩ = some (.int .i64 b1) := by rw [hwb]; simp
  have t3 : wb.cell? ⟨w.heap.size + 1, 1, none⟩ = some (.int .i64 b2) := by rw [hwb]; simp
  have hEb : Ext w wb := by rw [hwb]; exact ((Ext.refl _).alloc _).alloc _
  rw [← hwb]
  clear hwb
  go_region_held3 (fun w' => w'.cell? ⟨w.heap.size, 0, none⟩ = some (.int .i64 a1) ∧ w'.cell? ⟨w.heap.size, 1, none⟩ = some (.int .i64 a2) ∧ w'.cell? ⟨w.heap.size + 1, 0, none⟩ = some (.int .i64 b1) ∧ w'.cell? ⟨w.heap.size + 1, 1, none⟩ = some (.int .i64 b2)) (go_keep)
    (first | (go_at_call 24; refine (compare_ok _ _ _).mono ?_; rintro e w' ⟨rfl, rfl⟩) | (go_at_call 48; refine (or_ok (cmpI a1 b1) (cmpI a2 b2) _ _ ?_ ?_).mono ?_; (simp); (simp); rintro e w' ⟨rfl, rfl⟩))
  all_goals
    go_wp2
    go_ret
    exact ⟨rfl, (hEb.alloc _).drew⟩

set_option maxHeartbeats 1000000 in
theorem l4Good_ok (l : List Rul) (v : Value) (w : World) (hv : Reads w 4 v l.length (l.flatMap Rul.enc)) (hl : l.length ≤ 1048576) :
    Calls Try.prog 30 #[v] w fun e w' => e = .returned (.bool (goodR l)) ∧ Ext w w' := by
  have mixed : Try.prog.follows .mixedOrders = true := by kernel_rfl
  obtain ⟨a, cap, rfl⟩ := hv.shape
  go_enter Try.func30, Try.ntmps30
  go_wp2
  go_loopw [3] (fun i wr => ∃ k : Nat, k ≤ l.length ∧ i = .int .i64 k ∧ Hid (∀ i, i < k → AscAt okR ltR l i) ∧ Ext w wr) (fun i _ => l.length - (intOf i).toNat)
  case atStart => exact ⟨0, Nat.zero_le _, rfl, Lib.hid fun i h => by omega, Ext.refl _⟩
  case round =>
    obtain ⟨k, hk, rfl, HALL, hE⟩ := hrel
    by_cases hlt : k < l.length
    · have hv1 := hv.mono hE
      obtain ⟨b, off, rfl, hc⟩ := Reads.elems Rul.enc_len hv1 (by omega)
      obtain ⟨⟨p1, p2, p3, p4⟩, hx⟩ := get_of_lt hlt
      have x0 := cell_in_class (hc k _ hx 0 _ rfl)
      have x1 := cell_in_class (hc k _ hx 1 _ rfl)
      have x2 := cell_in_class (hc k _ hx 2 _ rfl)
      have x3 := cell_in_class (hc k _ hx 3 _ rfl)
      simp only [Nat.add_zero] at x0
      have HC := Lib.hid hc
      obtain ⟨⟨q1, q2, q3, q4⟩, hy⟩ : ∃ y, 0 < k → l[k - 1]? = some y := by
        by_cases h0 : 0 < k
        · obtain ⟨y, hy⟩ := get_of_lt (show k - 1 < l.length by omega); exact ⟨y, fun _ => hy⟩
        · exact ⟨default, fun h => absurd h h0⟩
      have HA := Lib.hid (ascAt_iff (ok := okR) (lt := ltR) hx hy)
      have HY := Lib.hid hy
      clear hc hx hy hv1 hv
      go_upto_region 4 with fail
      go_cut [32] (fun c wx => c = .bool (!okR ⟨p1, p2, p3, p4⟩ || (decide (0 < k) && !ltR ⟨q1, q2, q3, q4⟩ ⟨p1, p2, p3, p4⟩)) ∧ Ext w wx)
      case first =>
        have cO := Calls.in_class (w := wr) (fun w' _ => l4One_ok p1 p2 p3 p4 w')
        cases hok : okR ⟨p1, p2, p3, p4⟩
        case false =>
          rw [hok] at cO
          refine wp_region_quiet_below mixed (by kernel_rfl) ?_
          repeat (first | go_big_quiet_step (exact cO _ _) | quiet_step (exact cO _ _))
          refine wpQuiet_nil ?_
          intro _ hw'
          obtain ⟨⟨dq, osq⟩, hw''⟩ := hw'
          subst hw''
          clear cO x0 x1 x2 x3
          go_wp2
          go_meet
          exact ⟨congrArg Value.bool (by rw [hok]; rfl), hE.regrown dq osq⟩
        rw [hok] at cO
        by_cases hk0 : 0 < k
        case neg =>
          have hd : decide (0 < (k : Int)) = false := by simp; omega
          have HD := Lib.hid (show (decide (0 < k) : Bool) = false from decide_eq_false hk0)
          refine wp_region_quiet_below mixed (by kernel_rfl) ?_
          repeat (first | go_big_quiet_step (exact cO _ _) | quiet_step (exact cO _ _))
          refine wpQuiet_nil ?_
          intro _ hw'
          obtain ⟨⟨dq, osq⟩, hw''⟩ := hw'
          subst hw''
          clear cO x0 x1 x2 x3
          go_wp2
          go_meet
          exact ⟨congrArg Value.bool (by rw [hok, HD.out]; rfl), hE.regrown dq osq⟩
        have hd : decide (0 < (k : Int)) = true := by simp; omega
        have HD := Lib.hid (show (decide (0 < k) : Bool) = true from decide_eq_true hk0)
        have y0 := cell_in_class (HC.out (k - 1) _ (HY.out hk0) 0 _ rfl)
        have y1 := cell_in_class (HC.out (k - 1) _ (HY.out hk0) 1 _ rfl)
        have y2 := cell_in_class (HC.out (k - 1) _ (HY.out hk0) 2 _ rfl)
        have y3 := cell_in_class (HC.out (k - 1) _ (HY.out hk0) 3 _ rfl)
        simp only [Nat.add_zero] at y0
        have cB := Calls.in_class (w := wr) (fun w' _ => l4Before_ok q1 q2 q3 q4 p1 p2 p3 p4 w')
        refine wp_region_quiet_below mixed (by kernel_rfl) ?_
        repeat (first | go_big_quiet_step (first | exact cO _ _ | exact cB _ _) | quiet_step (first | exact cO _ _ | exact cB _ _))
        refine wpQuiet_nil ?_
        intro _ hw'
        obtain ⟨⟨dq, osq⟩, hw''⟩ := hw'
        subst hw''
        clear cO cB x0 x1 x2 x3 y0 y1 y2 y3
        go_wp2
        go_meet
        exact ⟨congrArg Value.bool (by rw [hok, HD.out]; rfl), hE.regrown dq osq⟩
      case rest =>
      obtain ⟨rfl, hE2⟩ := hcut
      clear x0 x1 x2 x3
      cases hbad : (!okR ⟨p1, p2, p3, p4⟩ || (decide (0 < k) && !ltR ⟨q1, q2, q3, q4⟩ ⟨p1, p2, p3, p4⟩))
      case true =>
        go_wp2
        go_ret
        exact ⟨ret_bool (not_good hlt (by rw [HA.out]; exact asc_bad hbad)).symm, hE2⟩
      go_wp2
      go_roundw
      case rel => exact ⟨k + 1, by omega, by go_num, Lib.hid (ascAt_step HALL.out (HA.out.2 (asc_fine hbad))), hE2⟩
      case measure => simp [intOf]; omega
    · have hkn : k = l.length := by omega
      have HG := Lib.hid (show ascB okR ltR l = true from ascB_true fun i hi => HALL.out i (by omega))
      clear hkn
      go_wp2
      go_ret
      exact ⟨ret_bool (by rw [goodR, HG.out, Bool.true_and]; exact decide_eq_decide.2 (by omega)), hE⟩
end Go.Proofs.Ytankodjcccnjlaa
