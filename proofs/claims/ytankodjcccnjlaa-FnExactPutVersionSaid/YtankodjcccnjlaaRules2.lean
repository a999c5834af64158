/- What the functions on schedules compute: IsSchedule, the rules for a series; no condition beyond the lengths that are named. -/
import Derived.Test.YtankodjcccnjlaaRules
namespace Go.Proofs.Ytankodjcccnjlaa
open Go.RowKit Go.Sort Go.Rd

set_option maxHeartbeats 1000000 in
theorem isSchedule_ok (l : List Rul) (v : Value) (w : World) (hv : Reads w 4 v l.length (l.flatMap Rul.enc)) (hl : l.length ≤ 1048576) :
    Calls Try.prog 33 #[v] w fun e w' => e = .returned (.bool (goodR l)) ∧ Ext w w' := by
  have mixed : Try.prog.follows .mixedOrders = true := by kernel_rfl
  obtain ⟨a, cap, rfl⟩ := hv.shape
  go_enter Try.func33, Try.ntmps33
  go_wp2
  go_loopw [7] (fun i wr => ∃ k : Nat, k ≤ l.length ∧ i = .int .i64 k ∧ Hid (∀ i, i < k → AscAt okR ltR l i) ∧ Ext w wr) (fun i _ => l.length - (intOf i).toNat)
  case atStart => exact ⟨0, Nat.zero_le _, rfl, Lib.hid fun i h => by omega, Ext.refl _⟩
  case round =>
    obtain ⟨k, hk, rfl, HALL, hE⟩ := hrel
    by_cases hlt : k < l.length
    · have hv1 := hv.mono hE
      obtain ⟨b, off, rfl, hc⟩ := Reads.elems Rul.enc_len hv1 (by omega)
      obtain ⟨⟨p1, p2, p3, p4⟩, hx⟩ := get_of_lt hlt
      have c0 := hc k _ hx 0 _ rfl
      have c1 := hc k _ hx 1 _ rfl
      have c2 := hc k _ hx 2 _ rfl
      have c3 := hc k _ hx 3 _ rfl
      simp only [Nat.add_zero] at c0
      have HC := Lib.hid hc
      obtain ⟨⟨q1, q2, q3, q4⟩, hy⟩ : ∃ y, 0 < k → l[k - 1]? = some y := by
        by_cases h0 : 0 < k
        · obtain ⟨y, hy⟩ := get_of_lt (show k - 1 < l.length by omega); exact ⟨y, fun _ => hy⟩
        · exact ⟨default, fun h => absurd h h0⟩
      have HA := Lib.hid (ascAt_iff (ok := okR) (lt := ltR) hx hy)
      have HY := Lib.hid hy
      clear hc hx hy hv1 hv
      go_upto_region 4 with fail
      go_cut [28] (fun c wx => c = .bool (!okR ⟨p1, p2, p3, p4⟩ || (decide (0 < k) && !ltR ⟨q1, q2, q3, q4⟩ ⟨p1, p2, p3, p4⟩)) ∧ Ext w wx)
      case first =>
        obtain ⟨wb, hwb⟩ : ∃ wb, wb = wr.alloc (.cells #[.int .i64 p1, .int .i64 p2, .int .i64 p3, .int .i64 p4] 48) := ⟨_, rfl⟩
        have x0 := cell_in_class (show wb.cell? ⟨wr.heap.size, 0, none⟩ = some (.int .i64 p1) by rw [hwb]; simp)
        have x1 := cell_in_class (show wb.cell? ⟨wr.heap.size, 1, none⟩ = some (.int .i64 p2) by rw [hwb]; simp)
        have x2 := cell_in_class (show wb.cell? ⟨wr.heap.size, 2, none⟩ = some (.int .i64 p3) by rw [hwb]; simp)
        have x3 := cell_in_class (show wb.cell? ⟨wr.heap.size, 3, none⟩ = some (.int .i64 p4) by rw [hwb]; simp)
        have hEb : Ext w wb := by rw [hwb]; exact hE.alloc _
        have hRb : Ext wr wb := by rw [hwb]; exact (Ext.refl _).alloc _
        rw [← hwb]
        clear hwb c0 c1 c2 c3
        have cO := Calls.in_class (w := wb) (fun w' _ => isRule_ok p1 p2 p3 p4 w')
        cases hok : okR ⟨p1, p2, p3, p4⟩
        case false =>
          rw [hok] at cO
          refine wp_region_quiet_below mixed (by kernel_rfl) ?_
          repeat (first | go_big_quiet_step (exact cO _ _) | quiet_step (exact cO _ _))
          refine wpQuiet_nil ?_
          intro _ hw'
          obtain ⟨⟨dq, osq⟩, hw''⟩ := hw'
          subst hw''
          clear cO x0 x1 x2 x3
          go_wp2
          go_meet
          exact ⟨congrArg Value.bool (by rw [hok]; rfl), hEb.regrown dq osq⟩
        rw [hok] at cO
        by_cases hk0 : 0 < k
        case neg =>
          have hd : decide (0 < (k : Int)) = false := by simp; omega
          have HD := Lib.hid (show (decide (0 < k) : Bool) = false from decide_eq_false hk0)
          refine wp_region_quiet_below mixed (by kernel_rfl) ?_
          repeat (first | go_big_quiet_step (exact cO _ _) | quiet_step (exact cO _ _))
          refine wpQuiet_nil ?_
          intro _ hw'
          obtain ⟨⟨dq, osq⟩, hw''⟩ := hw'
          subst hw''
          clear cO x0 x1 x2 x3
          go_wp2
          go_meet
          exact ⟨congrArg Value.bool (by rw [hok, HD.out]; rfl), hEb.regrown dq osq⟩
        have hd : decide (0 < (k : Int)) = true := by simp; omega
        have HD := Lib.hid (show (decide (0 < k) : Bool) = true from decide_eq_true hk0)
        have y0 := cell_in_class (hRb.cell (HC.out (k - 1) _ (HY.out hk0) 0 _ rfl))
        have y1 := cell_in_class (hRb.cell (HC.out (k - 1) _ (HY.out hk0) 1 _ rfl))
        have y2 := cell_in_class (hRb.cell (HC.out (k - 1) _ (HY.out hk0) 2 _ rfl))
        have y3 := cell_in_class (hRb.cell (HC.out (k - 1) _ (HY.out hk0) 3 _ rfl))
        simp only [Nat.add_zero] at y0
        have cB := Calls.in_class (w := wb) (fun w' _ => compareRules_ok q1 q2 q3 q4 p1 p2 p3 p4 w')
        refine wp_region_quiet_below mixed (by kernel_rfl) ?_
        repeat (first | go_big_quiet_step (first | exact cO _ _ | exact cB _ _) | quiet_step (first | exact cO _ _ | exact cB _ _))
        refine wpQuiet_nil ?_
        intro _ hw'
        obtain ⟨⟨dq, osq⟩, hw''⟩ := hw'
        subst hw''
        clear cO cB x0 x1 x2 x3 y0 y1 y2 y3
        go_wp2
        go_meet
        exact ⟨congrArg Value.bool (by rw [hok, HD.out, ← ltR_cmp]; rfl), hEb.regrown dq osq⟩
      case rest =>
      obtain ⟨rfl, hE2⟩ := hcut
      clear c0 c1 c2 c3
      cases hbad : (!okR ⟨p1, p2, p3, p4⟩ || (decide (0 < k) && !ltR ⟨q1, q2, q3, q4⟩ ⟨p1, p2, p3, p4⟩))
      case true =>
        go_wp2
        go_ret
        exact ⟨ret_bool (not_good hlt (by rw [HA.out]; exact asc_bad hbad)).symm, hE2⟩
      go_wp2
      go_roundw
      case rel => exact ⟨k + 1, by omega, by go_num, Lib.hid (ascAt_step HALL.out (HA.out.2 (asc_fine hbad))), hE2⟩
      case measure => simp [intOf]; omega
    · have hkn : k = l.length := by omega
      have HG := Lib.hid (show ascB okR ltR l = true from ascB_true fun i hi => HALL.out i (by omega))
      clear hkn
      go_wp2
      go_ret
      exact ⟨ret_bool (by rw [goodR, HG.out, Bool.true_and]; exact decide_eq_decide.2 (by omega)), hE⟩


end Go.Proofs.Ytankodjcccnjlaa
