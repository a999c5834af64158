/- What the tests of days, events and records compute; no condition beyond the lengths that are named. -/
import Derived.Test.YtkbhonafbecbfaaRecData
import Derived.Test.YtkbhonafbecbfaaNestBase
import Derived.Test.YtkbhonafbecbfaaCore
import Derived.Test.YtkbhonafbecbfaaRules
namespace Go.Proofs.Ytkbhonafbecbfaa
open Go.RowKit Go.Sort Go.Rd

set_option maxHeartbeats 400000 in
theorem l2Day_ok (x : Int) (w : World) : Calls Try.prog 82 #[.int .i64 x] w fun e w' => e = .returned (.bool (inB x 0 20000)) ∧ w = w' := by
  go_enter Try.func82, Try.ntmps82
  go_wp2_with fail
  refine (l1In_ok x 0 20000 _).mono ?_
  rintro e w' ⟨rfl, rfl⟩
  go_wp2
  go_ret
  exact ⟨rfl, rfl⟩
set_option maxHeartbeats 400000 in
theorem isDay_ok (x : Int) (w : World) : Calls Try.prog 58 #[.int .i64 x] w fun e w' => e = .returned (.bool (inB x 0 20000)) ∧ w = w' := by
  go_enter Try.func58, Try.ntmps58
  go_wp2_with fail
  refine (within_ok x 0 20000 _).mono ?_
  rintro e w' ⟨rfl, rfl⟩
  go_wp2
  go_ret
  exact ⟨rfl, rfl⟩
set_option maxHeartbeats 400000 in
theorem l2Event_ok (a b : Int) (w : World) : Calls Try.prog 127 #[.agg #[.int .i64 a, .int .i64 b]] w fun e w' => e = .returned (.bool (okE ⟨a, b⟩)) ∧ Ext w w' := by
  obtain ⟨r, hr⟩ : ∃ r, okE ⟨a, b⟩ = r := ⟨_, rfl⟩
  rw [hr]
  have HR := Lib.hid hr
  clear hr
  cases h1 : inB a 1 9
  case false =>
    have HF : Hid (r = false) := (by rw [← HR.out]; simp [okE, h1] : r = false)
    go_enter Try.func127, Try.ntmps127
    go_wp2_with fail
    refine (l1In_ok a 1 9 _).mono ?_
    rintro e w' ⟨rfl, rfl⟩
    rw [h1]
    go_wp2
    go_ret
    exact ⟨ret_bool HF.out.symm, (Ext.refl _).alloc _⟩
  have HF : Hid (r = inB b 0 20000) := (by rw [← HR.out]; simp [okE, h1] : r = inB b 0 20000)
  go_enter Try.func127, Try.ntmps127
  go_wp2_with fail
  refine (l1In_ok a 1 9 _).mono ?_
  rintro e w' ⟨rfl, rfl⟩
  rw [h1]
  go_wp2_with fail
  refine (l2Day_ok b _).mono ?_
  rintro e w' ⟨rfl, rfl⟩
  go_wp2
  go_ret
  exact ⟨ret_bool HF.out.symm, (Ext.refl _).alloc _⟩
set_option maxHeartbeats 400000 in
theorem isEvent_ok (a b : Int) (w : World) : Calls Try.prog 131 #[.agg #[.int .i64 a, .int .i64 b]] w fun e w' => e = .returned (.bool (okE ⟨a, b⟩)) ∧ Ext w w' := by
  obtain ⟨r, hr⟩ : ∃ r, okE ⟨a, b⟩ = r := ⟨_, rfl⟩
  rw [hr]
  have HR := Lib.hid hr
  clear hr
  cases h1 : inB a 1 9
  case false =>
    have HF : Hid (r = false) := (by rw [← HR.out]; simp [okE, h1] : r = false)
    go_enter Try.func131, Try.ntmps131
    go_wp2_with fail
    refine (within_ok a 1 9 _).mono ?_
    rintro e w' ⟨rfl, rfl⟩
    rw [h1]
    go_wp2
    go_ret
    exact ⟨ret_bool HF.out.symm, (Ext.refl _).alloc _⟩
  have HF : Hid (r = inB b 0 20000) := (by rw [← HR.out]; simp [okE, h1] : r = inB b 0 20000)
  go_enter Try.func131, Try.ntmps131
  go_wp2_with fail
  refine (within_ok a 1 9 _).mono ?_
  rintro e w' ⟨rfl, rfl⟩
  rw [h1]
  go_wp2_with fail
  refine (isDay_ok b _).mono ?_
  rintro e w' ⟨rfl, rfl⟩
  go_wp2
  go_ret
  exact ⟨ret_bool HF.out.symm, (Ext.refl _).alloc _⟩
theorem geE_not (a b : Evt) : decide (b.ki ≤ a.ki) = !ltE a b := by
  unfold ltE; rw [Bool.eq_iff_iff]; simp
theorem okEv_or (ma : Int) (e : Evt) : (!okE e || decide (e.dy < ma)) = !okEv ma e := by
  unfold okEv; cases okE e <;> simp
theorem okRec_all (r : Rec) : okRec r = (inB r.id 1 999 && inB r.se 1 99 && inB r.ma 0 20000 && decide (r.evs.length ≤ 6) && goodE r.ma r.evs) := rfl

set_option maxHeartbeats 2000000 in
theorem l2Record_ok (r : Rec) (sv : Value) (w : World) (hv : Rec.At w (r, sv)) (hl : r.evs.length ≤ 1048576) :
    Calls Try.prog 114 #[.agg #[.int .i64 r.id, .int .i64 r.se, .int .i64 r.ma, sv]] w fun e w' => e = .returned (.bool (okRec r)) ∧ Ext w w' := by
  have mixed : Try.prog.follows .mixedOrders = true := by kernel_rfl
  rcases r with ⟨id, se, ma, l⟩
  obtain ⟨a, cap, hs⟩ := Reads.shape hv
  have hv : Reads w 2 sv l.length (l.flatMap Evt.enc) := hv
  simp only at hs hl
  subst hs
  obtain ⟨res, hres⟩ : ∃ b, okRec ⟨id, se, ma, l⟩ = b := ⟨_, rfl⟩
  simp only
  rw [hres]
  have HRES := Lib.hid (hres.symm.trans (okRec_all _))
  clear hres
  simp only at HRES
  obtain ⟨wB, hwB⟩ : ∃ wB, wB = w.alloc (.cells #[.int .i64 id, .int .i64 se, .int .i64 ma, .slice a l.length cap] 45) := ⟨_, rfl⟩
  have EB : Ext w wB := by rw [hwB]; exact (Ext.refl w).alloc _
  have b0 : wB.cell? ⟨w.heap.size, 0, none⟩ = some (.int .i64 id) := by rw [hwB]; simp
  have b1 : wB.cell? ⟨w.heap.size, 1, none⟩ = some (.int .i64 se) := by rw [hwB]; simp
  have b2 : wB.cell? ⟨w.heap.size, 2, none⟩ = some (.int .i64 ma) := by rw [hwB]; simp
  have b3 : wB.cell? ⟨w.heap.size, 3, none⟩ = some (.slice a l.length cap) := by rw [hwB]; simp
  have B0 := Lib.hid b0
  have B1 := Lib.hid b1
  have B2 := Lib.hid b2
  have B3 := Lib.hid b3
  go_enter Try.func114, Try.ntmps114
  go_wp2
  rw [← hwB]
  clear hwB
  go_loopw [3, 4] (fun i _ wr => ∃ k : Nat, k ≤ l.length ∧ i = .int .i64 k ∧ Hid (∀ i, i < k → AscAt (okEv ma) ltE l i) ∧ Ext wB wr) (fun i _ _ => l.length - (intOf i).toNat)
  case atStart => exact ⟨0, Nat.zero_le _, rfl, Lib.hid fun i h => by omega, Ext.refl _⟩
  case round =>
    obtain ⟨k, hk, rfl, HALL, hE⟩ := hrel
    replace b0 := hE.cell B0.out
    replace b1 := hE.cell B1.out
    replace b2 := hE.cell B2.out
    replace b3 := hE.cell B3.out
    have bs := block_lt_of_cell b3
    by_cases hlt : k < l.length
    · have hv1 := hv.mono (Ext.trans EB hE)
      obtain ⟨b, off, rfl, hc⟩ := Reads.elems Evt.enc_len hv1 (by omega)
      obtain ⟨⟨p1, p2⟩, hx⟩ := get_of_lt hlt
      have c0 := hc k _ hx 0 _ rfl
      have c1 := hc k _ hx 1 _ rfl
      simp only [Nat.add_zero] at c0
      have HC := Lib.hid hc
      obtain ⟨⟨q1, q2⟩, hy⟩ : ∃ y, 0 < k → l[k - 1]? = some y := by
        by_cases h0 : 0 < k
        · obtain ⟨y, hy⟩ := get_of_lt (show k - 1 < l.length by omega); exact ⟨y, fun _ => hy⟩
        · exact ⟨default, fun h => absurd h h0⟩
      have HA := Lib.hid (ascAt_iff (ok := okEv ma) (lt := ltE) hx hy)
      have HY := Lib.hid hy
      clear hc hx hy hv1 hv
      go_upto_region 5 with fail
      go_cut [42] (fun c wx => c = .bool (!okEv ma ⟨p1, p2⟩ || (decide (0 < k) && !ltE ⟨q1, q2⟩ ⟨p1, p2⟩)) ∧ Ext wr wx)
      case first =>
        obtain ⟨wb, hwb⟩ : ∃ wb, wb = wr.alloc (.cells #[.int .i64 p1, .int .i64 p2] 83) := ⟨_, rfl⟩
        have hRb : Ext wr wb := by rw [hwb]; exact (Ext.refl _).alloc _
        have x0 := cell_in_class (show wb.cell? ⟨wr.heap.size, 0, none⟩ = some (.int .i64 p1) by rw [hwb]; simp)
        have x1 := cell_in_class (show wb.cell? ⟨wr.heap.size, 1, none⟩ = some (.int .i64 p2) by rw [hwb]; simp)
        have x2 := cell_in_class (hRb.cell b2)
        have x3 := cell_in_class (hRb.cell b3)
        rw [← hwb]
        clear hwb c0 c1 b0 b1 b2 b3
        have cO := Calls.in_class (w := wb) (fun w' _ => l2Event_ok p1 p2 w')
        cases hok : okE ⟨p1, p2⟩
        case false =>
          have HV : Hid (okEv ma ⟨p1, p2⟩ = false) := (by simp [okEv, hok] : okEv ma ⟨p1, p2⟩ = false)
          rw [hok] at cO
          refine wp_region_quiet_below mixed (by kernel_rfl) ?_
          repeat (first | go_big_quiet_step (exact cO _ _) | quiet_step (exact cO _ _))
          refine wpQuiet_nil ?_
          intro _ hw'
          obtain ⟨⟨dq, osq⟩, hw''⟩ := hw'
          subst hw''
          clear cO x0 x1 x2 x3
          go_wp2
          go_meet
          exact ⟨congrArg Value.bool (by rw [HV.out]; rfl), hRb.regrown dq osq⟩
        rw [hok] at cO
        by_cases hma : p2 < ma
        case pos =>
          have HV : Hid (okEv ma ⟨p1, p2⟩ = false) := (by simp [okEv, hok, hma] : okEv ma ⟨p1, p2⟩ = false)
          refine wp_region_quiet_below mixed (by kernel_rfl) ?_
          repeat (first | go_big_quiet_step (exact cO _ _) | quiet_step (exact cO _ _))
          refine wpQuiet_nil ?_
          intro _ hw'
          obtain ⟨⟨dq, osq⟩, hw''⟩ := hw'
          subst hw''
          clear cO x0 x1 x2 x3
          go_wp2
          go_meet
          exact ⟨congrArg Value.bool (by rw [HV.out]; rfl), hRb.regrown dq osq⟩
        have HV : Hid (okEv ma ⟨p1, p2⟩ = true) := (by simp [okEv, hok]; omega : okEv ma ⟨p1, p2⟩ = true)
        by_cases hk0 : 0 < k
        case neg =>
          have hd : decide (0 < (k : Int)) = false := by simp; omega
          have HD := Lib.hid (show (decide (0 < k) : Bool) = false from decide_eq_false hk0)
          refine wp_region_quiet_below mixed (by kernel_rfl) ?_
          repeat (first | go_big_quiet_step (exact cO _ _) | quiet_step (exact cO _ _))
          refine wpQuiet_nil ?_
          intro _ hw'
          obtain ⟨⟨dq, osq⟩, hw''⟩ := hw'
          subst hw''
          clear cO x0 x1 x2 x3
          go_wp2
          go_meet
          exact ⟨congrArg Value.bool (by rw [HV.out, HD.out]; rfl), hRb.regrown dq osq⟩
        have hd : decide (0 < (k : Int)) = true := by simp; omega
        have HD := Lib.hid (show (decide (0 < k) : Bool) = true from decide_eq_true hk0)
        have y0 := cell_in_class (hRb.cell (HC.out (k - 1) _ (HY.out hk0) 0 _ rfl))
        simp only [Nat.add_zero] at y0
        have n1 : (k : Int) - 1 < (l.length : Int) := by omega
        have n2 : (1 : Int) ≤ (k : Int) := by omega
        have n3 : (0 : Int) ≤ (k : Int) - 1 := by omega
        have n4 : IntKind.i64.wrap ((k : Int) - 1) = (k : Int) - 1 := IntWalk.i64_in _ (by omega)
        have n5 : ((k : Int) - 1).toNat = k - 1 := by omega
        refine wp_region_quiet_below mixed (by kernel_rfl) ?_
        repeat (first | go_big_quiet_step (exact cO _ _) | quiet_step (exact cO _ _))
        refine wpQuiet_nil ?_
        intro _ hw'
        obtain ⟨⟨dq, osq⟩, hw''⟩ := hw'
        subst hw''
        clear cO x0 x1 x2 x3 y0
        go_wp2
        go_meet
        exact ⟨congrArg Value.bool (by rw [HV.out, HD.out, ← geE_not]; rfl), hRb.regrown dq osq⟩
      case rest =>
      obtain ⟨rfl, hE2⟩ := hcut
      clear c0 c1
      have hE3 := Ext.trans hE hE2
      cases hbad : (!okEv ma ⟨p1, p2⟩ || (decide (0 < k) && !ltE ⟨q1, q2⟩ ⟨p1, p2⟩))
      case true =>
        have HF : Hid (goodE ma l = false) := (ascB_false hlt (by rw [HA.out]; exact asc_bad hbad) : goodE ma l = false)
        have HF2 : Hid (res = false) := (by rw [HRES.out, HF.out, Bool.and_false] : res = false)
        go_wp2
        go_ret
        exact ⟨ret_bool HF2.out.symm, Ext.trans EB hE3⟩
      go_wp2
      go_roundw
      case rel => exact ⟨k + 1, by omega, by go_num, Lib.hid (ascAt_step HALL.out (HA.out.2 (asc_fine hbad))), hE3⟩
      case measure => simp [intOf]; omega
    · have HG : Hid (goodE ma l = true) := (ascB_true fun i hi => HALL.out i (by omega) : goodE ma l = true)
      have HR2 : Hid (res = (inB id 1 999 && inB se 1 99 && inB ma 0 20000 && decide (l.length ≤ 6))) := (by rw [HRES.out, HG.out, Bool.and_true] : res = (inB id 1 999 && inB se 1 99 && inB ma 0 20000 && decide (l.length ≤ 6)))
      have hE4 := Ext.trans EB hE
      cases g1 : inB id 1 999
      case false =>
        rw [g1] at HR2
        go_wp2_with fail
        refine (l1In_ok id 1 999 _).mono ?_
        rintro e w' ⟨rfl, rfl⟩
        rw [g1]
        go_wp2
        go_ret
        exact ⟨ret_bool HR2.out.symm, hE4⟩
      cases g2 : inB se 1 99
      case false =>
        rw [g1, g2] at HR2
        go_wp2_with fail
        refine (l1In_ok id 1 999 _).mono ?_
        rintro e w' ⟨rfl, rfl⟩
        rw [g1]
        go_wp2_with fail
        refine (l1In_ok se 1 99 _).mono ?_
        rintro e w' ⟨rfl, rfl⟩
        rw [g2]
        go_wp2
        go_ret
        exact ⟨ret_bool HR2.out.symm, hE4⟩
      cases g3 : inB ma 0 20000
      case false =>
        rw [g1, g2, g3] at HR2
        go_wp2_with fail
        refine (l1In_ok id 1 999 _).mono ?_
        rintro e w' ⟨rfl, rfl⟩
        rw [g1]
        go_wp2_with fail
        refine (l1In_ok se 1 99 _).mono ?_
        rintro e w' ⟨rfl, rfl⟩
        rw [g2]
        go_wp2_with fail
        refine (l2Day_ok ma _).mono ?_
        rintro e w' ⟨rfl, rfl⟩
        rw [g3]
        go_wp2
        go_ret
        exact ⟨ret_bool HR2.out.symm, hE4⟩
      rw [g1, g2, g3] at HR2
      go_wp2_with fail
      refine (l1In_ok id 1 999 _).mono ?_
      rintro e w' ⟨rfl, rfl⟩
      rw [g1]
      go_wp2_with fail
      refine (l1In_ok se 1 99 _).mono ?_
      rintro e w' ⟨rfl, rfl⟩
      rw [g2]
      go_wp2_with fail
      refine (l2Day_ok ma _).mono ?_
      rintro e w' ⟨rfl, rfl⟩
      rw [g3]
      go_wp2
      go_ret
      exact ⟨ret_bool (by rw [HR2.out]; simp only [Bool.true_and]; exact decide_eq_decide.2 (by omega)), hE4⟩
set_option maxHeartbeats 2000000 in
theorem isRecord_ok (r : Rec) (sv : Value) (w : World) (hv : Rec.At w (r, sv)) (hl : r.evs.length ≤ 1048576) :
    Calls Try.prog 116 #[.agg #[.int .i64 r.id, .int .i64 r.se, .int .i64 r.ma, sv]] w fun e w' => e = .returned (.bool (okRec r)) ∧ Ext w w' := by
  have mixed : Try.prog.follows .mixedOrders = true := by kernel_rfl
  rcases r with ⟨id, se, ma, l⟩
  obtain ⟨a, cap, hs⟩ := Reads.shape hv
  have hv : Reads w 2 sv l.length (l.flatMap Evt.enc) := hv
  simp only at hs hl
  subst hs
  obtain ⟨res, hres⟩ : ∃ b, okRec ⟨id, se, ma, l⟩ = b := ⟨_, rfl⟩
  simp only
  rw [hres]
  have HRES := Lib.hid (hres.symm.trans (okRec_all _))
  clear hres
  simp only at HRES
  obtain ⟨wB, hwB⟩ : ∃ wB, wB = w.alloc (.cells #[.int .i64 id, .int .i64 se, .int .i64 ma, .slice a l.length cap] 45) := ⟨_, rfl⟩
  have EB : Ext w wB := by rw [hwB]; exact (Ext.refl w).alloc _
  have b0 : wB.cell? ⟨w.heap.size, 0, none⟩ = some (.int .i64 id) := by rw [hwB]; simp
  have b1 : wB.cell? ⟨w.heap.size, 1, none⟩ = some (.int .i64 se) := by rw [hwB]; simp
  have b2 : wB.cell? ⟨w.heap.size, 2, none⟩ = some (.int .i64 ma) := by rw [hwB]; simp
  have b3 : wB.cell? ⟨w.heap.size, 3, none⟩ = some (.slice a l.length cap) := by rw [hwB]; simp
  have B0 := Lib.hid b0
  have B1 := Lib.hid b1
  have B2 := Lib.hid b2
  have B3 := Lib.hid b3
  cases q1 : (inB id 1 999 && inB se 1 99 && inB ma 0 20000 && decide (l.length ≤ 6))
  case false =>
    have HF : Hid (res = false) := (by rw [HRES.out, q1]; rfl : res = false)
    clear b0 b1 b2 b3
    by_cases g1 : inB id 1 999 = true
    case neg =>
      have g1 : inB id 1 999 = false := by simpa using g1
      go_enter Try.func116, Try.ntmps116
      go_wp2_with fail
      refine (within_ok id 1 999 _).mono ?_
      rintro e w' ⟨rfl, rfl⟩
      rw [g1]
      go_wp2
      go_ret
      exact ⟨ret_bool HF.out.symm, (Ext.refl _).alloc _⟩
    by_cases g2 : inB se 1 99 = true
    case neg =>
      have g2 : inB se 1 99 = false := by simpa using g2
      go_enter Try.func116, Try.ntmps116
      go_wp2_with fail
      refine (within_ok id 1 999 _).mono ?_
      rintro e w' ⟨rfl, rfl⟩
      rw [g1]
      go_wp2_with fail
      refine (isId_ok se _).mono ?_
      rintro e w' ⟨rfl, rfl⟩
      rw [g2]
      go_wp2
      go_ret
      exact ⟨ret_bool HF.out.symm, (Ext.refl _).alloc _⟩
    by_cases g3 : inB ma 0 20000 = true
    case neg =>
      have g3 : inB ma 0 20000 = false := by simpa using g3
      go_enter Try.func116, Try.ntmps116
      go_wp2_with fail
      refine (within_ok id 1 999 _).mono ?_
      rintro e w' ⟨rfl, rfl⟩
      rw [g1]
      go_wp2_with fail
      refine (isId_ok se _).mono ?_
      rintro e w' ⟨rfl, rfl⟩
      rw [g2]
      go_wp2_with fail
      refine (isDay_ok ma _).mono ?_
      rintro e w' ⟨rfl, rfl⟩
      rw [g3]
      go_wp2
      go_ret
      exact ⟨ret_bool HF.out.symm, (Ext.refl _).alloc _⟩
    have g4 : (6 : Int) < (l.length : Int) := by simp [g1, g2, g3] at q1; omega
    go_enter Try.func116, Try.ntmps116
    go_wp2_with fail
    refine (within_ok id 1 999 _).mono ?_
    rintro e w' ⟨rfl, rfl⟩
    rw [g1]
    go_wp2_with fail
    refine (isId_ok se _).mono ?_
    rintro e w' ⟨rfl, rfl⟩
    rw [g2]
    go_wp2_with fail
    refine (isDay_ok ma _).mono ?_
    rintro e w' ⟨rfl, rfl⟩
    rw [g3]
    go_wp2
    go_ret
    exact ⟨ret_bool HF.out.symm, (Ext.refl _).alloc _⟩
  have HQ : Hid (res = goodE ma l) := (by rw [HRES.out, q1]; rfl : res = goodE ma l)
  simp only [Bool.and_eq_true, decide_eq_true_eq] at q1
  obtain ⟨⟨⟨g1, g2⟩, g3⟩, g4⟩ := q1
  have g4 : ¬ (6 : Int) < (l.length : Int) := by omega
  go_enter Try.func116, Try.ntmps116
  go_wp2_with fail
  refine (within_ok id 1 999 _).mono ?_
  rintro e w' ⟨rfl, rfl⟩
  rw [g1]
  go_wp2_with fail
  refine (isId_ok se _).mono ?_
  rintro e w' ⟨rfl, rfl⟩
  rw [g2]
  go_wp2_with fail
  refine (isDay_ok ma _).mono ?_
  rintro e w' ⟨rfl, rfl⟩
  rw [g3]
  go_wp2
  rw [← hwB]
  clear hwB
  go_loopw [3, 4, 30] (fun _ _ i wr => ∃ k : Nat, k ≤ l.length ∧ i = .int .i64 k ∧ Hid (∀ i, i < k → AscAt (okEv ma) ltE l i) ∧ Ext wB wr) (fun _ _ i _ => l.length - (intOf i).toNat)
  case atStart => exact ⟨0, Nat.zero_le _, rfl, Lib.hid fun i h => by omega, Ext.refl _⟩
  case round =>
    obtain ⟨k, hk, rfl, HALL, hE⟩ := hrel
    replace b0 := hE.cell B0.out
    replace b1 := hE.cell B1.out
    replace b2 := hE.cell B2.out
    replace b3 := hE.cell B3.out
    have bs := block_lt_of_cell b3
    by_cases hlt : k < l.length
    · have hv1 := hv.mono (Ext.trans EB hE)
      obtain ⟨b, off, rfl, hc⟩ := Reads.elems Evt.enc_len hv1 (by omega)
      obtain ⟨⟨p1, p2⟩, hx⟩ := get_of_lt hlt
      have c0 := hc k _ hx 0 _ rfl
      have c1 := hc k _ hx 1 _ rfl
      simp only [Nat.add_zero] at c0
      have HC := Lib.hid hc
      obtain ⟨⟨q1, q2⟩, hy⟩ : ∃ y, 0 < k → l[k - 1]? = some y := by
        by_cases h0 : 0 < k
        · obtain ⟨y, hy⟩ := get_of_lt (show k - 1 < l.length by omega); exact ⟨y, fun _ => hy⟩
        · exact ⟨default, fun h => absurd h h0⟩
      have HA := Lib.hid (ascAt_iff (ok := okEv ma) (lt := ltE) hx hy)
      have HY := Lib.hid hy
      clear hc hx hy hv1 hv
      go_upto_region 6 with fail
      go_cut [60] (fun c wx => c = .bool (!okEv ma ⟨p1, p2⟩ || (decide (0 < k) && !ltE ⟨q1, q2⟩ ⟨p1, p2⟩)) ∧ Ext wr wx)
      case first =>
        obtain ⟨wb, hwb⟩ : ∃ wb, wb = wr.alloc (.cells #[.int .i64 p1, .int .i64 p2] 83) := ⟨_, rfl⟩
        have hRb : Ext wr wb := by rw [hwb]; exact (Ext.refl _).alloc _
        have x0 := cell_in_class (show wb.cell? ⟨wr.heap.size, 0, none⟩ = some (.int .i64 p1) by rw [hwb]; simp)
        have x1 := cell_in_class (show wb.cell? ⟨wr.heap.size, 1, none⟩ = some (.int .i64 p2) by rw [hwb]; simp)
        have x2 := cell_in_class (hRb.cell b2)
        have x3 := cell_in_class (hRb.cell b3)
        rw [← hwb]
        clear hwb c0 c1 b0 b1 b2 b3
        have cO := Calls.in_class (w := wb) (fun w' _ => isEvent_ok p1 p2 w')
        cases hok : okE ⟨p1, p2⟩
        case false =>
          have HV : Hid (okEv ma ⟨p1, p2⟩ = false) := (by simp [okEv, hok] : okEv ma ⟨p1, p2⟩ = false)
          rw [hok] at cO
          refine wp_region_quiet_below mixed (by kernel_rfl) ?_
          repeat (first | go_big_quiet_step (exact cO _ _) | quiet_step (exact cO _ _))
          refine wpQuiet_nil ?_
          intro _ hw'
          obtain ⟨⟨dq, osq⟩, hw''⟩ := hw'
          subst hw''
          clear cO x0 x1 x2 x3
          go_wp2
          go_meet
          exact ⟨congrArg Value.bool (by rw [HV.out]; rfl), hRb.regrown dq osq⟩
        rw [hok] at cO
        by_cases hma : p2 < ma
        case pos =>
          have HV : Hid (okEv ma ⟨p1, p2⟩ = false) := (by simp [okEv, hok, hma] : okEv ma ⟨p1, p2⟩ = false)
          refine wp_region_quiet_below mixed (by kernel_rfl) ?_
          repeat (first | go_big_quiet_step (exact cO _ _) | quiet_step (exact cO _ _))
          refine wpQuiet_nil ?_
          intro _ hw'
          obtain ⟨⟨dq, osq⟩, hw''⟩ := hw'
          subst hw''
          clear cO x0 x1 x2 x3
          go_wp2
          go_meet
          exact ⟨congrArg Value.bool (by rw [HV.out]; rfl), hRb.regrown dq osq⟩
        have HV : Hid (okEv ma ⟨p1, p2⟩ = true) := (by simp [okEv, hok]; omega : okEv ma ⟨p1, p2⟩ = true)
        by_cases hk0 : 0 < k
        case neg =>
          have hd : decide (0 < (k : Int)) = false := by simp; omega
          have HD := Lib.hid (show (decide (0 < k) : Bool) = false from decide_eq_false hk0)
          refine wp_region_quiet_below mixed (by kernel_rfl) ?_
          repeat (first | go_big_quiet_step (exact cO _ _) | quiet_step (exact cO _ _))
          refine wpQuiet_nil ?_
          intro _ hw'
          obtain ⟨⟨dq, osq⟩, hw''⟩ := hw'
          subst hw''
          clear cO x0 x1 x2 x3
          go_wp2
          go_meet
          exact ⟨congrArg Value.bool (by rw [HV.out, HD.out]; rfl), hRb.regrown dq osq⟩
        have hd : decide (0 < (k : Int)) = true := by simp; omega
        have HD := Lib.hid (show (decide (0 < k) : Bool) = true from decide_eq_true hk0)
        have y0 := cell_in_class (hRb.cell (HC.out (k - 1) _ (HY.out hk0) 0 _ rfl))
        simp only [Nat.add_zero] at y0
        have n1 : (k : Int) - 1 < (l.length : Int) := by omega
        have n2 : (1 : Int) ≤ (k : Int) := by omega
        have n3 : (0 : Int) ≤ (k : Int) - 1 := by omega
        have n4 : IntKind.i64.wrap ((k : Int) - 1) = (k : Int) - 1 := IntWalk.i64_in _ (by omega)
        have n5 : ((k : Int) - 1).toNat = k - 1 := by omega
        refine wp_region_quiet_below mixed (by kernel_rfl) ?_
        repeat (first | go_big_quiet_step (exact cO _ _) | quiet_step (exact cO _ _))
        refine wpQuiet_nil ?_
        intro _ hw'
        obtain ⟨⟨dq, osq⟩, hw''⟩ := hw'
        subst hw''
        clear cO x0 x1 x2 x3 y0
        go_wp2
        go_meet
        exact ⟨congrArg Value.bool (by rw [HV.out, HD.out, ← geE_not]; rfl), hRb.regrown dq osq⟩
      case rest =>
      obtain ⟨rfl, hE2⟩ := hcut
      clear c0 c1
      have hE3 := Ext.trans hE hE2
      cases hbad : (!okEv ma ⟨p1, p2⟩ || (decide (0 < k) && !ltE ⟨q1, q2⟩ ⟨p1, p2⟩))
      case true =>
        have HF : Hid (goodE ma l = false) := (ascB_false hlt (by rw [HA.out]; exact asc_bad hbad) : goodE ma l = false)
        have HF2 : Hid (res = false) := (HQ.out.trans HF.out : res = false)
        go_wp2
        go_ret
        exact ⟨ret_bool HF2.out.symm, Ext.trans EB hE3⟩
      go_wp2
      go_roundw
      case rel => exact ⟨k + 1, by omega, by go_num, Lib.hid (ascAt_step HALL.out (HA.out.2 (asc_fine hbad))), hE3⟩
      case measure => simp [intOf]; omega
    · have HG : Hid (res = true) := (HQ.out.trans (ascB_true fun i hi => HALL.out i (by omega)) : res = true)
      go_wp2
      go_ret
      exact ⟨ret_bool HG.out.symm, Ext.trans EB hE⟩
end Go.Proofs.Ytkbhonafbecbfaa
