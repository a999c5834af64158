/- What the tests of versions and the version in force on a day compute; no condition beyond the lengths that are named. -/
import Derived.Test.YtankodjcccnjlaaVersData
import Derived.Test.YtankodjcccnjlaaRecs
import Derived.Test.YtankodjcccnjlaaRules2
import Derived.Test.YtankodjcccnjlaaNestEl
namespace Go.Proofs.Ytankodjcccnjlaa
open Go.RowKit Go.Sort Go.Rd
set_option maxHeartbeats 4000000 in
theorem l8Good_ok (l : List Ver) (vv : Value) (w : World) (hv : Ver.Rd w vv l) (hl : l.length ≤ 1048576) (hll : ∀ p ∈ l, p.rs.length ≤ 1048576) :
    Calls Try.prog 16 #[vv] w fun e w' => e = .returned (.bool (goodVs l)) ∧ Ext w w' := by
  have mixed : Try.prog.follows .mixedOrders = true := by kernel_rfl
  obtain ⟨a, cap, rfl⟩ := hv.shape
  have HL := Lib.hid hll
  obtain ⟨res, hres⟩ : ∃ b, goodVs l = b := ⟨_, rfl⟩
  rw [hres]
  have HRES := Lib.hid hres
  clear hres hll
  go_enter Try.func16, Try.ntmps16
  go_wp2
  go_loopw [3] (fun i wr => ∃ k : Nat, k ≤ l.length ∧ i = .int .i64 k ∧ Hid (∀ i, i < k → AscAt okV ltV l i) ∧ Ext w wr) (fun i _ => l.length - (intOf i).toNat)
  case atStart => exact ⟨0, Nat.zero_le _, rfl, Lib.hid fun i h => by omega, Ext.refl _⟩
  case round =>
    obtain ⟨k, hk, rfl, HALL, hE⟩ := hrel
    by_cases hlt : k < l.length
    · obtain ⟨v, hx⟩ := get_of_lt hlt
      have hv1 := hv.mono hE
      obtain ⟨b, off, rfl⟩ := Ver.Rd.addr hv1 (by omega)
      obtain ⟨ca, cc, c0, c1, hat⟩ := Ver.Rd.cells hv1 hx
      have HV1 := Lib.hid hv1
      obtain ⟨q, hy⟩ : ∃ y, 0 < k → l[k - 1]? = some y := by
        by_cases h0 : 0 < k
        · obtain ⟨y, hy⟩ := get_of_lt (show k - 1 < l.length by omega); exact ⟨y, fun _ => hy⟩
        · exact ⟨default, fun h => absurd h h0⟩
      have HA := Lib.hid (ascAt_iff (ok := okV) (lt := ltV) hx hy)
      have HY := Lib.hid hy
      have hvl := HL.out v (List.mem_of_getElem? hx)
      clear hx hy hv1 hv
      go_upto_region 4 with fail
      go_cut [43] (fun c wx => c = .bool (!okV v || (decide (0 < k) && !ltV q v)) ∧ Ext wr wx)
      case first =>
        have hRb : Ext wr wr := Ext.refl _
        have x0 := cell_in_class c0
        have x1 := cell_in_class c1
        have cO := Calls.in_class (w := wr) (fun w' _ => (l2Day_ok v.fr w').mono fun _ _ ⟨a, b⟩ => ⟨a, Ext.of_eq b⟩)
        have cR := Calls.in_class (w := wr) (fun w' hw' => l4Good_ok v.rs _ w' (hat.mono (Ext.trans hRb hw')) hvl)
        cases h1 : inB v.fr 0 20000
        case false =>
          rw [h1] at cO
          refine wp_region_quiet_below mixed (by kernel_rfl) ?_
          repeat (first | go_big_quiet_step (exact cO _ _) | quiet_step (exact cO _ _))
          refine wpQuiet_nil ?_
          intro _ hw'
          obtain ⟨⟨dq, osq⟩, hw''⟩ := hw'
          subst hw''
          clear cO cR x0 x1
          go_wp2
          go_meet
          exact ⟨congrArg Value.bool (by rw [okV, h1]; rfl), hRb.regrown dq osq⟩
        rw [h1] at cO
        cases h2 : goodR v.rs
        case false =>
          rw [h2] at cR
          refine wp_region_quiet_below mixed (by kernel_rfl) ?_
          repeat (first | go_big_quiet_step (first | exact cO _ _ | exact cR _ _) | quiet_step (first | exact cO _ _ | exact cR _ _))
          refine wpQuiet_nil ?_
          intro _ hw'
          obtain ⟨⟨dq, osq⟩, hw''⟩ := hw'
          subst hw''
          clear cO cR x0 x1
          go_wp2
          go_meet
          exact ⟨congrArg Value.bool (by rw [okV, h1, h2]; rfl), hRb.regrown dq osq⟩
        rw [h2] at cR
        by_cases hk0 : 0 < k
        case neg =>
          have hd : decide (0 < (k : Int)) = false := by simp; omega
          have HD := Lib.hid (show (decide (0 < k) : Bool) = false from decide_eq_false hk0)
          refine wp_region_quiet_below mixed (by kernel_rfl) ?_
          repeat (first | go_big_quiet_step (first | exact cO _ _ | exact cR _ _) | quiet_step (first | exact cO _ _ | exact cR _ _))
          refine wpQuiet_nil ?_
          intro _ hw'
          obtain ⟨⟨dq, osq⟩, hw''⟩ := hw'
          subst hw''
          clear cO cR x0 x1
          go_wp2
          go_meet
          exact ⟨congrArg Value.bool (by rw [okV, h1, h2, HD.out]; rfl), hRb.regrown dq osq⟩
        have hd : decide (0 < (k : Int)) = true := by simp; omega
        have HD := Lib.hid (show (decide (0 < k) : Bool) = true from decide_eq_true hk0)
        obtain ⟨qa, qc, y0, y1, _⟩ := Ver.Rd.cells HV1.out (HY.out hk0)
        have y0 := cell_in_class (hRb.cell y0)
        have n1 : (k : Int) - 1 < (l.length : Int) := by omega
        have n2 : (1 : Int) ≤ (k : Int) := by omega
        have n3 : (0 : Int) ≤ (k : Int) - 1 := by omega
        have n4 : IntKind.i64.wrap ((k : Int) - 1) = (k : Int) - 1 := IntWalk.i64_in _ (by omega)
        have n5 : ((k : Int) - 1).toNat = k - 1 := by omega
        refine wp_region_quiet_below mixed (by kernel_rfl) ?_
        repeat (first | go_big_quiet_step (first | exact cO _ _ | exact cR _ _) | quiet_step (first | exact cO _ _ | exact cR _ _))
        refine wpQuiet_nil ?_
        intro _ hw'
        obtain ⟨⟨dq, osq⟩, hw''⟩ := hw'
        subst hw''
        clear cO cR x0 x1 y0 y1
        go_wp2
        go_meet
        exact ⟨congrArg Value.bool (by rw [okV, h1, h2, HD.out, ← geV_not]; rfl), hRb.regrown dq osq⟩
      case rest =>
      obtain ⟨rfl, hE2⟩ := hcut
      clear c0 c1
      have hE3 := Ext.trans hE hE2
      cases hbad : (!okV v || (decide (0 < k) && !ltV q v))
      case true =>
        have HF : Hid (res = false) := Lib.hid (HRES.out.symm.trans (show goodVs l = false from not_good (m := 5) hlt (by rw [HA.out]; exact asc_bad hbad)))
        go_wp2
        go_ret
        exact ⟨ret_bool HF.out.symm, hE3⟩
      go_wp2
      go_roundw
      case rel => exact ⟨k + 1, by omega, by go_num, Lib.hid (ascAt_step HALL.out (HA.out.2 (asc_fine hbad))), hE3⟩
      case measure => simp [intOf]; omega
    · have HG : Hid (res = decide (l.length ≤ 5)) := Lib.hid (by rw [← HRES.out, goodVs, ascB_true (fun i hi => HALL.out i (by omega)), Bool.true_and])
      go_wp2
      go_ret
      exact ⟨ret_bool (by rw [HG.out]; exact decide_eq_decide.2 (by omega)), hE⟩
set_option maxHeartbeats 4000000 in
theorem areVersions_ok (l : List Ver) (vv : Value) (w : World) (hv : Ver.Rd w vv l) (hl : l.length ≤ 1048576) (hll : ∀ p ∈ l, p.rs.length ≤ 1048576) :
    Calls Try.prog 19 #[vv] w fun e w' => e = .returned (.bool (goodVs l)) ∧ Ext w w' := by
  have mixed : Try.prog.follows .mixedOrders = true := by kernel_rfl
  obtain ⟨a, cap, rfl⟩ := hv.shape
  have HL := Lib.hid hll
  obtain ⟨res, hres⟩ : ∃ b, goodVs l = b := ⟨_, rfl⟩
  rw [hres]
  have HRES := Lib.hid hres
  clear hres hll
  go_enter Try.func19, Try.ntmps19
  go_wp2
  go_loopw [3, 4, 7] (fun _ _ i wr => ∃ k : Nat, k ≤ l.length ∧ i = .int .i64 k ∧ Hid (∀ i, i < k → AscAt okV ltV l i) ∧ Ext w wr) (fun _ _ i _ => l.length - (intOf i).toNat)
  case atStart => exact ⟨0, Nat.zero_le _, rfl, Lib.hid fun i h => by omega, Ext.refl _⟩
  case round =>
    obtain ⟨k, hk, rfl, HALL, hE⟩ := hrel
    by_cases hlt : k < l.length
    · obtain ⟨v, hx⟩ := get_of_lt hlt
      have hv1 := hv.mono hE
      obtain ⟨b, off, rfl⟩ := Ver.Rd.addr hv1 (by omega)
      obtain ⟨ca, cc, c0, c1, hat⟩ := Ver.Rd.cells hv1 hx
      have HV1 := Lib.hid hv1
      obtain ⟨q, hy⟩ : ∃ y, 0 < k → l[k - 1]? = some y := by
        by_cases h0 : 0 < k
        · obtain ⟨y, hy⟩ := get_of_lt (show k - 1 < l.length by omega); exact ⟨y, fun _ => hy⟩
        · exact ⟨default, fun h => absurd h h0⟩
      have HA := Lib.hid (ascAt_iff (ok := okV) (lt := ltV) hx hy)
      have HY := Lib.hid hy
      have hvl := HL.out v (List.mem_of_getElem? hx)
      clear hx hy hv1 hv
      go_upto_region 4 with fail
      go_cut [36] (fun c wx => c = .bool (!okV v || (decide (0 < k) && !ltV q v)) ∧ Ext wr wx)
      case first =>
        obtain ⟨wb, hwb⟩ : ∃ wb, wb = wr.alloc (.cells #[.int .i64 v.fr, .slice ca v.rs.length cc] 34) := ⟨_, rfl⟩
        have hRb : Ext wr wb := by rw [hwb]; exact (Ext.refl _).alloc _
        have x0 := cell_in_class (show wb.cell? ⟨wr.heap.size, 0, none⟩ = some (.int .i64 v.fr) by rw [hwb]; simp)
        have x1 := cell_in_class (show wb.cell? ⟨wr.heap.size, 1, none⟩ = some (.slice ca v.rs.length cc) by rw [hwb]; simp)
        rw [← hwb]
        clear hwb
        have cO := Calls.in_class (w := wb) (fun w' _ => (isDay_ok v.fr w').mono fun _ _ ⟨a, b⟩ => ⟨a, Ext.of_eq b⟩)
        have cR := Calls.in_class (w := wb) (fun w' hw' => isSchedule_ok v.rs _ w' (hat.mono (Ext.trans hRb hw')) hvl)
        cases h1 : inB v.fr 0 20000
        case false =>
          rw [h1] at cO
          refine wp_region_quiet_below mixed (by kernel_rfl) ?_
          repeat (first | go_big_quiet_step (exact cO _ _) | quiet_step (exact cO _ _))
          refine wpQuiet_nil ?_
          intro _ hw'
          obtain ⟨⟨dq, osq⟩, hw''⟩ := hw'
          subst hw''
          clear cO cR x0 x1
          go_wp2
          go_meet
          exact ⟨congrArg Value.bool (by rw [okV, h1]; rfl), hRb.regrown dq osq⟩
        rw [h1] at cO
        cases h2 : goodR v.rs
        case false =>
          rw [h2] at cR
          refine wp_region_quiet_below mixed (by kernel_rfl) ?_
          repeat (first | go_big_quiet_step (first | exact cO _ _ | exact cR _ _) | quiet_step (first | exact cO _ _ | exact cR _ _))
          refine wpQuiet_nil ?_
          intro _ hw'
          obtain ⟨⟨dq, osq⟩, hw''⟩ := hw'
          subst hw''
          clear cO cR x0 x1
          go_wp2
          go_meet
          exact ⟨congrArg Value.bool (by rw [okV, h1, h2]; rfl), hRb.regrown dq osq⟩
        rw [h2] at cR
        by_cases hk0 : 0 < k
        case neg =>
          have hd : decide (0 < (k : Int)) = false := by simp; omega
          have HD := Lib.hid (show (decide (0 < k) : Bool) = false from decide_eq_false hk0)
          refine wp_region_quiet_below mixed (by kernel_rfl) ?_
          repeat (first | go_big_quiet_step (first | exact cO _ _ | exact cR _ _) | quiet_step (first | exact cO _ _ | exact cR _ _))
          refine wpQuiet_nil ?_
          intro _ hw'
          obtain ⟨⟨dq, osq⟩, hw''⟩ := hw'
          subst hw''
          clear cO cR x0 x1
          go_wp2
          go_meet
          exact ⟨congrArg Value.bool (by rw [okV, h1, h2, HD.out]; rfl), hRb.regrown dq osq⟩
        have hd : decide (0 < (k : Int)) = true := by simp; omega
        have HD := Lib.hid (show (decide (0 < k) : Bool) = true from decide_eq_true hk0)
        obtain ⟨qa, qc, y0, y1, _⟩ := Ver.Rd.cells HV1.out (HY.out hk0)
        have y0 := cell_in_class (hRb.cell y0)
        have n1 : (k : Int) - 1 < (l.length : Int) := by omega
        have n2 : (1 : Int) ≤ (k : Int) := by omega
        have n3 : (0 : Int) ≤ (k : Int) - 1 := by omega
        have n4 : IntKind.i64.wrap ((k : Int) - 1) = (k : Int) - 1 := IntWalk.i64_in _ (by omega)
        have n5 : ((k : Int) - 1).toNat = k - 1 := by omega
        refine wp_region_quiet_below mixed (by kernel_rfl) ?_
        repeat (first | go_big_quiet_step (first | exact cO _ _ | exact cR _ _) | quiet_step (first | exact cO _ _ | exact cR _ _))
        refine wpQuiet_nil ?_
        intro _ hw'
        obtain ⟨⟨dq, osq⟩, hw''⟩ := hw'
        subst hw''
        clear cO cR x0 x1 y0 y1
        go_wp2
        go_meet
        exact ⟨congrArg Value.bool (by rw [okV, h1, h2, HD.out, ← geV_not]; rfl), hRb.regrown dq osq⟩
      case rest =>
      obtain ⟨rfl, hE2⟩ := hcut
      clear c0 c1
      have hE3 := Ext.trans hE hE2
      cases hbad : (!okV v || (decide (0 < k) && !ltV q v))
      case true =>
        have HF : Hid (res = false) := Lib.hid (HRES.out.symm.trans (show goodVs l = false from not_good (m := 5) hlt (by rw [HA.out]; exact asc_bad hbad)))
        go_wp2
        go_ret
        exact ⟨ret_bool HF.out.symm, hE3⟩
      go_wp2
      go_roundw
      case rel => exact ⟨k + 1, by omega, by go_num, Lib.hid (ascAt_step HALL.out (HA.out.2 (asc_fine hbad))), hE3⟩
      case measure => simp [intOf]; omega
    · have HG : Hid (res = decide (l.length ≤ 5)) := Lib.hid (by rw [← HRES.out, goodVs, ascB_true (fun i hi => HALL.out i (by omega)), Bool.true_and])
      go_wp2
      go_ret
      exact ⟨ret_bool (by rw [HG.out]; exact decide_eq_decide.2 (by omega)), hE⟩
end Go.Proofs.Ytankodjcccnjlaa
