/- What the functions on lists of series compute; no condition beyond the lengths that are named. -/
import Derived.Test.YtkbhonafbecbfaaInts
import Derived.Test.YtkbhonafbecbfaaCore
import Derived.Test.YtkbhonafbecbfaaRules
namespace Go.Proofs.Ytkbhonafbecbfaa
open Go.RowKit Go.Sort Go.Rd

theorem le_not_lt (p q : Int) : decide (p ≤ q) = !decide (q < p) := by
  by_cases h : q < p
  · rw [decide_eq_true h, decide_eq_false (by omega)]; rfl
  · rw [decide_eq_false h, decide_eq_true (by omega)]; rfl
set_option maxHeartbeats 1000000 in
theorem l1Rising_ok (l : List Int) (lo hi : Int) (v : Value) (w : World) (hv : Reads w 1 v l.length (l.flatMap encI)) (hl : l.length ≤ 1048576) :
    Calls Try.prog 139 #[v, .int .i64 lo, .int .i64 hi] w fun e w' => e = .returned (.bool (riseB lo hi l)) ∧ Ext w w' := by
  have mixed : Try.prog.follows .mixedOrders = true := by kernel_rfl
  obtain ⟨a, cap, rfl⟩ := hv.shape
  go_enter Try.func139, Try.ntmps139
  go_wp2
  go_loopw [7] (fun i wr => ∃ k : Nat, k ≤ l.length ∧ i = .int .i64 k ∧ Hid (∀ i, i < k → AscAt (fun x => inB x lo hi) (fun a b => decide (a < b)) l i) ∧ Ext w wr) (fun i _ => l.length - (intOf i).toNat)
  case atStart => exact ⟨0, Nat.zero_le _, rfl, Lib.hid fun i h => by omega, Ext.refl _⟩
  case round =>
    obtain ⟨k, hk, rfl, HALL, hE⟩ := hrel
    by_cases hlt : k < l.length
    · have hv1 := hv.mono hE
      obtain ⟨b, off, rfl, hc⟩ := Reads.elems encI_len hv1 (by omega)
      obtain ⟨p, hx⟩ := get_of_lt hlt
      have x0 := cell_in_class (hc k _ hx 0 _ rfl)
      simp only [Nat.add_zero, Nat.mul_one] at x0
      have HC := Lib.hid hc
      obtain ⟨q, hy⟩ : ∃ y, 0 < k → l[k - 1]? = some y := by
        by_cases h0 : 0 < k
        · obtain ⟨y, hy⟩ := get_of_lt (show k - 1 < l.length by omega); exact ⟨y, fun _ => hy⟩
        · exact ⟨default, fun h => absurd h h0⟩
      have HA := Lib.hid (ascAt_iff (ok := fun x => inB x lo hi) (lt := fun a b => decide (a < b)) hx hy)
      have HY := Lib.hid hy
      clear hc hx hy hv1 hv
      go_upto_region 4 with fail
      go_cut [37] (fun c wx => c = .bool (!inB p lo hi || (decide (0 < k) && !decide (q < p))) ∧ Ext w wx)
      case first =>
        have cO := Calls.in_class (w := wr) (fun w' _ => (l1In_ok p lo hi w').mono fun _ _ ⟨a, b⟩ => ⟨a, Ext.of_eq b⟩)
        cases hok : inB p lo hi
        case false =>
          rw [hok] at cO
          refine wp_region_quiet_below mixed (by kernel_rfl) ?_
          repeat (first | go_big_quiet_step (exact cO _ _) | quiet_step (exact cO _ _))
          refine wpQuiet_nil ?_
          intro _ hw'
          obtain ⟨⟨dq, osq⟩, hw''⟩ := hw'
          subst hw''
          clear cO x0
          go_wp2
          go_meet
          exact ⟨congrArg Value.bool (by rw [hok]; rfl), hE.regrown dq osq⟩
        rw [hok] at cO
        by_cases hk0 : 0 < k
        case neg =>
          have hd : decide (0 < (k : Int)) = false := by simp; omega
          have HD := Lib.hid (show (decide (0 < k) : Bool) = false from decide_eq_false hk0)
          refine wp_region_quiet_below mixed (by kernel_rfl) ?_
          repeat (first | go_big_quiet_step (exact cO _ _) | quiet_step (exact cO _ _))
          refine wpQuiet_nil ?_
          intro _ hw'
          obtain ⟨⟨dq, osq⟩, hw''⟩ := hw'
          subst hw''
          clear cO x0
          go_wp2
          go_meet
          exact ⟨congrArg Value.bool (by rw [hok, HD.out]; rfl), hE.regrown dq osq⟩
        have hd : decide (0 < (k : Int)) = true := by simp; omega
        have HD := Lib.hid (show (decide (0 < k) : Bool) = true from decide_eq_true hk0)
        have y0 := cell_in_class (HC.out (k - 1) _ (HY.out hk0) 0 _ rfl)
        simp only [Nat.add_zero, Nat.mul_one] at y0
        refine wp_region_quiet_below mixed (by kernel_rfl) ?_
        repeat (first | go_big_quiet_step (exact cO _ _) | quiet_step (exact cO _ _))
        refine wpQuiet_nil ?_
        intro _ hw'
        obtain ⟨⟨dq, osq⟩, hw''⟩ := hw'
        subst hw''
        clear cO x0 y0
        go_wp2
        go_meet
        exact ⟨congrArg Value.bool (by rw [hok, HD.out, le_not_lt]; rfl), hE.regrown dq osq⟩
      case rest =>
      obtain ⟨rfl, hE2⟩ := hcut
      clear x0
      cases hbad : (!inB p lo hi || (decide (0 < k) && !decide (q < p)))
      case true =>
        go_wp2
        go_ret
        exact ⟨ret_bool (ascB_false hlt (by rw [HA.out]; exact asc_bad hbad)).symm, hE2⟩
      go_wp2
      go_roundw
      case rel => exact ⟨k + 1, by omega, by go_num, Lib.hid (ascAt_step HALL.out (HA.out.2 (asc_fine hbad))), hE2⟩
      case measure => simp [intOf]; omega
    · have HG := Lib.hid (show riseB lo hi l = true from ascB_true fun i hi => HALL.out i (by omega))
      go_wp2
      go_ret
      exact ⟨ret_bool HG.out.symm, hE⟩

set_option maxHeartbeats 1000000 in
theorem areSeries_ok (l : List Int) (most : Int) (v : Value) (w : World) (hv : Reads w 1 v l.length (l.flatMap encI)) (hl : l.length ≤ 1048576) :
    Calls Try.prog 141 #[v, .int .i64 most] w fun e w' => e = .returned (.bool (seriesOk l most)) ∧ w = w' := by
  obtain ⟨a, cap, rfl⟩ := hv.shape
  go_enter Try.func141, Try.ntmps141
  go_wp2
  go_loop [9] (fun i => ∃ k : Nat, k ≤ l.length ∧ i = .int .i64 k ∧ Hid (∀ i, i < k → AscAt (fun x => inB x 1 99) (fun a b => decide (a < b)) l i)) (fun i => l.length - (intOf i).toNat)
  case atStart => exact ⟨0, Nat.zero_le _, rfl, Lib.hid fun i h => by omega⟩
  case round =>
    obtain ⟨k, hk, rfl, HALL⟩ := hrel
    by_cases hlt : k < l.length
    · obtain ⟨b, off, rfl, hc⟩ := Reads.elems encI_len hv (by omega)
      obtain ⟨p, hx⟩ := get_of_lt hlt
      have x0 := hc k _ hx 0 _ rfl
      simp only [Nat.add_zero, Nat.mul_one] at x0
      have HC := Lib.hid hc
      obtain ⟨q, hy⟩ : ∃ y, 0 < k → l[k - 1]? = some y := by
        by_cases h0 : 0 < k
        · obtain ⟨y, hy⟩ := get_of_lt (show k - 1 < l.length by omega); exact ⟨y, fun _ => hy⟩
        · exact ⟨default, fun h => absurd h h0⟩
      have HA := Lib.hid (ascAt_iff (ok := fun x => inB x 1 99) (lt := fun a b => decide (a < b)) hx hy)
      have HY := Lib.hid hy
      clear hc hx hy hv
      go_upto_region 4 with fail
      go_cut [29] (fun c wx => c = .bool (!inB p 1 99 || (decide (0 < k) && !decide (q < p))) ∧ w = wx)
      case first =>
        cases hok : inB p 1 99
        case false =>
          go_wp2_with (go_at_call 140; refine (isId_ok _ _).mono ?_; rintro e w' ⟨rfl, rfl⟩)
          go_meet
          exact ⟨congrArg Value.bool (by rw [hok]; rfl), rfl⟩
        by_cases hk0 : 0 < k
        case neg =>
          have hd : decide (0 < (k : Int)) = false := by simp; omega
          have HD := Lib.hid (show (decide (0 < k) : Bool) = false from decide_eq_false hk0)
          go_wp2_with (go_at_call 140; refine (isId_ok _ _).mono ?_; rintro e w' ⟨rfl, rfl⟩)
          go_meet
          exact ⟨congrArg Value.bool (by rw [hok, HD.out]; rfl), rfl⟩
        have hd : decide (0 < (k : Int)) = true := by simp; omega
        have HD := Lib.hid (show (decide (0 < k) : Bool) = true from decide_eq_true hk0)
        have y0 := HC.out (k - 1) _ (HY.out hk0) 0 _ rfl
        simp only [Nat.add_zero, Nat.mul_one] at y0
        go_wp2_with (go_at_call 140; refine (isId_ok _ _).mono ?_; rintro e w' ⟨rfl, rfl⟩)
        go_meet
        exact ⟨congrArg Value.bool (by rw [hok, HD.out, le_not_lt]; rfl), rfl⟩
      case rest =>
      obtain ⟨rfl, rfl⟩ := hcut
      clear x0
      cases hbad : (!inB p 1 99 || (decide (0 < k) && !decide (q < p)))
      case true =>
        have HR := Lib.hid (show seriesOk l most = false by rw [seriesOk, riseB, ascB_false hlt (by rw [HA.out]; exact asc_bad hbad)]; rfl)
        go_wp2
        go_ret
        exact ⟨ret_bool HR.out.symm, rfl⟩
      go_wp2
      go_round
      case rel => exact ⟨k + 1, by omega, by go_num, Lib.hid (ascAt_step HALL.out (HA.out.2 (asc_fine hbad)))⟩
      case measure => simp [intOf]; omega
    · have HG := Lib.hid (show riseB 1 99 l = true from ascB_true fun i hi => HALL.out i (by omega))
      go_wp2
      go_ret
      exact ⟨ret_bool (by rw [seriesOk, HG.out, Bool.true_and]), rfl⟩
end Go.Proofs.Ytkbhonafbecbfaa
