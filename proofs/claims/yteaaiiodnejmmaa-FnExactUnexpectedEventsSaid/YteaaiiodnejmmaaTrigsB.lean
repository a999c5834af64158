/- What the program's AreTriggers computes; no condition beyond the lengths that are named. -/
import Derived.Test.YteaaiiodnejmmaaTrigs
import Derived.Deep.RegionHeld3
namespace Go.Proofs.Yteaaiiodnejmmaa
open Go.RowKit Go.Sort Go.Rd

set_option maxHeartbeats 1000000 in
theorem areTriggers_ok (l : List Trig) (v : Value) (w : World) (hv : Reads w 3 v l.length (l.flatMap Trig.enc)) (hl : l.length ≤ 1048576) :
    Calls Try.prog 16 #[v] w fun e w' => e = .returned (.bool (goodT l)) ∧ Ext w w' := by
  have mixed : Try.prog.follows .mixedOrders = true := by kernel_rfl
  obtain ⟨a, cap, rfl⟩ := hv.shape
  obtain ⟨n, hn⟩ : ∃ n, n = l.length := ⟨_, rfl⟩
  rw [← hn] at hv hl ⊢
  have HN := Lib.hid hn
  clear hn
  go_enter Try.func16, Try.ntmps16
  go_wp2
  go_loopw [7] (fun i wr => ∃ k : Nat, k ≤ n ∧ i = .int .i64 k ∧ Hid (∀ i, i < k → AscAt okT ltT l i) ∧ Ext w wr) (fun i _ => n - (intOf i).toNat)
  case atStart => exact ⟨0, Nat.zero_le _, rfl, Lib.hid fun i h => by omega, Ext.refl _⟩
  case round =>
    obtain ⟨k, hk, rfl, HALL, hE⟩ := hrel
    by_cases hlt : k < n
    · have hkl : k < l.length := by have := HN.out; omega
      have hv1 := hv.mono hE
      rw [HN.out] at hv1
      obtain ⟨b, off, rfl, hc⟩ := Reads.elems Trig.enc_len hv1 (by omega)
      obtain ⟨⟨p1, p2, p3⟩, hx⟩ := get_of_lt hkl
      have c0 := hc k _ hx 0 _ rfl
      have c1 := hc k _ hx 1 _ rfl
      have c2 := hc k _ hx 2 _ rfl
      rw [Nat.add_zero] at c0
      have HX := Lib.hid hx
      have HC := Lib.hid hc
      clear hc hx
      obtain ⟨⟨q1, q2, q3⟩, hy⟩ : ∃ y, 0 < k → l[k - 1]? = some y := by
        by_cases h0 : 0 < k
        · obtain ⟨y, hy⟩ := get_of_lt (show k - 1 < l.length by omega); exact ⟨y, fun _ => hy⟩
        · exact ⟨default, fun h => absurd h h0⟩
      have HA := Lib.hid (ascAt_iff (ok := okT) (lt := ltT) HX.out hy)
      have HY := Lib.hid hy
      clear hy
      go_upto_region 4 with fail
      go_cut [34] (fun c wx => c = .bool (!okT ⟨p1, p2, p3⟩) ∧ wx = wr.alloc (.cells #[.int .i64 p1, .int .i64 p2, .int .i64 p3] 58))
      case first =>
        go_wp2_with (first | (go_at_call 43; refine (within_ok _ _ _ _).mono ?_; rintro e w' ⟨rfl, rfl⟩) | (go_at_call 47; refine (isKind_ok _ _).mono ?_; rintro e w' ⟨rfl, rfl⟩))
        all_goals (go_meet; exact ⟨congrArg Value.bool (by simp [okT, *]), by simp [*]⟩)
      case rest =>
      obtain ⟨rfl, rfl⟩ := hcut
      cases hok : okT ⟨p1, p2, p3⟩
      case false =>
        go_wp2
        go_ret
        exact ⟨ret_bool (not_good hkl (by rw [HA.out, hok]; simp)).symm, hE.alloc _⟩
      go_upto_region 6 with fail
      go_cut [59] (fun c wx => c = .bool (decide (0 < k) && !ltT ⟨q1, q2, q3⟩ ⟨p1, p2, p3⟩) ∧ Ext w wx)
      case first =>
        by_cases hk0 : 0 < k
        · have d0 := cell_alloc (HC.out (k - 1) _ (HY.out hk0) 0 _ rfl)
          have d1 := cell_alloc (HC.out (k - 1) _ (HY.out hk0) 1 _ rfl)
          simp only [Nat.add_zero] at d0
          have hd : decide (0 < (k : Int)) = true := by simp; omega
          have HD := Lib.hid (show (decide (0 < k) : Bool) = true from decide_eq_true hk0)
          obtain ⟨wb, hwb⟩ : ∃ wb, wb = wr.alloc (.cells #[.int .i64 p1, .int .i64 p2, .int .i64 p3] 58) := ⟨_, rfl⟩
          have e0 := d0 (.cells #[.int .i64 p1, .int .i64 p2, .int .i64 p3] 58)
          have e1 := d1 (.cells #[.int .i64 p1, .int .i64 p2, .int .i64 p3] 58)
          have t0 : wb.cell? ⟨wr.heap.size, 0, none⟩ = some (.int .i64 p1) := by rw [hwb]; simp
          have t1 : wb.cell? ⟨wr.heap.size, 1, none⟩ = some (.int .i64 p2) := by rw [hwb]; simp
          have hEb : Ext w wb := by rw [hwb]; exact hE.alloc _
          rw [← hwb] at e0 e1 ⊢
          clear d0 d1 hwb c0 c1 c2
          have b1 : (k : Int) - 1 < (n : Int) := by omega
          have b2 : (1 : Int) ≤ (k : Int) := by omega
          have b3 : (0 : Int) ≤ (k : Int) - 1 := by omega
          have b4 : IntKind.i64.wrap ((k : Int) - 1) = (k : Int) - 1 := IntWalk.i64_in _ (by omega)
          have b5 : ((k : Int) - 1).toNat = k - 1 := by omega
          go_region_held3 (fun w' => w'.cell? ⟨b, off + (k - 1) * 3, none⟩ = some (.int .i64 q1) ∧ w'.cell? ⟨b, off + (k - 1) * 3 + 1, none⟩ = some (.int .i64 q2) ∧ w'.cell? ⟨wr.heap.size, 0, none⟩ = some (.int .i64 p1) ∧ w'.cell? ⟨wr.heap.size, 1, none⟩ = some (.int .i64 p2)) (go_keep)
            (first | (go_at_call 49; refine (compare_ok _ _ _).mono ?_; rintro e w' ⟨rfl, rfl⟩) | (go_at_call 48; refine (or_ok (cmpI q1 p1) (cmpI q2 p2) _ _ ?_ ?_).mono ?_; (simp); (simp); rintro e w' ⟨rfl, rfl⟩))
          all_goals
            go_wp2
            go_meet
            exact ⟨congrArg Value.bool (by rw [← ltT_cmp, HD.out]; rfl), (hEb.alloc _).drew⟩
        · have hd : decide (0 < (k : Int)) = false := by simp; omega
          have HD := Lib.hid (show (decide (0 < k) : Bool) = false from decide_eq_false hk0)
          go_quiet (fail)
          go_wp2
          go_meet
          exact ⟨congrArg Value.bool (by rw [HD.out]; rfl), below_drewN (hE.alloc _) _⟩
      case rest =>
      obtain ⟨rfl, hE2⟩ := hcut
      cases hlt2 : (decide (0 < k) && !ltT ⟨q1, q2, q3⟩ ⟨p1, p2, p3⟩)
      case true =>
        go_wp2
        go_ret
        exact ⟨ret_bool (not_good hkl (by rw [HA.out]; simp at hlt2; simp [hlt2])).symm, hE2⟩
      go_wp2
      go_roundw
      case rel => exact ⟨k + 1, by omega, by go_num, Lib.hid (ascAt_step HALL.out (HA.out.2 ⟨hok, fun h0 => by simpa [h0] using hlt2⟩)), hE2⟩
      case measure => simp [intOf]; omega
    · have hkn : k = n := by omega
      subst hkn
      have HG := Lib.hid (show ascB okT ltT l = true from ascB_true fun i hi => HALL.out i (by have := HN.out; omega))
      go_wp2
      go_ret
      exact ⟨ret_bool (by rw [goodT, HG.out, ← HN.out, Bool.true_and]; exact decide_eq_decide.2 (by omega)), hE⟩
set_option maxHeartbeats 400000 in
theorem specAreTriggers_ok (l : List Trig) (v : Value) (w : World) (hv : Reads w 3 v l.length (l.flatMap Trig.enc)) (hl : l.length ≤ 1048576) :
    Calls Try.prog 14 #[v] w fun e w' => e = .returned (.bool (goodT l)) ∧ Ext w w' := by
  go_enter Try.func14, Try.ntmps14
  go_wp2_with fail
  refine (l10Good_ok l v _ hv hl).mono ?_
  rintro e w1 ⟨rfl, E1⟩
  go_wp2
  go_ret
  exact ⟨rfl, E1⟩
end Go.Proofs.Yteaaiiodnejmmaa
