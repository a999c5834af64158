/- What the functions on triggers compute; no condition beyond the lengths that are named. -/
import Derived.Test.YteaaiiodnejmmaaFlatTrigger
import Derived.Test.YteaaiiodnejmmaaFlatRule
import Derived.Test.YteaaiiodnejmmaaInts
import Derived.Test.YteaaiiodnejmmaaCore
namespace Go.Proofs.Yteaaiiodnejmmaa
open Go.RowKit Go.Sort Go.Rd

set_option maxHeartbeats 1000000 in
theorem l10Good_ok (l : List Trig) (v : Value) (w : World) (hv : Reads w 3 v l.length (l.flatMap Trig.enc)) (hl : l.length ≤ 1048576) :
    Calls Try.prog 45 #[v] w fun e w' => e = .returned (.bool (goodT l)) ∧ Ext w w' := by
  have mixed : Try.prog.follows .mixedOrders = true := by kernel_rfl
  obtain ⟨a, cap, rfl⟩ := hv.shape
  obtain ⟨n, hn⟩ : ∃ n, n = l.length := ⟨_, rfl⟩
  rw [← hn] at hv hl ⊢
  have HN := Lib.hid hn
  clear hn
  go_enter Try.func45, Try.ntmps45
  go_wp2
  go_loopw [3] (fun i wr => ∃ k : Nat, k ≤ n ∧ i = .int .i64 k ∧ Hid (∀ i, i < k → AscAt okT ltT l i) ∧ Ext w wr) (fun i _ => n - (intOf i).toNat)
  case atStart => exact ⟨0, Nat.zero_le _, rfl, Lib.hid fun i h => by omega, Ext.refl _⟩
  case round =>
    obtain ⟨k, hk, rfl, HALL, hE⟩ := hrel
    by_cases hlt : k < n
    · have hkl : k < l.length := by have := HN.out; omega
      have hv1 := hv.mono hE
      rw [HN.out] at hv1
      obtain ⟨b, off, rfl, hc⟩ := Reads.elems Trig.enc_len hv1 (by omega)
      obtain ⟨⟨p1, p2, p3⟩, hx⟩ := get_of_lt hkl
      have c0 := hc k _ hx 0 _ rfl
      have c1 := hc k _ hx 1 _ rfl
      have c2 := hc k _ hx 2 _ rfl
      rw [Nat.add_zero] at c0
      have HX := Lib.hid hx
      have HC := Lib.hid hc
      clear hc hx
      obtain ⟨⟨q1, q2, q3⟩, hy⟩ : ∃ y, 0 < k → l[k - 1]? = some y := by
        by_cases h0 : 0 < k
        · obtain ⟨y, hy⟩ := get_of_lt (show k - 1 < l.length by omega); exact ⟨y, fun _ => hy⟩
        · exact ⟨default, fun h => absurd h h0⟩
      have HA := Lib.hid (ascAt_iff (ok := okT) (lt := ltT) HX.out hy)
      have HY := Lib.hid hy
      clear hy
      go_upto_region 5 with fail
      go_cut [37] (fun c wx => c = .bool (!okT ⟨p1, p2, p3⟩) ∧ wx = wr.alloc (.cells #[.int .i64 p1, .int .i64 p2, .int .i64 p3] 58))
      case first =>
        go_wp2_with (go_at_call 40; refine (l1In_ok _ _ _ _).mono ?_; rintro e w' ⟨rfl, rfl⟩)
        all_goals (go_meet; exact ⟨congrArg Value.bool (by simp [okT, *]), by simp [*]⟩)
      case rest =>
      obtain ⟨rfl, rfl⟩ := hcut
      cases hok : okT ⟨p1, p2, p3⟩
      case false =>
        go_wp2
        go_ret
        exact ⟨ret_bool (not_good hkl (by rw [HA.out, hok]; simp)).symm, hE.alloc _⟩
      go_upto_region 7 with fail
      go_cut [72] (fun c wx => c = .bool (decide (0 < k) && !ltT ⟨q1, q2, q3⟩ ⟨p1, p2, p3⟩) ∧ Ext w wx)
      case first =>
        by_cases hk0 : 0 < k
        · have d0 := cell_alloc (HC.out (k - 1) _ (HY.out hk0) 0 _ rfl)
          have d1 := cell_alloc (HC.out (k - 1) _ (HY.out hk0) 1 _ rfl)
          simp only [Nat.add_zero] at d0
          have hd : decide (0 < (k : Int)) = true := by simp; omega
          have HD := Lib.hid (show (decide (0 < k) : Bool) = true from decide_eq_true hk0)
          cases g1 : decide (p1 < q1) <;> cases g2 : (q1 == p1) <;> cases g3 : decide (p2 ≤ q2)
          all_goals
            go_quiet (fail)
            go_wp2
            go_meet
            exact ⟨congrArg Value.bool (by rw [← ltT_not, HD.out, g1, g2, g3]; rfl), below_drewN (hE.alloc _) _⟩
        · have hd : decide (0 < (k : Int)) = false := by simp; omega
          have HD := Lib.hid (show (decide (0 < k) : Bool) = false from decide_eq_false hk0)
          go_quiet (fail)
          go_wp2
          go_meet
          exact ⟨congrArg Value.bool (by rw [HD.out]; rfl), below_drewN (hE.alloc _) _⟩
      case rest =>
      obtain ⟨rfl, hE2⟩ := hcut
      cases hlt2 : (decide (0 < k) && !ltT ⟨q1, q2, q3⟩ ⟨p1, p2, p3⟩)
      case true =>
        go_wp2
        go_ret
        exact ⟨ret_bool (not_good hkl (by rw [HA.out]; simp at hlt2; simp [hlt2])).symm, hE2⟩
      go_wp2
      go_roundw
      case rel => exact ⟨k + 1, by omega, by go_num, Lib.hid (ascAt_step HALL.out (HA.out.2 ⟨hok, fun h0 => by simpa [h0] using hlt2⟩)), hE2⟩
      case measure => simp [intOf]; omega
    · have hkn : k = n := by omega
      subst hkn
      have HG := Lib.hid (show ascB okT ltT l = true from ascB_true fun i hi => HALL.out i (by have := HN.out; omega))
      go_wp2
      go_ret
      exact ⟨ret_bool (by rw [goodT, HG.out, ← HN.out, Bool.true_and]; exact decide_eq_decide.2 (by omega)), hE⟩

set_option maxHeartbeats 400000 in
theorem isKind_ok (x : Int) (w : World) : Calls Try.prog 47 #[.int .i64 x] w fun e w' => e = .returned (.bool (inB x 0 9)) ∧ w = w' := by
  go_enter Try.func47, Try.ntmps47
  go_wp2_with (go_at_call 43; refine (within_ok _ _ _ _).mono ?_; rintro e w' ⟨rfl, rfl⟩)
  go_ret
  exact ⟨rfl, rfl⟩
end Go.Proofs.Yteaaiiodnejmmaa
