/- What the law's own helpers for slices of integers compute; no condition beyond the lengths that are named. -/
import Derived.Test.YtkbhonafbecbfaaRows
import Derived.Test.YtkbhonafbecbfaaData
namespace Go.Proofs.Ytkbhonafbecbfaa
open Go.RowKit Go.Sort Go.Rd

theorem Try.infoInt : (Try.prog.info? 3).map (fun i => (i.zero, i.size, i.bytes)) = some (some (.int .i64 0), 1, 8) := by kernel_rfl

set_option maxHeartbeats 400000 in
theorem toIntS_ok (l : List Int) (v : Value) (w : World) (hv : Reads w 1 v l.length (l.flatMap encI)) (hl : l.length ≤ 1048576) :
    Calls Try.prog 110 #[v] w (RetOwn w 3 1 l.length (l.flatMap encI)) := by
  obtain ⟨a, cap, rfl⟩ := hv.shape
  obtain ⟨n, hn⟩ : ∃ n, n = l.length := ⟨_, rfl⟩
  rw [← hn] at hv hl ⊢
  have HN := Lib.hid hn
  clear hn
  have HM := Lib.hid (show n ≤ maxLen by unfold maxLen; omega)
  obtain ⟨i0, hi, hz0, hz1, hz2⟩ := info_parts Try.infoInt
  go_enter Try.func110, Try.ntmps110
  go_wp2_with (at_make; refine wpList_make_full _ rfl _ _ 67 rfl w.heap.size 3 i0 (.int .i64 0) 1 Try.underlying67 hi hz0 hz1 _ _ _ _ n rfl rfl rfl rfl ?c1 ?c2 ?c3 ?_)
  case c1 => rw [hz2]; omega
  case c2 => exact HM.out
  case c3 => exact Nat.le_refl _
  intro w1 hown hgrow
  have hE : Ext w w1 := ext_grownBy (Ext.refl w) hgrow (by simp)
  obtain ⟨hg, hfil⟩ := Filled.of_owns hown
  clear hown hgrow
  go_wp2
  go_loopw [4] (fun i wr => ∃ k : Nat, k ≤ n ∧ i = .int .i64 k ∧ Filled wr w.heap.size 3 (n * 1) ((l.take k).flatMap encI) ∧ Ext w wr) (fun i _ => n - (intOf i).toNat)
  case atStart => exact ⟨0, Nat.zero_le _, rfl, hfil, hE⟩
  case round =>
    obtain ⟨k, hk, rfl, hfl, hE⟩ := hrel
    by_cases hlt : k < n
    · have hkl : k < l.length := by have := HN.out; omega
      have hv1 := hv.mono hE
      rw [HN.out] at hv1
      obtain ⟨b, off, rfl, hc⟩ := Reads.elem encI_len hv1 hkl
      have c0 := hc 0 _ rfl
      clear hc
      rw [Nat.add_zero, Nat.mul_one] at c0
      have gh : w.heap.size < wr.heap.size := by have := hfl.cell (i := 0) (by omega); obtain ⟨u, hu⟩ := this; exact block_lt_of_cell hu
      obtain ⟨z0, hz0⟩ := hfl.cell (i := k) (by omega)
      have f0 := hfl.frozen k
      go_wp2
      go_roundw
      case rel =>
        refine ⟨k + 1, by omega, by go_num, ?_, ?_⟩
        · have e3 : ((l.take k).flatMap encI).length = k := by rw [flat_take_length _ 1 encI_len _ _ (by omega), Nat.mul_one]
          rw [flat_take _ _ _ hkl]
          exact hfl.put' e3 (by omega) (.int .i64 l[k])
        · exact hE.setCell (Nat.le_refl _) _
      case measure => simp [intOf]; omega
    · go_wp2
      go_ret
      have hkn : k = l.length := by have := HN.out; omega
      rw [hkn, List.take_length] at hfl
      have e3 : (l.flatMap encI).length = n * 1 := by rw [flat_length _ 1 encI_len, HN.out]
      have ho := hfl.owns e3 (Nat.le_refl _) HM.out
      exact ⟨_, rfl, ho, hE⟩

set_option maxHeartbeats 400000 in
theorem eqIntS_ok (la lb : List Int) (va vb : Value) (w : World) (ha : Reads w 1 va la.length (la.flatMap encI)) (hb : Reads w 1 vb lb.length (lb.flatMap encI)) (hm : la.length ≤ 1048576) :
    Calls Try.prog 37 #[va, vb] w fun e w' => e = .returned (.bool (decide (la = lb))) ∧ Ext w w' := by
  have mixed : Try.prog.follows .mixedOrders = true := by kernel_rfl
  obtain ⟨a, cap, rfl⟩ := ha.shape
  obtain ⟨b, cap', rfl⟩ := hb.shape
  by_cases hl : la.length = lb.length
  case neg =>
    have hne : ((la.length : Int) != (lb.length : Int)) = true := by rw [bne_iff_ne]; omega
    have HL : Hid (la ≠ lb) := (fun h => hl (by rw [h]) : la ≠ lb)
    clear hl ha hb hm
    go_enter Try.func37, Try.ntmps37
    go_wp2
    go_ret
    exact ⟨ret_bool (decide_eq_false HL.out).symm, Ext.refl _⟩
  obtain ⟨n, hn⟩ : ∃ n, n = la.length := ⟨_, rfl⟩
  rw [← hn] at ha hm hl
  rw [← hl] at hb
  rw [← hn, ← hl]
  have hne : ((n : Int) != (n : Int)) = false := by simp
  have HA := Lib.hid hn
  have HB := Lib.hid hl
  clear hn hl
  go_enter Try.func37, Try.ntmps37
  go_wp2
  go_loopw [5] (fun i wr => ∃ k : Nat, k ≤ n ∧ i = .int .i64 k ∧ (∀ j, j < k → la[j]? = lb[j]?) ∧ Ext w wr) (fun i _ => n - (intOf i).toNat)
  case atStart => exact ⟨0, Nat.zero_le _, rfl, fun j h => by omega, Ext.refl _⟩
  case round =>
    obtain ⟨k, hk, rfl, hall, hE⟩ := hrel
    have HALL := Lib.hid hall
    clear hall
    by_cases hlt : k < n
    · have hka : k < la.length := by have := HA.out; omega
      have hkb : k < lb.length := by have := HB.out; omega
      have ha1 := ha.mono hE
      have hb1 := hb.mono hE
      rw [HA.out] at ha1
      rw [HB.out] at hb1
      obtain ⟨ba, oa, rfl, hca⟩ := Reads.elem encI_len ha1 hka
      obtain ⟨bb, ob, rfl, hcb⟩ := Reads.elem encI_len hb1 hkb
      clear ha1 hb1
      obtain ⟨p, hxa⟩ : ∃ p, la[k] = p := ⟨_, rfl⟩
      obtain ⟨q, hxb⟩ : ∃ q, lb[k] = q := ⟨_, rfl⟩
      rw [hxa] at hca
      rw [hxb] at hcb
      have x0 := cell_in_class (hca 0 _ rfl)
      have y0 := cell_in_class (hcb 0 _ rfl)
      simp only [Nat.add_zero, Nat.mul_one] at x0 y0
      clear hca hcb
      have HXA := Lib.hid hxa
      have HXB := Lib.hid hxb
      clear hxa hxb
      cases hres : (p != q) with
      | false =>
        go_wp2
        refine wp_region_quiet_below mixed (by kernel_rfl) ?_
        repeat (quiet_step (fail))
        refine wpQuiet_nil ?_
        intro _ hw'
        obtain ⟨⟨dq, osq⟩, hw''⟩ := hw'
        subst hw''
        clear x0 y0
        have hq := hE.regrown dq osq
        go_wp2
        go_roundw
        case rel =>
          refine ⟨k + 1, by omega, by go_num, fun j hj => ?_, hq⟩
          by_cases hjk : j < k
          · exact HALL.out j hjk
          · have : j = k := by omega
            subst this
            have : p = q := by simpa using hres
            rw [List.getElem?_eq_getElem hka, List.getElem?_eq_getElem hkb, HXA.out, HXB.out, this]
        case measure => simp [intOf]; omega
      | true =>
        go_wp2
        refine wp_region_quiet_below mixed (by kernel_rfl) ?_
        repeat (quiet_step (fail))
        refine wpQuiet_nil ?_
        intro _ hw'
        obtain ⟨⟨dq, osq⟩, hw''⟩ := hw'
        subst hw''
        clear x0 y0
        have hq := hE.regrown dq osq
        go_wp2
        go_ret
        refine ⟨ret_bool ?_, hq⟩
        have h3 : ¬ p = q := by simpa using hres
        refine (decide_eq_false ?_).symm
        rintro rfl
        exact h3 (HXA.out.symm.trans HXB.out)
    · go_wp2
      go_ret
      refine ⟨ret_bool (decide_eq_true ?_).symm, hE⟩
      apply List.ext_getElem?
      intro j
      by_cases hj : j < k
      · exact HALL.out j hj
      · have := HA.out
        have := HB.out
        rw [List.getElem?_eq_none (by omega), List.getElem?_eq_none (by omega)]

set_option maxHeartbeats 400000 in
theorem markIntS_ok (base hi n : Nat) (v : Value) (cs : List Value) (k0 : Int) (w : World) (hv : w.ownsRow base 3 1 v n cs) (hhi : ∀ j, v.ownBlock = some j → j < hi) (hn : n ≤ 1048576) (hk0 : 0 ≤ k0) (hk1 : k0 ≤ 1048576 * 1048576) :
    Calls Try.prog 40 #[v, .int .i64 k0] w (RetMarked w base hi 3 1 v n k0) := by
  rcases owns_cases hv with ⟨rfl, rfl⟩ | ⟨g, cap, rfl, hg, hgs, hnc, hcm, hfil⟩
  · go_enter Try.func40, Try.ntmps40
    go_wp2
    go_loopw [1, 5] (fun kk i wr => kk = .int .i64 k0 ∧ i = .int .i64 0 ∧ wr = w) (fun _ _ _ => 0)
    case atStart => exact ⟨rfl, rfl, rfl⟩
    case round =>
      obtain ⟨rfl, rfl, rfl⟩ := hrel
      go_wp2
      go_ret
      exact ⟨by simp, nil_owns _ _ _ _ _, Turned.refl _ _ _⟩
  have HCM := Lib.hid hcm
  have hgh : g < hi := hhi g rfl
  clear hcm hv hhi
  go_enter Try.func40, Try.ntmps40
  go_wp2
  go_loopw [1, 5] (fun kk i wr => ∃ k : Nat, k ≤ n ∧ i = .int .i64 k ∧ kk = .int .i64 (k0 + (k : Int)) ∧ Filled wr g 3 (cap * 1) (numCells k0 k) ∧ Turned base hi w wr) (fun _ i _ => n - (intOf i).toNat)
  case atStart => exact ⟨0, Nat.zero_le _, rfl, by simp, hfil, Turned.refl _ _ _⟩
  case round =>
    obtain ⟨k, hk, rfl, rfl, hfl, hT⟩ := hrel
    by_cases hlt : k < n
    · obtain ⟨z0, hz0⟩ := hfl.cell (i := k) (by omega)
      have f0 := hfl.frozen k
      go_wp2
      go_roundw
      case rel =>
        refine ⟨k + 1, by omega, by go_num, ?_, ?_, ?_⟩
        · exact congrArg (Value.int IntKind.i64) (by omega)
        · rw [numCells_succ]
          exact hfl.put' (numCells_length _ _) (by omega) _
        · exact hT.setCell hg hgh _
      case measure => simp [intOf]; omega
    · go_wp2
      go_ret
      have hkn : k = n := by omega
      subst hkn
      exact ⟨ret_int (by omega), by rw [Nat.mul_one]; exact hfl.owns_cap (by rw [numCells_length, Nat.mul_one]) hg hnc HCM.out, hT⟩

set_option maxHeartbeats 400000 in
theorem heldIntS_ok (n : Nat) (v : Value) (k0 : Int) (w : World) (hv : Reads w 1 v n (numCells k0 (n * 1))) (hn : n ≤ 1048576) (hk0 : 0 ≤ k0) (hk1 : k0 ≤ 1048576 * 1048576) :
    Calls Try.prog 41 #[v, .int .i64 k0] w fun e w' => e = .returned (.int .i64 (k0 + (n * 1 : Nat))) ∧ w = w' := by
  obtain ⟨a, cap, rfl⟩ := hv.shape
  go_enter Try.func41, Try.ntmps41
  go_wp2
  go_loop [1, 5] (fun kk i => ∃ k : Nat, k ≤ n ∧ i = .int .i64 k ∧ kk = .int .i64 (k0 + (k : Int))) (fun _ i => n - (intOf i).toNat)
  case atStart => exact ⟨0, Nat.zero_le _, rfl, by simp⟩
  case round =>
    obtain ⟨k, hk, rfl, rfl⟩ := hrel
    by_cases hlt : k < n
    · obtain ⟨_, b, off, rfl, hc⟩ := hv.at (by omega)
      have c0 := num_at hc (i := k) (by omega)
      clear hc hv
      have q0 : (k0 + (k : Int) != k0 + (k : Int)) = false := by simp
      go_wp2
      go_round
      case rel => exact ⟨k + 1, by omega, by go_num, congrArg (Value.int IntKind.i64) (by omega)⟩
      case measure => simp [intOf]; omega
    · go_wp2
      go_ret
      have hkn : k = n := by omega
      subst hkn
      exact ⟨ret_int (by omega), rfl⟩

set_option maxHeartbeats 400000 in
theorem szIntS_ok (n cap : Nat) (a : Option Addr) (left : Int) (w : World) (hn : n ≤ maxLen) (h0 : 0 ≤ left) (h1 : left ≤ 1048576) :
    Calls Try.prog 107 #[.slice a n cap, .int .i64 left] w fun e w' => e = .returned (.int .i64 (szL left n)) ∧ w = w' := by
  unfold maxLen at hn
  by_cases h : (n : Int) ≤ left
  · have HR := Lib.hid (szL_le h)
    go_enter Try.func107, Try.ntmps107
    go_wp2
    go_ret
    exact ⟨ret_int (by rw [HR.out]), rfl⟩
  · have HR := Lib.hid (szL_gt h)
    go_enter Try.func107, Try.ntmps107
    go_wp2
    go_ret
    exact ⟨ret_int (by rw [HR.out]), rfl⟩
end Go.Proofs.Ytkbhonafbecbfaa
