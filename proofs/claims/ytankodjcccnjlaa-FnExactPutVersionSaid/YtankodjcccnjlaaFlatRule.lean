/- What the law's own helpers for slices of Rule compute: sizes, copies, comparisons, marks; no condition beyond the lengths that are named. -/
import Derived.Test.YtankodjcccnjlaaRows
import Derived.Test.YtankodjcccnjlaaData
namespace Go.Proofs.Ytankodjcccnjlaa
open Go.RowKit Go.Sort Go.Rd

theorem Try.infoIRule : (Try.prog.info? 48).map (fun i => (i.zero, i.size, i.bytes)) = some (some (.agg #[.int .i64 0, .int .i64 0, .int .i64 0, .int .i64 0]), 4, 32) := by kernel_rfl

set_option maxHeartbeats 400000 in
theorem toRule_ok (a1 a2 a3 a4 : Int) (w : World) :
    Calls Try.prog 31 #[.agg #[.int .i64 a1, .int .i64 a2, .int .i64 a3, .int .i64 a4]] w fun e w' => e = .returned (.agg #[.int .i64 a1, .int .i64 a2, .int .i64 a3, .int .i64 a4]) ∧ Ext w w' := by
  go_enter Try.func31, Try.ntmps31
  go_wp2
  refine bodyPost_ret (v := .agg #[.int .i64 a1, .int .i64 a2, .int .i64 a3, .int .i64 a4]) (by simp [results, Try.results31, go_sem]) rfl ⟨rfl, ?_⟩
  repeat (first | exact Ext.refl _ | refine Ext.alloc ?_ _ | refine Ext.setCell ?_ (by simp) _)

set_option maxHeartbeats 400000 in
theorem eqRule_ok (a1 a2 a3 a4 b1 b2 b3 b4 : Int) (w : World) : Calls Try.prog 38 #[.agg #[.int .i64 a1, .int .i64 a2, .int .i64 a3, .int .i64 a4], .agg #[.int .i64 b1, .int .i64 b2, .int .i64 b3, .int .i64 b4]] w fun e w' => e = .returned (.bool (decide ((⟨a1, a2, a3, a4⟩ : Rul) = (⟨b1, b2, b3, b4⟩ : Rul)))) ∧ Ext w w' := by
  go_enter Try.func38, Try.ntmps38
  go_wp2
  all_goals go_ret
  all_goals refine ⟨ret_bool ?_, ((Ext.refl _).alloc _).alloc _⟩
  all_goals (simp only [bne_iff_ne, ne_eq, bne_eq_false_iff_eq] at *; simp [*])

set_option maxHeartbeats 400000 in
theorem toRuleS_ok (l : List Rul) (v : Value) (w : World) (hv : Reads w 4 v l.length (l.flatMap Rul.enc)) (hl : l.length ≤ 1048576) :
    Calls Try.prog 18 #[v] w (RetOwn w 48 4 l.length (l.flatMap Rul.enc)) := by
  obtain ⟨a, cap, rfl⟩ := hv.shape
  obtain ⟨n, hn⟩ : ∃ n, n = l.length := ⟨_, rfl⟩
  rw [← hn] at hv hl ⊢
  have HN := Lib.hid hn
  clear hn
  have HM := Lib.hid (show n ≤ maxLen by unfold maxLen; omega)
  obtain ⟨i0, hi, hz0, hz1, hz2⟩ := info_parts Try.infoIRule
  go_enter Try.func18, Try.ntmps18
  go_wp2_with (at_make; refine wpList_make_full _ rfl _ _ 32 rfl w.heap.size 48 i0 (.agg #[.int .i64 0, .int .i64 0, .int .i64 0, .int .i64 0]) 4 Try.underlying32 hi hz0 hz1 _ _ _ _ n rfl rfl rfl rfl ?c1 ?c2 ?c3 ?_)
  case c1 => rw [hz2]; omega
  case c2 => exact HM.out
  case c3 => exact Nat.le_refl _
  intro w1 hown hgrow
  have hE : Ext w w1 := ext_grownBy (Ext.refl w) hgrow (by simp)
  obtain ⟨hg, hfil⟩ := Filled.of_owns hown
  clear hown hgrow
  go_wp2
  go_loopw [4] (fun i wr => ∃ k : Nat, k ≤ n ∧ i = .int .i64 k ∧ Filled wr w.heap.size 48 (n * 4) ((l.take k).flatMap Rul.enc) ∧ Ext w wr) (fun i _ => n - (intOf i).toNat)
  case atStart => exact ⟨0, Nat.zero_le _, rfl, hfil, hE⟩
  case round =>
    obtain ⟨k, hk, rfl, hfl, hE⟩ := hrel
    by_cases hlt : k < n
    · have hkl : k < l.length := by have := HN.out; omega
      have hv1 := hv.mono hE
      rw [HN.out] at hv1
      obtain ⟨b, off, rfl, hc⟩ := Reads.elem Rul.enc_len hv1 hkl
      have c0 := hc 0 _ rfl
      have c1 := hc 1 _ rfl
      have c2 := hc 2 _ rfl
      have c3 := hc 3 _ rfl
      clear hc
      rw [Nat.add_zero] at c0
      have gh : w.heap.size < wr.heap.size := by have := hfl.cell (i := 0) (by omega); obtain ⟨u, hu⟩ := this; exact block_lt_of_cell hu
      go_wp2_with fail
      refine (toRule_ok _ _ _ _ _).mono ?_
      rintro e w2 ⟨rfl, h2⟩
      have hfl2 := hfl.ext h2
      have hE2 := hE.trans h2
      obtain ⟨z0, hz0⟩ := hfl2.cell (i := k * 4) (by omega)
      obtain ⟨z1, hz1⟩ := hfl2.cell (i := k * 4 + 1) (by omega)
      obtain ⟨z2, hz2⟩ := hfl2.cell (i := k * 4 + 2) (by omega)
      obtain ⟨z3, hz3⟩ := hfl2.cell (i := k * 4 + 3) (by omega)
      have f0 := hfl2.frozen (k * 4)
      have f1 := hfl2.frozen (k * 4 + 1)
      have f2 := hfl2.frozen (k * 4 + 2)
      have f3 := hfl2.frozen (k * 4 + 3)
      clear c0 c1 c2 c3
      go_wp2
      go_roundw
      case rel =>
        refine ⟨k + 1, by omega, by go_num, ?_, ?_⟩
        · have e3 : ((l.take k).flatMap Rul.enc).length = k * 4 := flat_take_length _ 4 Rul.enc_len _ _ (by omega)
          rw [flat_take _ _ _ hkl]
          have p0 := hfl2.put' e3 (by omega) (.int .i64 l[k].se)
          have p1 := p0.put' (i := k * 4 + 1) (by simp [e3]) (by omega) (.int .i64 l[k].ev)
          have p2 := p1.put' (i := k * 4 + 2) (by simp [e3]) (by omega) (.int .i64 l[k].dy)
          have p3 := p2.put' (i := k * 4 + 3) (by simp [e3]) (by omega) (.int .i64 l[k].ac)
          simpa [Rul.enc] using p3
        · exact (((hE2.setCell (Nat.le_refl _) _).setCell (Nat.le_refl _) _).setCell (Nat.le_refl _) _).setCell (Nat.le_refl _) _
      case measure => simp [intOf]; omega
    · go_wp2
      go_ret
      have hkn : k = l.length := by have := HN.out; omega
      rw [hkn, List.take_length] at hfl
      have e3 : (l.flatMap Rul.enc).length = n * 4 := by rw [flat_length _ 4 Rul.enc_len, HN.out]
      have ho := hfl.owns e3 (Nat.le_refl _) HM.out
      exact ⟨_, rfl, ho, hE⟩

set_option maxHeartbeats 400000 in
theorem eqRuleS_ok (la lb : List Rul) (va vb : Value) (w : World) (ha : Reads w 4 va la.length (la.flatMap Rul.enc)) (hb : Reads w 4 vb lb.length (lb.flatMap Rul.enc)) (hm : la.length ≤ 1048576) :
    Calls Try.prog 26 #[va, vb] w fun e w' => e = .returned (.bool (decide (la = lb))) ∧ Ext w w' := by
  have mixed : Try.prog.follows .mixedOrders = true := by kernel_rfl
  obtain ⟨a, cap, rfl⟩ := ha.shape
  obtain ⟨b, cap', rfl⟩ := hb.shape
  by_cases hl : la.length = lb.length
  case neg =>
    have hne : ((la.length : Int) != (lb.length : Int)) = true := by rw [bne_iff_ne]; omega
    have HL : Hid (la ≠ lb) := (fun h => hl (by rw [h]) : la ≠ lb)
    clear hl ha hb hm
    go_enter Try.func26, Try.ntmps26
    go_wp2
    go_ret
    exact ⟨ret_bool (decide_eq_false HL.out).symm, Ext.refl _⟩
  obtain ⟨n, hn⟩ : ∃ n, n = la.length := ⟨_, rfl⟩
  rw [← hn] at ha hm hl
  rw [← hl] at hb
  rw [← hn, ← hl]
  have hne : ((n : Int) != (n : Int)) = false := by simp
  have HA := Lib.hid hn
  have HB := Lib.hid hl
  clear hn hl
  go_enter Try.func26, Try.ntmps26
  go_wp2
  go_loopw [5] (fun i wr => ∃ k : Nat, k ≤ n ∧ i = .int .i64 k ∧ (∀ j, j < k → la[j]? = lb[j]?) ∧ Ext w wr) (fun i _ => n - (intOf i).toNat)
  case atStart => exact ⟨0, Nat.zero_le _, rfl, fun j h => by omega, Ext.refl _⟩
  case round =>
    obtain ⟨k, hk, rfl, hall, hE⟩ := hrel
    have HALL := Lib.hid hall
    clear hall
    by_cases hlt : k < n
    · have hka : k < la.length := by have := HA.out; omega
      have hkb : k < lb.length := by have := HB.out; omega
      have ha1 := ha.mono hE
      have hb1 := hb.mono hE
      rw [HA.out] at ha1
      rw [HB.out] at hb1
      obtain ⟨ba, oa, rfl, hca⟩ := Reads.elem Rul.enc_len ha1 hka
      obtain ⟨bb, ob, rfl, hcb⟩ := Reads.elem Rul.enc_len hb1 hkb
      clear ha1 hb1
      rcases hxa : la[k] with ⟨p1, p2, p3, p4⟩
      rcases hxb : lb[k] with ⟨q1, q2, q3, q4⟩
      rw [hxa] at hca
      rw [hxb] at hcb
      have x0 := cell_in_class (hca 0 _ rfl)
      have y0 := cell_in_class (hcb 0 _ rfl)
      have x1 := cell_in_class (hca 1 _ rfl)
      have y1 := cell_in_class (hcb 1 _ rfl)
      have x2 := cell_in_class (hca 2 _ rfl)
      have y2 := cell_in_class (hcb 2 _ rfl)
      have x3 := cell_in_class (hca 3 _ rfl)
      have y3 := cell_in_class (hcb 3 _ rfl)
      simp only [Nat.add_zero] at x0 y0
      clear hca hcb
      have HXA := Lib.hid hxa
      have HXB := Lib.hid hxb
      clear hxa hxb
      obtain ⟨res, hres⟩ : ∃ r, r = decide ((⟨p1, p2, p3, p4⟩ : Rul) = (⟨q1, q2, q3, q4⟩ : Rul)) := ⟨_, rfl⟩
      have cE := Calls.in_class (w := wr) (fun w' _ => eqRule_ok p1 p2 p3 p4 q1 q2 q3 q4 w')
      rw [← hres] at cE
      have HRES := Lib.hid hres
      clear hres
      go_wp2
      refine wp_region_quiet_below mixed (by kernel_rfl) ?_
      repeat (quiet_step (first | exact cE _ _))
      refine wpQuiet_nil ?_
      intro _ hw'
      obtain ⟨⟨dq, osq⟩, hw''⟩ := hw'
      subst hw''
      clear cE x0 y0 x1 y1 x2 y2 x3 y3
      have hq := hE.regrown dq osq
      cases res with
      | true =>
        go_wp2
        go_roundw
        case rel =>
          refine ⟨k + 1, by omega, by go_num, fun j hj => ?_, hq⟩
          by_cases hjk : j < k
          · exact HALL.out j hjk
          · have : j = k := by omega
            subst this
            have := of_decide_eq_true HRES.out.symm
            rw [List.getElem?_eq_getElem hka, List.getElem?_eq_getElem hkb, HXA.out, HXB.out, this]
        case measure => simp [intOf]; omega
      | false =>
        go_wp2
        go_ret
        refine ⟨ret_bool ?_, hq⟩
        have h3 := of_decide_eq_false HRES.out.symm
        refine (decide_eq_false ?_).symm
        rintro rfl
        exact h3 (HXA.out.symm.trans HXB.out)
    · go_wp2
      go_ret
      refine ⟨ret_bool (decide_eq_true ?_).symm, hE⟩
      apply List.ext_getElem?
      intro j
      by_cases hj : j < k
      · exact HALL.out j hj
      · have := HA.out
        have := HB.out
        rw [List.getElem?_eq_none (by omega), List.getElem?_eq_none (by omega)]

set_option maxHeartbeats 400000 in
theorem markRuleS_ok (base hi n : Nat) (v : Value) (cs : List Value) (k0 : Int) (w : World) (hv : w.ownsRow base 48 4 v n cs) (hhi : ∀ j, v.ownBlock = some j → j < hi) (hn : n ≤ 1048576) (hk0 : 0 ≤ k0) (hk1 : k0 ≤ 1048576 * 1048576) :
    Calls Try.prog 27 #[v, .int .i64 k0] w (RetMarked w base hi 48 4 v n k0) := by
  rcases owns_cases hv with ⟨rfl, rfl⟩ | ⟨g, cap, rfl, hg, hgs, hnc, hcm, hfil⟩
  · go_enter Try.func27, Try.ntmps27
    go_wp2
    go_loopw [1, 5] (fun kk i wr => kk = .int .i64 k0 ∧ i = .int .i64 0 ∧ wr = w) (fun _ _ _ => 0)
    case atStart => exact ⟨rfl, rfl, rfl⟩
    case round =>
      obtain ⟨rfl, rfl, rfl⟩ := hrel
      go_wp2
      go_ret
      exact ⟨by simp, nil_owns _ _ _ _ _, Turned.refl _ _ _⟩
  have HCM := Lib.hid hcm
  have hgh : g < hi := hhi g rfl
  clear hcm hv hhi
  go_enter Try.func27, Try.ntmps27
  go_wp2
  go_loopw [1, 5] (fun kk i wr => ∃ k : Nat, k ≤ n ∧ i = .int .i64 k ∧ kk = .int .i64 (k0 + (k : Int) * 4) ∧ Filled wr g 48 (cap * 4) (numCells k0 (k * 4)) ∧ Turned base hi w wr) (fun _ i _ => n - (intOf i).toNat)
  case atStart => exact ⟨0, Nat.zero_le _, rfl, by simp, hfil, Turned.refl _ _ _⟩
  case round =>
    obtain ⟨k, hk, rfl, rfl, hfl, hT⟩ := hrel
    by_cases hlt : k < n
    · have hcap : k * 4 + 4 ≤ cap * 4 := by omega
      obtain ⟨z0, hz0⟩ := hfl.cell (i := k * 4) (by omega)
      obtain ⟨z1, hz1⟩ := hfl.cell (i := k * 4 + 1) (by omega)
      obtain ⟨z2, hz2⟩ := hfl.cell (i := k * 4 + 2) (by omega)
      obtain ⟨z3, hz3⟩ := hfl.cell (i := k * 4 + 3) (by omega)
      have f0 := hfl.frozen (k * 4)
      have f1 := hfl.frozen (k * 4 + 1)
      have f2 := hfl.frozen (k * 4 + 2)
      have f3 := hfl.frozen (k * 4 + 3)
      go_wp2
      go_roundw
      case rel =>
        refine ⟨k + 1, by omega, by go_num, ?_, ?_, ?_⟩
        · exact congrArg (Value.int IntKind.i64) (by omega)
        · have e3 : (numCells k0 (k * 4)).length = k * 4 := numCells_length _ _
          have p0 := hfl.put' e3 (by omega) (.int .i64 (k0 + (k : Int) * 4))
          have p1 := p0.put' (i := k * 4 + 1) (by simp [e3]) (by omega) (.int .i64 (k0 + (k : Int) * 4 + 1))
          have p2 := p1.put' (i := k * 4 + 2) (by simp [e3]) (by omega) (.int .i64 (k0 + (k : Int) * 4 + 1 + 1))
          have p3 := p2.put' (i := k * 4 + 3) (by simp [e3]) (by omega) (.int .i64 (k0 + (k : Int) * 4 + 1 + 1 + 1))
          rw [numCells_step4 k0 k]
          simpa using p3
        · exact (((hT.setCell hg hgh _).setCell hg hgh _).setCell hg hgh _).setCell hg hgh _
      case measure => simp [intOf]; omega
    · go_wp2
      go_ret
      have hkn : k = n := by omega
      subst hkn
      exact ⟨ret_int (by omega), hfl.owns_cap (numCells_length _ _) hg hnc HCM.out, hT⟩

set_option maxHeartbeats 400000 in
theorem heldRuleS_ok (n : Nat) (v : Value) (k0 : Int) (w : World) (hv : Reads w 4 v n (numCells k0 (n * 4))) (hn : n ≤ 1048576) (hk0 : 0 ≤ k0) (hk1 : k0 ≤ 1048576 * 1048576) :
    Calls Try.prog 28 #[v, .int .i64 k0] w fun e w' => e = .returned (.int .i64 (k0 + (n * 4 : Nat))) ∧ w = w' := by
  obtain ⟨a, cap, rfl⟩ := hv.shape
  go_enter Try.func28, Try.ntmps28
  go_wp2
  go_loop [1, 5] (fun kk i => ∃ k : Nat, k ≤ n ∧ i = .int .i64 k ∧ kk = .int .i64 (k0 + (k : Int) * 4)) (fun _ i => n - (intOf i).toNat)
  case atStart => exact ⟨0, Nat.zero_le _, rfl, by simp⟩
  case round =>
    obtain ⟨k, hk, rfl, rfl⟩ := hrel
    by_cases hlt : k < n
    · obtain ⟨_, b, off, rfl, hc⟩ := hv.at (by omega)
      have c0 := num_at hc (i := k * 4) (by omega)
      have c1 := num_at hc (i := k * 4 + 1) (by omega)
      have c2 := num_at hc (i := k * 4 + 2) (by omega)
      have c3 := num_at hc (i := k * 4 + 3) (by omega)
      clear hc hv
      rw [show k0 + ((k * 4 : Nat) : Int) = k0 + (k : Int) * 4 by omega] at c0
      rw [show k0 + ((k * 4 + 1 : Nat) : Int) = k0 + (k : Int) * 4 + 1 by omega] at c1
      rw [show k0 + ((k * 4 + 2 : Nat) : Int) = k0 + (k : Int) * 4 + 1 + 1 by omega] at c2
      rw [show k0 + ((k * 4 + 3 : Nat) : Int) = k0 + (k : Int) * 4 + 1 + 1 + 1 by omega] at c3
      rw [← Nat.add_assoc] at c1
      rw [← Nat.add_assoc] at c2
      rw [← Nat.add_assoc] at c3
      have q0 : (k0 + (k : Int) * 4 != k0 + (k : Int) * 4) = false := by simp
      have q1 : (k0 + (k : Int) * 4 + 1 != k0 + (k : Int) * 4 + 1) = false := by simp
      have q2 : (k0 + (k : Int) * 4 + 1 + 1 != k0 + (k : Int) * 4 + 1 + 1) = false := by simp
      have q3 : (k0 + (k : Int) * 4 + 1 + 1 + 1 != k0 + (k : Int) * 4 + 1 + 1 + 1) = false := by simp
      go_wp2
      go_round
      case rel => exact ⟨k + 1, by omega, by go_num, congrArg (Value.int IntKind.i64) (by omega)⟩
      case measure => simp [intOf]; omega
    · go_wp2
      go_ret
      have hkn : k = n := by omega
      subst hkn
      exact ⟨ret_int (by omega), rfl⟩

set_option maxHeartbeats 400000 in
theorem szRuleS_ok (n cap : Nat) (a : Option Addr) (left : Int) (w : World) (hn : n ≤ maxLen) (h0 : 0 ≤ left) (h1 : left ≤ 1048576) :
    Calls Try.prog 15 #[.slice a n cap, .int .i64 left] w fun e w' => e = .returned (.int .i64 (szL left n)) ∧ w = w' := by
  unfold maxLen at hn
  by_cases h : (n : Int) ≤ left
  · have HR := Lib.hid (szL_le h)
    go_enter Try.func15, Try.ntmps15
    go_wp2
    go_ret
    exact ⟨ret_int (by rw [HR.out]), rfl⟩
  · have HR := Lib.hid (szL_gt h)
    go_enter Try.func15, Try.ntmps15
    go_wp2
    go_ret
    exact ⟨ret_int (by rw [HR.out]), rfl⟩

end Go.Proofs.Ytankodjcccnjlaa
