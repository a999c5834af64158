/- What the law's own helpers for slices of pairs compute: comparisons, marks; no condition beyond the lengths that are named. -/
import Derived.Test.YtpmjjkhikciokaaRows
import Derived.Test.YtpmjjkhikciokaaData
namespace Go.Proofs.Ytpmjjkhikciokaa
open Go.RowKit Go.Sort Go.Rd
theorem Try.infoA2 : (Try.prog.info? 84).map (fun i => (i.zero, i.size, i.bytes)) = some (some (.agg #[.int .i64 0, .int .i64 0]), 2, 16) := by kernel_rfl
set_option maxHeartbeats 1000000 in
theorem eqIntA2_ok (a1 a2 b1 b2 : Int) (w : World) : Calls Try.prog 58 #[.agg #[.int .i64 a1, .int .i64 a2], .agg #[.int .i64 b1, .int .i64 b2]] w fun e w' => e = .returned (.bool (decide ((⟨a1, a2⟩ : Evt) = ⟨b1, b2⟩))) ∧ Ext w w' := by
  have mixed : Try.prog.follows .mixedOrders = true := by kernel_rfl
  obtain ⟨w2, hw2⟩ : ∃ w2, w2 = (w.alloc (.cells #[.int .i64 a1, .int .i64 a2] 84)).alloc (.cells #[.int .i64 b1, .int .i64 b2] 84) := ⟨_, rfl⟩
  have E2 : Ext w w2 := by rw [hw2]; exact ((Ext.refl w).alloc _).alloc _
  have c0 : w2.cell? ⟨w.heap.size, 0, none⟩ = some (.int .i64 a1) := by rw [hw2]; simp
  have c1 : w2.cell? ⟨w.heap.size, 1, none⟩ = some (.int .i64 a2) := by rw [hw2]; simp
  have d0 : w2.cell? ⟨w.heap.size + 1, 0, none⟩ = some (.int .i64 b1) := by rw [hw2]; simp
  have d1 : w2.cell? ⟨w.heap.size + 1, 1, none⟩ = some (.int .i64 b2) := by rw [hw2]; simp
  obtain ⟨res, hres⟩ : ∃ r, decide ((⟨a1, a2⟩ : Evt) = ⟨b1, b2⟩) = r := ⟨_, rfl⟩
  rw [hres]
  have HR := Lib.hid hres
  clear hres
  go_enter Try.func58, Try.ntmps58
  go_wp2
  rw [← hw2]
  clear hw2
  go_loopw [5] (fun i wr => ∃ k : Nat, k ≤ 2 ∧ i = .int .i64 k ∧ Hid ((0 < k → a1 = b1) ∧ (1 < k → a2 = b2)) ∧ Ext w2 wr) (fun i _ => 2 - (intOf i).toNat)
  case atStart => exact ⟨0, by omega, rfl, Lib.hid ⟨fun h => by omega, fun h => by omega⟩, Ext.refl _⟩
  case round =>
    obtain ⟨k, hk, rfl, HE, hE⟩ := hrel
    obtain rfl | rfl | rfl : k = 0 ∨ k = 1 ∨ k = 2 := by omega
    · have x0 := hE.cell c0
      have y0 := hE.cell d0
      go_upto_region 4 with fail
      go_cut [16] (fun z wx => z = .bool (a1 != b1) ∧ Ext wr wx)
      case first =>
        go_quiet (fail)
        go_wp2
        go_meet
        exact ⟨rfl, below_drewN (Ext.refl _) _⟩
      case rest =>
      obtain ⟨rfl, E3⟩ := hcut
      have hE3 := Ext.trans hE E3
      cases hq : (a1 != b1)
      case true =>
        have HF : Hid (res = false) := Lib.hid (by rw [← HR.out]; refine decide_eq_false fun h => ?_; injection h with h1 h2; rw [h1] at hq; simp at hq)
        go_wp2
        go_ret
        exact ⟨ret_bool HF.out.symm, Ext.trans E2 hE3⟩
      have hq2 : a1 = b1 := by simpa using hq
      have HK : Hid ((0 < 1 → a1 = b1) ∧ (1 < 1 → a2 = b2)) := Lib.hid ⟨fun _ => hq2, fun h => by omega⟩
      clear hq2
      go_wp2
      go_roundw
      case rel => exact ⟨1, by omega, by go_num, HK, hE3⟩
      case measure => simp [intOf]
    · have x0 := hE.cell c1
      have y0 := hE.cell d1
      go_upto_region 4 with fail
      go_cut [16] (fun z wx => z = .bool (a2 != b2) ∧ Ext wr wx)
      case first =>
        go_quiet (fail)
        go_wp2
        go_meet
        exact ⟨rfl, below_drewN (Ext.refl _) _⟩
      case rest =>
      obtain ⟨rfl, E3⟩ := hcut
      have hE3 := Ext.trans hE E3
      cases hq : (a2 != b2)
      case true =>
        have HF : Hid (res = false) := Lib.hid (by rw [← HR.out]; refine decide_eq_false fun h => ?_; injection h with h1 h2; rw [h2] at hq; simp at hq)
        go_wp2
        go_ret
        exact ⟨ret_bool HF.out.symm, Ext.trans E2 hE3⟩
      have hq2 : a2 = b2 := by simpa using hq
      have HK : Hid ((0 < 2 → a1 = b1) ∧ (1 < 2 → a2 = b2)) := Lib.hid ⟨fun _ => HE.out.1 (by omega), fun _ => hq2⟩
      clear hq2
      go_wp2
      go_roundw
      case rel => exact ⟨2, by omega, by go_num, HK, hE3⟩
      case measure => simp [intOf]
    · have HF : Hid (res = true) := Lib.hid (by rw [← HR.out]; exact decide_eq_true (by rw [HE.out.1 (by omega), HE.out.2 (by omega)]))
      go_wp2
      go_ret
      exact ⟨ret_bool HF.out.symm, Ext.trans E2 hE⟩
set_option maxHeartbeats 400000 in
theorem eqIntA2S_ok (la lb : List Evt) (va vb : Value) (w : World) (ha : Reads w 2 va la.length (la.flatMap Evt.enc)) (hb : Reads w 2 vb lb.length (lb.flatMap Evt.enc)) (hm : la.length ≤ 1048576) :
    Calls Try.prog 23 #[va, vb] w fun e w' => e = .returned (.bool (decide (la = lb))) ∧ Ext w w' := by
  have mixed : Try.prog.follows .mixedOrders = true := by kernel_rfl
  obtain ⟨a, cap, rfl⟩ := ha.shape
  obtain ⟨b, cap', rfl⟩ := hb.shape
  by_cases hl : la.length = lb.length
  case neg =>
    have hne : ((la.length : Int) != (lb.length : Int)) = true := by rw [bne_iff_ne]; omega
    have HL : Hid (la ≠ lb) := (fun h => hl (by rw [h]) : la ≠ lb)
    clear hl ha hb hm
    go_enter Try.func23, Try.ntmps23
    go_wp2
    go_ret
    exact ⟨ret_bool (decide_eq_false HL.out).symm, Ext.refl _⟩
  obtain ⟨n, hn⟩ : ∃ n, n = la.length := ⟨_, rfl⟩
  rw [← hn] at ha hm hl
  rw [← hl] at hb
  rw [← hn, ← hl]
  have hne : ((n : Int) != (n : Int)) = false := by simp
  have HA := Lib.hid hn
  have HB := Lib.hid hl
  clear hn hl
  go_enter Try.func23, Try.ntmps23
  go_wp2
  go_loopw [5] (fun i wr => ∃ k : Nat, k ≤ n ∧ i = .int .i64 k ∧ (∀ j, j < k → la[j]? = lb[j]?) ∧ Ext w wr) (fun i _ => n - (intOf i).toNat)
  case atStart => exact ⟨0, Nat.zero_le _, rfl, fun j h => by omega, Ext.refl _⟩
  case round =>
    obtain ⟨k, hk, rfl, hall, hE⟩ := hrel
    have HALL := Lib.hid hall
    clear hall
    by_cases hlt : k < n
    · have hka : k < la.length := by have := HA.out; omega
      have hkb : k < lb.length := by have := HB.out; omega
      have ha1 := ha.mono hE
      have hb1 := hb.mono hE
      rw [HA.out] at ha1
      rw [HB.out] at hb1
      obtain ⟨ba, oa, rfl, hca⟩ := Reads.elem Evt.enc_len ha1 hka
      obtain ⟨bb, ob, rfl, hcb⟩ := Reads.elem Evt.enc_len hb1 hkb
      clear ha1 hb1
      rcases hxa : la[k] with ⟨p1, p2⟩
      rcases hxb : lb[k] with ⟨q1, q2⟩
      rw [hxa] at hca
      rw [hxb] at hcb
      have x0 := cell_in_class (hca 0 _ rfl)
      have y0 := cell_in_class (hcb 0 _ rfl)
      have x1 := cell_in_class (hca 1 _ rfl)
      have y1 := cell_in_class (hcb 1 _ rfl)
      simp only [Nat.add_zero] at x0 y0
      clear hca hcb
      have HXA := Lib.hid hxa
      have HXB := Lib.hid hxb
      clear hxa hxb
      obtain ⟨res, hres⟩ : ∃ r, r = decide ((⟨p1, p2⟩ : Evt) = (⟨q1, q2⟩ : Evt)) := ⟨_, rfl⟩
      have cE := Calls.in_class (w := wr) (fun w' _ => eqIntA2_ok p1 p2 q1 q2 w')
      rw [← hres] at cE
      have HRES := Lib.hid hres
      clear hres
      go_wp2
      refine wp_region_quiet_below mixed (by kernel_rfl) ?_
      repeat (quiet_step (first | exact cE _ _))
      refine wpQuiet_nil ?_
      intro _ hw'
      obtain ⟨⟨dq, osq⟩, hw''⟩ := hw'
      subst hw''
      clear cE x0 y0 x1 y1
      have hq := hE.regrown dq osq
      cases res with
      | true =>
        go_wp2
        go_roundw
        case rel =>
          refine ⟨k + 1, by omega, by go_num, fun j hj => ?_, hq⟩
          by_cases hjk : j < k
          · exact HALL.out j hjk
          · have : j = k := by omega
            subst this
            have := of_decide_eq_true HRES.out.symm
            rw [List.getElem?_eq_getElem hka, List.getElem?_eq_getElem hkb, HXA.out, HXB.out, this]
        case measure => simp [intOf]; omega
      | false =>
        go_wp2
        go_ret
        refine ⟨ret_bool ?_, hq⟩
        have h3 := of_decide_eq_false HRES.out.symm
        refine (decide_eq_false ?_).symm
        rintro rfl
        exact h3 (HXA.out.symm.trans HXB.out)
    · go_wp2
      go_ret
      refine ⟨ret_bool (decide_eq_true ?_).symm, hE⟩
      apply List.ext_getElem?
      intro j
      by_cases hj : j < k
      · exact HALL.out j hj
      · have := HA.out
        have := HB.out
        rw [List.getElem?_eq_none (by omega), List.getElem?_eq_none (by omega)]

set_option maxHeartbeats 1000000 in
theorem markIntA2S_ok (base hi n : Nat) (v : Value) (cs : List Value) (k0 : Int) (w : World) (hv : w.ownsRow base 84 2 v n cs) (hhi : ∀ j, v.ownBlock = some j → j < hi) (hn : n ≤ 1048576) (hk0 : 0 ≤ k0) (hk1 : k0 ≤ 1048576 * 1048576) :
    Calls Try.prog 24 #[v, .int .i64 k0] w (RetMarked w base hi 84 2 v n k0) := by
  rcases owns_cases hv with ⟨rfl, rfl⟩ | ⟨g, cap, rfl, hg, hgs, hnc, hcm, hfil⟩
  · skip
    go_enter Try.func24, Try.ntmps24
    go_wp2
    go_loopw [1, 5, 6] (fun kk i _ wr => kk = .int .i64 k0 ∧ i = .int .i64 0 ∧ wr = w) (fun _ _ _ _ => 0)
    case atStart => exact ⟨rfl, rfl, rfl⟩
    case round =>
      obtain ⟨rfl, rfl, rfl⟩ := hrel
      go_wp2
      go_ret
      exact ⟨by simp, nil_owns _ _ _ _ _, Turned.refl _ _ _⟩
  have HCM := Lib.hid hcm
  have hgh : g < hi := hhi g rfl
  clear hcm hv hhi
  go_enter Try.func24, Try.ntmps24
  go_wp2
  go_loopw [1, 5, 6] (fun kk i _ wr => ∃ k : Nat, k ≤ n ∧ i = .int .i64 k ∧ kk = .int .i64 (k0 + (k : Int) * 2) ∧ Filled wr g 84 (cap * 2) (numCells k0 (k * 2)) ∧ Turned base hi w wr) (fun _ i _ _ => n - (intOf i).toNat)
  case atStart => exact ⟨0, Nat.zero_le _, rfl, by simp, hfil, Turned.refl _ _ _⟩
  case round =>
    obtain ⟨k, hk, rfl, rfl, hfl, hT⟩ := hrel
    by_cases hlt : k < n
    · have hcap : k * 2 + 2 ≤ cap * 2 := by omega
      go_wp2
      go_loopw [1, 6] (fun kk j wr => ∃ q : Nat, q ≤ 2 ∧ j = .int .i64 q ∧ kk = .int .i64 (k0 + (k : Int) * 2 + q) ∧ Filled wr g 84 (cap * 2) (numCells k0 (k * 2 + q)) ∧ Turned base hi w wr) (fun _ j _ => 2 - (intOf j).toNat)
      case atStart => exact ⟨0, by omega, rfl, by simp, hfl, hT⟩
      case round =>
        obtain ⟨q, hq, rfl, rfl, hfl, hT⟩ := hrel
        by_cases hlt2 : q < 2
        · obtain ⟨z0, hz0⟩ := hfl.cell (i := k * 2 + q) (by omega)
          have f0 := hfl.frozen (k * 2 + q)
          go_wp2
          go_roundw
          case rel =>
            refine ⟨q + 1, by omega, by go_num, congrArg (Value.int IntKind.i64) (by omega), ?_, hT.setCell hg hgh _⟩
            have e3 : (numCells k0 (k * 2 + q)).length = k * 2 + q := numCells_length _ _
            have p0 := hfl.put' e3 (by omega) (.int .i64 (k0 + (k : Int) * 2 + q))
            rw [show k * 2 + (q + 1) = (k * 2 + q) + 1 by omega, numCells_succ, show k0 + ((k * 2 + q : Nat) : Int) = k0 + (k : Int) * 2 + q by omega]
            exact p0
          case measure => simp [intOf]; omega
        · obtain rfl : q = 2 := by omega
          go_wp2
          go_roundw
          case rel => exact ⟨k + 1, by omega, by go_num, congrArg (Value.int IntKind.i64) (by omega), by rw [show (k + 1) * 2 = k * 2 + 2 by omega]; exact hfl, hT⟩
          case measure => simp [intOf]; omega
    · go_wp2
      go_ret
      have hkn : k = n := by omega
      subst hkn
      exact ⟨ret_int (by omega), hfl.owns_cap (numCells_length _ _) hg hnc HCM.out, hT⟩
set_option maxHeartbeats 1000000 in
theorem heldIntA2S_ok (n : Nat) (v : Value) (k0 : Int) (w : World) (hv : Reads w 2 v n (numCells k0 (n * 2))) (hn : n ≤ 1048576) (hk0 : 0 ≤ k0) (hk1 : k0 ≤ 1048576 * 1048576) :
    Calls Try.prog 25 #[v, .int .i64 k0] w fun e w' => e = .returned (.int .i64 (k0 + (n * 2 : Nat))) ∧ w = w' := by
  obtain ⟨a, cap, rfl⟩ := hv.shape
  go_enter Try.func25, Try.ntmps25
  go_wp2
  go_loop [1, 5, 6] (fun kk i _ => ∃ k : Nat, k ≤ n ∧ i = .int .i64 k ∧ kk = .int .i64 (k0 + (k : Int) * 2)) (fun _ i _ => n - (intOf i).toNat)
  case atStart => exact ⟨0, Nat.zero_le _, rfl, by simp⟩
  case round =>
    obtain ⟨k, hk, rfl, rfl⟩ := hrel
    by_cases hlt : k < n
    · obtain ⟨_, b, off, rfl, hc⟩ := hv.at (by omega)
      have HC := Lib.hid hc
      clear hc hv
      go_wp2
      go_loop [1, 6] (fun kk j => ∃ q : Nat, q ≤ 2 ∧ j = .int .i64 q ∧ kk = .int .i64 (k0 + (k : Int) * 2 + q)) (fun _ j => 2 - (intOf j).toNat)
      case atStart => exact ⟨0, by omega, rfl, by simp⟩
      case round =>
        obtain ⟨q, hq, rfl, rfl⟩ := hrel
        by_cases hlt2 : q < 2
        · have c0 := num_at HC.out (i := k * 2 + q) (by omega)
          rw [show k0 + ((k * 2 + q : Nat) : Int) = k0 + (k : Int) * 2 + q by omega, ← Nat.add_assoc] at c0
          have q0 : (k0 + (k : Int) * 2 + (q : Int) != k0 + (k : Int) * 2 + (q : Int)) = false := by simp
          go_wp2
          go_round
          case rel => exact ⟨q + 1, by omega, by go_num, congrArg (Value.int IntKind.i64) (by omega)⟩
          case measure => simp [intOf]; omega
        · obtain rfl : q = 2 := by omega
          go_wp2
          go_round
          case rel => exact ⟨k + 1, by omega, by go_num, congrArg (Value.int IntKind.i64) (by omega)⟩
          case measure => simp [intOf]; omega
    · go_wp2
      go_ret
      have hkn : k = n := by omega
      subst hkn
      exact ⟨ret_int (by omega), rfl⟩
end Go.Proofs.Ytpmjjkhikciokaa
