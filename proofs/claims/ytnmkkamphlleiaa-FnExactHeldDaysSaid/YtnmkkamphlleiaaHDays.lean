/- What HeldDays computes; no condition beyond the lengths that are named. -/
import Derived.Test.YtnmkkamphlleiaaFree
import Derived.Test.YtnmkkamphlleiaaHDaysData
namespace Go.Proofs.Ytnmkkamphlleiaa
open Go.RowKit Go.Sort Go.Rd
set_option maxHeartbeats 400000 in
theorem l1Least_ok (a b : Int) (w : World) : Calls Try.prog 73 #[.int .i64 a, .int .i64 b] w fun e w' => e = .returned (.int .i64 (least a b)) ∧ w = w' := by
  cases h : decide (a < b)
  all_goals
    have HL : Hid (least a b = _) := Lib.hid (by unfold least; first | exact if_pos (of_decide_eq_true h) | exact if_neg (of_decide_eq_false h))
    rw [HL.out]
    go_enter Try.func73, Try.ntmps73
    go_wp2
    go_ret
    exact ⟨rfl, rfl⟩
set_option maxHeartbeats 4000000 in
theorem specHeldDays_ok (l : List Hld) (r : Rec) (v sv : Value) (w : World) (hv : Hld.Rd w v l) (hr : Rec.At w (r, sv)) (hl : l.length ≤ 1048576) (hll : ∀ h ∈ l, h.ss.length ≤ 1048576) (hrl : r.evs.length ≤ 1048576) :
    Calls Try.prog 29 #[v, .agg #[.int .i64 r.id, .int .i64 r.se, .int .i64 r.ma, sv]] w fun e w' => e = .returned (.tuple #[.int .i64 (hdaysO l r), .bool (askedH l r 0)]) ∧ Ext w w' := by
  have mixed : Try.prog.follows .mixedOrders = true := by kernel_rfl
  obtain ⟨a2, cap2, hs⟩ := Reads.shape hr
  simp only at hs
  subst hs
  obtain ⟨w2, hw2⟩ : ∃ w2, w2 = w.alloc (.cells #[.int .i64 r.id, .int .i64 r.se, .int .i64 r.ma, .slice a2 r.evs.length cap2] 41) := ⟨_, rfl⟩
  have E2 : Ext w w2 := by rw [hw2]; exact (Ext.refl w).alloc _
  have k0 : w2.cell? ⟨w.heap.size, 0, none⟩ = some (.int .i64 r.id) := by rw [hw2]; simp
  have k1 : w2.cell? ⟨w.heap.size, 1, none⟩ = some (.int .i64 r.se) := by rw [hw2]; simp
  have k2 : w2.cell? ⟨w.heap.size, 2, none⟩ = some (.int .i64 r.ma) := by rw [hw2]; simp
  have k3 : w2.cell? ⟨w.heap.size, 3, none⟩ = some (.slice a2 r.evs.length cap2) := by rw [hw2]; simp
  have HL := Lib.hid hll
  have HC := l9Asked_ok l r 0 v _ w2 (hv.mono E2) (Reads.mono E2 hr) hl hll hrl
  obtain ⟨a, cap, rfl⟩ := hv.shape
  obtain ⟨N, hN⟩ : ∃ z, hdaysO l r = z := ⟨_, rfl⟩
  have HY := Lib.hid (fun h => hN.symm.trans (hdaysO_yes (l := l) (r := r) h))
  have HNO := Lib.hid (fun h => hN.symm.trans (hdaysO_no (l := l) (r := r) h))
  rw [hN]
  obtain ⟨ok, hok⟩ : ∃ b, askedH l r 0 = b := ⟨_, rfl⟩
  rw [hok] at HC HY HNO ⊢
  have HOK := Lib.hid hok
  clear hll hN hok
  go_enter Try.func29, Try.ntmps29
  go_wp2_with fail
  rw [← hw2]
  clear hw2
  refine HC.mono ?_
  rintro e w3 ⟨rfl, E3⟩
  have E3' := Ext.trans E2 E3
  have k0 := E3.cell k0
  have k1 := E3.cell k1
  have k2 := E3.cell k2
  have k3 := E3.cell k3
  cases ok
  case false =>
    obtain rfl := HNO.out rfl
    go_wp2
    go_ret2
    exact ⟨rfl, E3'⟩
  obtain ⟨hg, hrok, hd0, hd1⟩ := asked_parts HOK.out
  have hallok := fun h (hm : h ∈ l) => goodHs_mem hg hm
  have HAL := Lib.hid hallok
  have HR := Lib.hid (HY.out rfl)
  have hlen := goodHs_len hg
  clear HY HNO HC hd0 hd1 hallok
  go_wp2
  go_loopw [6, 7, 8, 9, 10] (fun nv dv _ _ _ wr => ∃ (n d : Int), 0 ≤ d ∧ d ≤ 20001 ∧ nv = .int .i64 n ∧ dv = .int .i64 d ∧ Hid (cntD l r d = n) ∧ Ext w3 wr) (fun _ dv _ _ _ _ => (20001 - intOf dv).toNat)
  case atStart => exact ⟨0, 0, Int.le_refl _, by omega, rfl, rfl, Lib.hid rfl, Ext.refl _⟩
  case round =>
    obtain ⟨n, d, hd0, hd1, rfl, rfl, HN, hE⟩ := hrel
    by_cases hlt : d ≤ 20000
    · have hE' := Ext.trans E3' hE
      have HE := Lib.hid (congrArg (fun o => Option.getD o (20001 : Int)) (fpasses_eq HAL.out (r := r) hlt))
      have HFR := Lib.hid (freeE_spec (l := l) (r := r) hlt)
      have HNX := Lib.hid (cntD_next HAL.out (r := r) hd0 hlt)
      have HNB := Lib.hid (cntD_bound l r hd0)
      obtain ⟨c, hc⟩ : ∃ c, freeE l r d = c := ⟨_, rfl⟩
      have HCE : Hid ((fpasses l r (l.length + 1) (some d)).getD 20001 = c) := Lib.hid (HE.out.trans hc)
      rw [hc] at HFR HNX
      rw [HN.out] at HNX HNB
      obtain ⟨hc0, hc1, _, _⟩ := HFR.out
      obtain ⟨hn0, hn1⟩ := HNB.out
      have j0 := hE.cell k0
      have j1 := hE.cell k1
      have j2 := hE.cell k2
      have j3 := hE.cell k3
      clear hc HE HFR HNB
      go_wp2_with fail
      refine (l9Free_ok l r d _ _ _ (hv.mono hE') (Reads.mono hE' hr) hl HL.out).mono ?_
      rintro e w4 ⟨rfl, E4⟩
      rw [HCE.out]
      have hE4 := Ext.trans hE E4
      have n1 : IntKind.i64.wrap (n + c) = n + c := IntWalk.i64_in _ (by omega)
      have n2 : IntKind.i64.wrap (n + c - d) = n + c - d := IntWalk.i64_in _ (by omega)
      clear j0 j1 j2 j3
      go_wp2
      go_loopw [9, 10] (fun xv iv wr => ∃ (k : Nat) (x : Int), k ≤ l.length ∧ iv = .int .i64 k ∧ xv = .int .i64 x ∧ Hid (nxtF l r c k = x) ∧ Ext w3 wr) (fun _ iv _ => l.length - (intOf iv).toNat)
      case atStart => exact ⟨0, 20001, Nat.zero_le _, rfl, rfl, Lib.hid rfl, hE4⟩
      case round =>
        obtain ⟨k, x, hk, rfl, rfl, HX, hE⟩ := hrel
        by_cases hlt2 : k < l.length
        · have hE' := Ext.trans E3' hE
          obtain ⟨h, hx⟩ := get_of_lt hlt2
          obtain ⟨b, off, rfl⟩ := Hld.Rd.addr (hv.mono hE') (by omega)
          obtain ⟨ca, cc, d0, d1, d2, d3, d4, d5, hat⟩ := Hld.Rd.cells (hv.mono hE') hx
          have hhl := HL.out h (List.mem_of_getElem? hx)
          have HSTEP := Lib.hid ((nxtF_step (r := r) (c := c) hx).trans (congrArg (fun s => nxstep r c s h) HX.out))
          have x0 := cell_in_class d0
          have x1 := cell_in_class d1
          have x2 := cell_in_class d2
          have x3 := cell_in_class d3
          have x4 := cell_in_class d4
          have x5 := cell_in_class d5
          have y0 := cell_in_class (hE.cell k0)
          have y1 := cell_in_class (hE.cell k1)
          have y2 := cell_in_class (hE.cell k2)
          have y3 := cell_in_class (hE.cell k3)
          have cO := Calls.in_class (w := wr) (fun w' hw' => l9Covers_ok h r h.fr _ _ w' (hat.mono hw') (Reads.mono (Ext.trans hE' hw') hr) hhl)
          clear hx
          obtain ⟨q, hq⟩ : ∃ q, (decide (c < h.fr) && cov h r h.fr) = q := ⟨_, rfl⟩
          have HQ := Lib.hid hq
          clear hq
          go_upto_region 11 with fail
          go_cut [51] (fun z wx => z = .bool q ∧ Ext wr wx)
          case first =>
            cases t1 : decide (c < h.fr)
            case false =>
              have HQ2 : Hid (q = false) := Lib.hid (by rw [← HQ.out, t1]; rfl)
              refine wp_region_quiet_below mixed (by kernel_rfl) ?_
              repeat (first | go_big_quiet_step (fail) | quiet_step (fail))
              refine wpQuiet_nil ?_
              intro _ hw'
              obtain ⟨⟨dq, osq⟩, hw''⟩ := hw'
              subst hw''
              clear cO x0 x1 x2 x3 x4 x5 y0 y1 y2 y3
              go_wp2
              go_meet
              exact ⟨congrArg Value.bool HQ2.out.symm, (Ext.refl wr).regrown dq osq⟩
            have HQ2 : Hid (q = cov h r h.fr) := Lib.hid (by rw [← HQ.out, t1, Bool.true_and])
            refine wp_region_quiet_below mixed (by kernel_rfl) ?_
            repeat (first | go_big_quiet_step (exact cO _ _) | quiet_step (exact cO _ _))
            refine wpQuiet_nil ?_
            intro _ hw'
            obtain ⟨⟨dq, osq⟩, hw''⟩ := hw'
            subst hw''
            clear cO x0 x1 x2 x3 x4 x5 y0 y1 y2 y3
            go_wp2
            go_meet
            exact ⟨congrArg Value.bool HQ2.out.symm, (Ext.refl wr).regrown dq osq⟩
          case rest =>
          obtain ⟨rfl, hE2⟩ := hcut
          clear x0 x1 x2 x3 x4 x5 y0 y1 y2 y3 cO d0 d2 d3 d4 d5
          have d1 := hE2.cell d1
          have hE3 := Ext.trans hE hE2
          cases q
          case false =>
            have HK := Lib.hid (HSTEP.out.trans (nx_no HQ.out))
            go_wp2
            go_roundw
            case rel => exact ⟨k + 1, x, by omega, by go_num, rfl, HK, hE3⟩
            case measure => simp [intOf]; omega
          have HK := Lib.hid (HSTEP.out.trans (nx_yes HQ.out))
          go_wp2_with fail
          refine (l1Least_ok x h.fr _).mono ?_
          rintro e w' ⟨rfl, rfl⟩
          go_wp2
          go_roundw
          case rel => exact ⟨k + 1, least x h.fr, by omega, by go_num, rfl, HK, hE3⟩
          case measure => simp [intOf]; omega
        · have HXX : Hid (nxtF l r c l.length = x) := Lib.hid (by rw [← show k = l.length by omega]; exact HX.out)
          rw [HXX.out] at HNX
          obtain ⟨g1, g2, g3⟩ := HNX.out
          have HG := Lib.hid (g1.trans (show n + (c - d) = n + c - d by omega))
          clear g1
          go_wp2
          go_roundw
          case rel => exact ⟨n + c - d, x, by omega, by omega, rfl, rfl, HG, hE⟩
          case measure => simp [intOf]; omega
    · have HF : Hid (N = n) := Lib.hid (HR.out.trans (by have := HN.out; rwa [show d = 20001 by omega] at this))
      obtain rfl := HF.out
      go_wp2
      go_ret2
      exact ⟨rfl, Ext.trans E3' hE⟩
set_option maxHeartbeats 4000000 in
theorem heldDays_ok (l : List Hld) (r : Rec) (v sv : Value) (w : World) (hv : Hld.Rd w v l) (hr : Rec.At w (r, sv)) (hl : l.length ≤ 1048576) (hll : ∀ h ∈ l, h.ss.length ≤ 1048576) (hrl : r.evs.length ≤ 1048576) :
    Calls Try.prog 30 #[v, .agg #[.int .i64 r.id, .int .i64 r.se, .int .i64 r.ma, sv]] w fun e w' => e = .returned (.tuple #[.int .i64 (hdaysO l r), .bool (askedH l r 0)]) ∧ Ext w w' := by
  obtain ⟨a2, cap2, hs⟩ := Reads.shape hr
  simp only at hs
  subst hs
  obtain ⟨w2, hw2⟩ : ∃ w2, w2 = w.alloc (.cells #[.int .i64 r.id, .int .i64 r.se, .int .i64 r.ma, .slice a2 r.evs.length cap2] 41) := ⟨_, rfl⟩
  have E2 : Ext w w2 := by rw [hw2]; exact (Ext.refl w).alloc _
  have k0 : w2.cell? ⟨w.heap.size, 0, none⟩ = some (.int .i64 r.id) := by rw [hw2]; simp
  have k1 : w2.cell? ⟨w.heap.size, 1, none⟩ = some (.int .i64 r.se) := by rw [hw2]; simp
  have k2 : w2.cell? ⟨w.heap.size, 2, none⟩ = some (.int .i64 r.ma) := by rw [hw2]; simp
  have k3 : w2.cell? ⟨w.heap.size, 3, none⟩ = some (.slice a2 r.evs.length cap2) := by rw [hw2]; simp
  have HL := Lib.hid hll
  have HC := areHeld_ok l r 0 v _ w2 (hv.mono E2) (Reads.mono E2 hr) hl hll hrl
  obtain ⟨a, cap, rfl⟩ := hv.shape
  obtain ⟨N, hN⟩ : ∃ z, hdaysO l r = z := ⟨_, rfl⟩
  have HY := Lib.hid (fun h => hN.symm.trans (hdaysO_yes (l := l) (r := r) h))
  have HNO := Lib.hid (fun h => hN.symm.trans (hdaysO_no (l := l) (r := r) h))
  rw [hN]
  obtain ⟨ok, hok⟩ : ∃ b, askedH l r 0 = b := ⟨_, rfl⟩
  rw [hok] at HC HY HNO ⊢
  have HOK := Lib.hid hok
  clear hll hN hok
  go_enter Try.func30, Try.ntmps30
  go_wp2_with fail
  rw [← hw2]
  clear hw2
  refine HC.mono ?_
  rintro e w3 ⟨rfl, E3⟩
  have E3' := Ext.trans E2 E3
  have k0 := E3.cell k0
  have k1 := E3.cell k1
  have k2 := E3.cell k2
  have k3 := E3.cell k3
  cases ok
  case false =>
    obtain rfl := HNO.out rfl
    go_wp2
    go_ret2
    exact ⟨rfl, E3'⟩
  obtain ⟨hg, hrok, hd0, hd1⟩ := asked_parts HOK.out
  have HR := Lib.hid (HY.out rfl)
  have hlen := goodHs_len hg
  clear HY HNO HC hd0 hd1
  go_wp2
  go_loopw [6, 7, 12] (fun nv _ dv wr => ∃ (n d : Int), 0 ≤ d ∧ d ≤ 20001 ∧ nv = .int .i64 n ∧ dv = .int .i64 d ∧ Hid (cntD l r d = n) ∧ Ext w3 wr) (fun _ _ dv _ => (20001 - intOf dv).toNat)
  case atStart => exact ⟨0, 0, Int.le_refl _, by omega, rfl, rfl, Lib.hid rfl, Ext.refl _⟩
  case round =>
    obtain ⟨n, d, hd0, hd1, rfl, rfl, HN, hE⟩ := hrel
    by_cases hlt : d < 20001
    · have hE' := Ext.trans E3' hE
      have HNB := Lib.hid (cntD_bound l r hd0)
      rw [HN.out] at HNB
      obtain ⟨hn0, hn1⟩ := HNB.out
      have n4 : IntKind.i64.wrap (d + 1) = d + 1 := IntWalk.i64_in _ (by omega)
      have n5 : IntKind.i64.wrap (n + 1) = n + 1 := IntWalk.i64_in _ (by omega)
      have j0 := hE.cell k0
      have j1 := hE.cell k1
      have j2 := hE.cell k2
      have j3 := hE.cell k3
      go_wp2_with fail
      refine (holdsOn_ok l r d _ _ _ hg (hv.mono hE') (Reads.mono hE' hr) hl HL.out).mono ?_
      rintro e w4 ⟨v4, rfl, o4, E4⟩
      obtain ⟨a4, cap4, rfl⟩ := (Reads.of_owns o4).shape
      have hE4 := Ext.trans hE E4
      have HB := Lib.hid (heldB_on l r d)
      obtain ⟨m, hm⟩ : ∃ m, (onL l r d).length = m := ⟨_, rfl⟩
      rw [hm] at HB ⊢
      clear hm o4 j0 j1 j2 j3
      cases hp : heldB l r d
      case false =>
        have HK := Lib.hid ((cntD_free hd0 hp).trans HN.out)
        have hz : ¬ (0 : Int) < (m : Int) := (by have := HB.out; rw [hp] at this; have := of_decide_eq_true this; omega)
        go_wp2
        go_roundw
        case rel => exact ⟨n, d + 1, by omega, by omega, rfl, rfl, HK, hE4⟩
        case measure => simp [intOf]; omega
      have HK := Lib.hid ((cntD_held hd0 hp).trans (congrArg (· + 1) HN.out))
      have hz : (0 : Int) < (m : Int) := (by have := HB.out; rw [hp] at this; have := of_decide_eq_false this; omega)
      go_wp2
      go_roundw
      case rel => exact ⟨n + 1, d + 1, by omega, by omega, rfl, rfl, HK, hE4⟩
      case measure => simp [intOf]; omega
    · have HF : Hid (N = n) := Lib.hid (HR.out.trans (by have := HN.out; rwa [show d = 20001 by omega] at this))
      obtain rfl := HF.out
      go_wp2
      go_ret2
      exact ⟨rfl, Ext.trans E3' hE⟩
end Go.Proofs.Ytnmkkamphlleiaa
