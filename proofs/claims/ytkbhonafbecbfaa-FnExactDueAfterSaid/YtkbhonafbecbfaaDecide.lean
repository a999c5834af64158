/- What the deciding rule of a record computes, the program's and the reference's; no condition beyond the lengths and lists that are named. -/
import Derived.Test.YtkbhonafbecbfaaPeriods2
import Derived.Test.YtkbhonafbecbfaaDecData
import Derived.Test.YtkbhonafbecbfaaBoxL
namespace Go.Proofs.Ytkbhonafbecbfaa
open Go.RowKit Go.Sort Go.Rd
set_option maxHeartbeats 4000000 in
theorem l6Deciding_ok (r : Rec) (sch : List Rul) (sv vs : Value) (w : World) (hr : okRec r = true) (hg : goodR sch = true) (hv : Rec.At w (r, sv)) (hvs : Reads w 4 vs sch.length (sch.flatMap Rul.enc)) (hl : r.evs.length ≤ 1048576) (hls : sch.length ≤ 1048576) :
    Calls Try.prog 64 #[.agg #[.int .i64 r.id, .int .i64 r.se, .int .i64 r.ma, sv], vs] w fun e w' => e = .returned (.tuple #[.agg #[.int .i64 (decD r sch).1.se, .int .i64 (decD r sch).1.ev, .int .i64 (decD r sch).1.dy, .int .i64 (decD r sch).1.ac], .int .i64 (decD r sch).2]) ∧ Ext w w' := by
  have mixed : Try.prog.follows .mixedOrders = true := by kernel_rfl
  obtain ⟨a, cap, hs⟩ := Reads.shape hv
  simp only at hs
  subst hs
  obtain ⟨w2, hw2⟩ : ∃ w2, w2 = (w.alloc (.cells #[.int .i64 r.id, .int .i64 r.se, .int .i64 r.ma, .slice a r.evs.length cap] 45)).alloc (.cells #[.int .i64 0, .int .i64 0, .int .i64 0, .int .i64 0] 38) := ⟨_, rfl⟩
  have E2 : Ext w w2 := by rw [hw2]; exact ((Ext.refl w).alloc _).alloc _
  have b0 : w2.cell? ⟨w.heap.size, 0, none⟩ = some (.int .i64 r.id) := by rw [hw2]; simp
  have b1 : w2.cell? ⟨w.heap.size, 1, none⟩ = some (.int .i64 r.se) := by rw [hw2]; simp
  have b2 : w2.cell? ⟨w.heap.size, 2, none⟩ = some (.int .i64 r.ma) := by rw [hw2]; simp
  have b3 : w2.cell? ⟨w.heap.size, 3, none⟩ = some (.slice a r.evs.length cap) := by rw [hw2]; simp
  have bx : Box w2 (w.heap.size + 1) 38 [.int .i64 0, .int .i64 0, .int .i64 0, .int .i64 0] := by rw [hw2]; simpa using Box.new (w.alloc (.cells #[.int .i64 r.id, .int .i64 r.se, .int .i64 r.ma, .slice a r.evs.length cap] 45)) 38 [.int .i64 0, .int .i64 0, .int .i64 0, .int .i64 0]
  have HC := l4For_ok sch r.se vs w2 (hvs.mono E2) hls
  have HS := Lib.hid (fun t => @decD_some r sch t)
  have HO := Lib.hid (@decD_none r sch)
  obtain ⟨⟨⟨D1, D2, D3, D4⟩, D5⟩, hD⟩ : ∃ D, decD r sch = D := ⟨_, rfl⟩
  rw [hD] at HS HO ⊢
  go_enter Try.func64, Try.ntmps64
  go_wp2_with fail
  rw [← hw2]
  refine HC.mono ?_
  rintro e w3 ⟨v3, rfl, o3, E3⟩
  have hq := Reads.of_owns o3
  have hql : (forR sch r.se).length ≤ 1048576 := Nat.le_trans (forR_length sch r.se) hls
  obtain ⟨a3, cap3, rfl⟩ := hq.shape
  have HB := Lib.hid (fun (k : Nat) (x : Rul) (hx : (forR sch r.se)[k]? = some x) => forR_dy hg hx)
  obtain ⟨q, hqq⟩ : ∃ q, forR sch r.se = q := ⟨_, rfl⟩
  rw [hqq] at hq hql HB HS HO
  have E3' := Ext.trans E2 E3
  have k0 := E3.cell b0
  have k1 := E3.cell b1
  have k2 := E3.cell b2
  have k3 := E3.cell b3
  have kx := Box.ext E3 bx
  rw [hqq]
  clear hqq hg HC hw2 b0 b1 b2 b3 bx hD o3 E2 E3
  go_wp2
  go_loopw [8, 9, 10] (fun dv iv _ wr => ∃ (k : Nat) (b : Rul) (d : Int), k ≤ q.length ∧ iv = .int .i64 k ∧ dv = .int .i64 d ∧ Hid (decF r (q.take k) = some (b, d)) ∧ Box wr w3.heap.size 38 (Rul.enc b) ∧ Ext w3 wr) (fun _ iv _ _ => q.length - (intOf iv).toNat)
  case atStart => exact ⟨0, ⟨0, 0, 0, 0⟩, -1, Nat.zero_le _, rfl, rfl, Lib.hid rfl, Box.new _ _ [.int .i64 0, .int .i64 0, .int .i64 0, .int .i64 0], (Ext.refl _).alloc _⟩
  case round =>
    obtain ⟨k, ⟨b1, b2, b3, b4⟩, d, hk, rfl, rfl, HD, hbox, hE⟩ := hrel
    by_cases hlt : k < q.length
    · have hq1 := hq.mono hE
      obtain ⟨b, off, rfl, hc⟩ := Reads.elems Rul.enc_len hq1 (by omega)
      obtain ⟨⟨p1, p2, p3, p4⟩, hx⟩ := get_of_lt hlt
      have c0 := hc k _ hx 0 _ rfl
      have c1 := hc k _ hx 1 _ rfl
      have c2 := hc k _ hx 2 _ rfl
      have c3 := hc k _ hx 3 _ rfl
      simp only [Nat.add_zero] at c0
      obtain ⟨d0, d1⟩ := HB.out k _ hx
      simp only at d0 d1
      have HP := Lib.hid (neg_waitP (r := r) (x := ⟨p1, p2, p3, p4⟩) hr d0)
      have HX := Lib.hid hx
      have hE0 := Ext.trans E3' hE
      have x0 := cell_in_class c0
      have x1 := cell_in_class c1
      have x2 := cell_in_class c2
      have x3 := cell_in_class c3
      have y0 := cell_in_class (hE.cell k0)
      have y1 := cell_in_class (hE.cell k1)
      have y2 := cell_in_class (hE.cell k2)
      have y3 := cell_in_class (hE.cell k3)
      have cO := Calls.in_class (w := wr) (fun w' hw' => l6End_ok r _ ⟨p1, p2, p3, p4⟩ w' hr d0 d1 (Reads.mono (Ext.trans hE0 hw') hv) hl)
      have HPUT := Lib.hid (@decF_put r q k ⟨p1, p2, p3, p4⟩ ⟨b1, b2, b3, b4⟩ d hx HD.out)
      have HLV := Lib.hid (@decF_leave r q k ⟨p1, p2, p3, p4⟩ ⟨b1, b2, b3, b4⟩ d hx HD.out)
      have HOP := Lib.hid (@decF_open r q k ⟨p1, p2, p3, p4⟩ _ hx HD.out)
      obtain ⟨z, hz⟩ : ∃ z, negO (endO r ⟨p1, p2, p3, p4⟩) = z := ⟨_, rfl⟩
      rw [hz] at cO HP HPUT HLV
      clear hc hx hq1 hz
      go_upto_region 6 with fail
      go_cut [10] (fun c wx => c = .int .i64 z ∧ Ext wr wx)
      case first =>
        refine wp_region_quiet_below mixed (by kernel_rfl) ?_
        repeat (first | go_big_quiet_step (exact cO _ _) | quiet_step (exact cO _ _))
        refine wpQuiet_nil ?_
        intro _ hw'
        obtain ⟨⟨dq, osq⟩, hw''⟩ := hw'
        subst hw''
        clear cO x0 x1 x2 x3 y0 y1 y2 y3
        go_wp2
        go_meet
        exact ⟨rfl, (Ext.refl wr).regrown dq osq⟩
      case rest =>
      obtain ⟨rfl, hE2⟩ := hcut
      clear x0 x1 x2 x3 y0 y1 y2 y3 cO
      have c0 := hE2.cell c0
      have c1 := hE2.cell c1
      have c2 := hE2.cell c2
      have c3 := hE2.cell c3
      have hbox2 := Box.ext hE2 hbox
      have hE3 := Ext.trans hE hE2
      have kx2 := Box.ext hE3 kx
      clear hbox
      have f0 := kx2.frozen 0
      have f1 := kx2.frozen 1
      have f2 := kx2.frozen 2
      have f3 := kx2.frozen 3
      have g0 := kx2.cell 0 rfl
      have g1 := kx2.cell 1 rfl
      have g2 := kx2.cell 2 rfl
      have g3 := kx2.cell 3 rfl
      cases hp : waitP r ⟨p1, p2, p3, p4⟩
      case true =>
        have hz := HP.out
        rw [hp] at hz
        have HF := Lib.hid (HO.out (HOP.out hp))
        have q1 : D1 = 0 ∧ D2 = 0 ∧ D3 = 0 ∧ D4 = 0 ∧ D5 = -1 := by have := HF.out; simp only [Prod.mk.injEq, Rul.mk.injEq] at this; omega
        obtain ⟨rfl, rfl, rfl, rfl, rfl⟩ := q1
        go_wp2
        (try simp only [Exit.inBlock, Exit.then])
        refine bodyPost_ret (v := .tuple #[.agg #[.int .i64 0, .int .i64 0, .int .i64 0, .int .i64 0], .int .i64 (-1)]) (by simp [results, Try.results64, go_sem, *]) rfl ⟨rfl, ?_⟩
        exact ((((Ext.trans E3' hE3).setCell (Nat.le_succ _) _).setCell (Nat.le_succ _) _).setCell (Nat.le_succ _) _).setCell (Nat.le_succ _) _
      have hz := HP.out
      rw [hp] at hz
      clear f0 f1 f2 f3 g0 g1 g2 g3
      have e3 := hbox2.cell 3 rfl
      go_upto_region 9 with fail
      go_cut [48] (fun c wx => c = .bool (dcond ⟨p1, p2, p3, p4⟩ ⟨b1, b2, b3, b4⟩ z d) ∧ Ext wc wx)
      case first =>
        cases t1 : decide (d < z)
        case true =>
          go_quiet (fail)
          go_wp2
          go_meet
          exact ⟨congrArg Value.bool (by simp [dcond, t1]), below_drewN (Ext.refl _) _⟩
        cases t2 : (z == d)
        case false =>
          go_quiet (fail)
          go_wp2
          go_meet
          exact ⟨congrArg Value.bool (by simp [dcond, t1, t2]), below_drewN (Ext.refl _) _⟩
        go_quiet (fail)
        go_wp2
        go_meet
        exact ⟨congrArg Value.bool (by simp [dcond, t1, t2]), below_drewN (Ext.refl _) _⟩
      case rest =>
      obtain ⟨rfl, hE5⟩ := hcut
      have c0 := hE5.cell c0
      have c1 := hE5.cell c1
      have c2 := hE5.cell c2
      have c3 := hE5.cell c3
      have hbox5 := Box.ext hE5 hbox2
      have hE6 := Ext.trans hE3 hE5
      have e0 := hbox5.cell 0 rfl
      have e1 := hbox5.cell 1 rfl
      have e2 := hbox5.cell 2 rfl
      have e3 := hbox5.cell 3 rfl
      have f0 := hbox5.frozen 0
      have f1 := hbox5.frozen 1
      have f2 := hbox5.frozen 2
      have f3 := hbox5.frozen 3
      have hs3 := hE6.size
      cases hdc : dcond ⟨p1, p2, p3, p4⟩ ⟨b1, b2, b3, b4⟩ z d
      case true =>
        have HK := Lib.hid (HPUT.out hp hdc)
        go_wp2
        go_roundw
        case rel => exact ⟨k + 1, ⟨p1, p2, p3, p4⟩, z, by omega, by go_num, rfl, HK, (((hbox5.set 0 _).set 1 _).set 2 _).set 3 _, (((hE6.setCell (Nat.le_refl _) _).setCell (Nat.le_refl _) _).setCell (Nat.le_refl _) _).setCell (Nat.le_refl _) _⟩
        case measure => simp [intOf]; omega
      have HK := Lib.hid (HLV.out hp hdc)
      go_wp2
      go_roundw
      case rel => exact ⟨k + 1, ⟨b1, b2, b3, b4⟩, d, by omega, by go_num, rfl, HK, hbox5, hE6⟩
      case measure => simp [intOf]; omega
    · have HF := Lib.hid (HS.out ⟨⟨b1, b2, b3, b4⟩, d⟩ (by have := HD.out; rwa [List.take_of_length_le (by omega)] at this))
      have q1 : D1 = b1 ∧ D2 = b2 ∧ D3 = b3 ∧ D4 = b4 ∧ D5 = d := by have := HF.out; simp only [Prod.mk.injEq, Rul.mk.injEq] at this; omega
      obtain ⟨rfl, rfl, rfl, rfl, rfl⟩ := q1
      have kx2 := Box.ext hE kx
      have f0 := kx2.frozen 0
      have f1 := kx2.frozen 1
      have f2 := kx2.frozen 2
      have f3 := kx2.frozen 3
      have g0 := kx2.cell 0 rfl
      have g1 := kx2.cell 1 rfl
      have g2 := kx2.cell 2 rfl
      have g3 := kx2.cell 3 rfl
      have e0 := hbox.cell 0 rfl
      have e1 := hbox.cell 1 rfl
      have e2 := hbox.cell 2 rfl
      have e3 := hbox.cell 3 rfl
      go_wp2
      (try simp only [Exit.inBlock, Exit.then])
      refine bodyPost_ret (v := .tuple #[.agg #[.int .i64 D1, .int .i64 D2, .int .i64 D3, .int .i64 D4], .int .i64 D5]) (by simp [results, Try.results64, go_sem, *]) rfl ⟨rfl, ?_⟩
      exact ((((Ext.trans E3' hE).setCell (Nat.le_succ _) _).setCell (Nat.le_succ _) _).setCell (Nat.le_succ _) _).setCell (Nat.le_succ _) _
set_option maxHeartbeats 4000000 in
theorem deciding_ok (r : Rec) (sch : List Rul) (sv vs : Value) (w : World) (hr : okRec r = true) (hg : goodR sch = true) (hv : Rec.At w (r, sv)) (hvs : Reads w 4 vs sch.length (sch.flatMap Rul.enc)) (hl : r.evs.length ≤ 1048576) (hls : sch.length ≤ 1048576) :
    Calls Try.prog 68 #[.agg #[.int .i64 r.id, .int .i64 r.se, .int .i64 r.ma, sv], vs] w fun e w' => e = .returned (.tuple #[.agg #[.int .i64 (decD r sch).1.se, .int .i64 (decD r sch).1.ev, .int .i64 (decD r sch).1.dy, .int .i64 (decD r sch).1.ac], .int .i64 (max (decD r sch).2 0), .bool (decide (0 ≤ (decD r sch).2))]) ∧ Ext w w' := by
  obtain ⟨a, cap, hs⟩ := Reads.shape hv
  simp only at hs
  subst hs
  obtain ⟨wa, hwa⟩ : ∃ wa, wa = w.alloc (.cells #[.int .i64 r.id, .int .i64 r.se, .int .i64 r.ma, .slice a r.evs.length cap] 45) := ⟨_, rfl⟩
  have za : wa.heap.size = w.heap.size + 1 := by rw [hwa]; simp
  obtain ⟨wb, hwb⟩ : ∃ wb, wb = wa.alloc (.cells #[.int .i64 0, .int .i64 0, .int .i64 0, .int .i64 0] 38) := ⟨_, rfl⟩
  have zb : wb.heap.size = w.heap.size + 1 + 1 := by rw [hwb]; simp [za]
  obtain ⟨w2, hw2⟩ : ∃ w2, w2 = wb.alloc (.cells #[.int .i64 0, .int .i64 0, .int .i64 0, .int .i64 0] 38) := ⟨_, rfl⟩
  have z2 : w2.heap.size = w.heap.size + 1 + 1 + 1 := by rw [hw2]; simp [zb]
  have Eb2 : Ext wb w2 := by rw [hw2]; exact (Ext.refl _).alloc _
  have Ea2 : Ext wa w2 := Ext.trans (by rw [hwb]; exact (Ext.refl _).alloc _) Eb2
  have E2 : Ext w w2 := Ext.trans (by rw [hwa]; exact (Ext.refl _).alloc _) Ea2
  have ba := Box.ext Ea2 (Box.of_new (cs := [.int .i64 r.id, .int .i64 r.se, .int .i64 r.ma, .slice a r.evs.length cap]) hwa rfl)
  have bb := Box.ext Eb2 (Box.of_new (cs := [.int .i64 0, .int .i64 0, .int .i64 0, .int .i64 0]) hwb za)
  have bc := Box.of_new (cs := [.int .i64 0, .int .i64 0, .int .i64 0, .int .i64 0]) hw2 zb
  have b1 := ba.cell 1 rfl
  have HC := rulesFor_ok sch r.se vs w2 (hvs.mono E2) hls
  have HS := Lib.hid (fun t => @decD_some r sch t)
  have HO := Lib.hid (@decD_none r sch)
  obtain ⟨⟨⟨D1, D2, D3, D4⟩, D5⟩, hD⟩ : ∃ D, decD r sch = D := ⟨_, rfl⟩
  rw [hD] at HS HO ⊢
  have hw2' : w2 = ((w.alloc (.cells #[.int .i64 r.id, .int .i64 r.se, .int .i64 r.ma, .slice a r.evs.length cap] 45)).alloc (.cells #[.int .i64 0, .int .i64 0, .int .i64 0, .int .i64 0] 38)).alloc (.cells #[.int .i64 0, .int .i64 0, .int .i64 0, .int .i64 0] 38) := by rw [hw2, hwb, hwa]
  clear hw2 hwb hwa Ea2 Eb2
  go_enter Try.func68, Try.ntmps68
  go_wp2_with fail
  rw [← hw2']
  refine HC.mono ?_
  rintro e w3 ⟨v3, rfl, o3, E3⟩
  have hq := Reads.of_owns o3
  have hql : (forR sch r.se).length ≤ 1048576 := Nat.le_trans (forR_length sch r.se) hls
  obtain ⟨a3, cap3, rfl⟩ := hq.shape
  have HB := Lib.hid (fun (k : Nat) (x : Rul) (hx : (forR sch r.se)[k]? = some x) => forR_dy hg hx)
  obtain ⟨q, hqq⟩ : ∃ q, forR sch r.se = q := ⟨_, rfl⟩
  rw [hqq] at hql HB HS HO o3
  rw [hqq]
  have E3' := Ext.trans E2 E3
  have z3 := E3.size
  rw [z2] at o3
  have ka := Box.ext E3 ba
  have kb := Box.ext E3 bb
  have kc := Box.ext E3 bc
  clear hqq hg HC hw2' b1 ba bb bc hD E2 E3 hq za zb
  go_wp2
  go_loopw [8, 10, 11, 17] (fun dv _ _ iv wr => ∃ (k : Nat) (b : Rul) (d : Int), k ≤ q.length ∧ iv = .int .i64 k ∧ dv = .int .i64 d ∧ Hid (decF r (q.take k) = some (b, d)) ∧ Box wr (w.heap.size + 1 + 1) 38 (Rul.enc b) ∧ Turned (w.heap.size + 1 + 1) (w.heap.size + 1 + 1 + 1) w3 wr) (fun _ _ _ iv _ => q.length - (intOf iv).toNat)
  case atStart => exact ⟨0, ⟨0, 0, 0, 0⟩, -1, Nat.zero_le _, rfl, rfl, Lib.hid rfl, kc, Turned.refl _ _ _⟩
  case round =>
    obtain ⟨k, ⟨b1, b2, b3, b4⟩, d, hk, rfl, rfl, HD, hbox, hT⟩ := hrel
    have hE : Ext w wr := Turned.below' hT E3' (by omega)
    have kb2 := Box.turned hT kb (by omega)
    by_cases hlt : k < q.length
    · have hq1 := Reads.of_owns (owns_above hT o3 (Nat.le_refl _))
      obtain ⟨b, off, rfl, hc⟩ := Reads.elems Rul.enc_len hq1 (by omega)
      obtain ⟨⟨p1, p2, p3, p4⟩, hx⟩ := get_of_lt hlt
      have c0 := hc k _ hx 0 _ rfl
      have c1 := hc k _ hx 1 _ rfl
      have c2 := hc k _ hx 2 _ rfl
      have c3 := hc k _ hx 3 _ rfl
      simp only [Nat.add_zero] at c0
      obtain ⟨d0, d1⟩ := HB.out k _ hx
      simp only at d0 d1
      have HP := Lib.hid (neg_waitP (r := r) (x := ⟨p1, p2, p3, p4⟩) hr d0)
      have HPUT := Lib.hid (@decF_put r q k ⟨p1, p2, p3, p4⟩ ⟨b1, b2, b3, b4⟩ d hx HD.out)
      have HLV := Lib.hid (@decF_leave r q k ⟨p1, p2, p3, p4⟩ ⟨b1, b2, b3, b4⟩ d hx HD.out)
      have HOP := Lib.hid (@decF_open r q k ⟨p1, p2, p3, p4⟩ _ hx HD.out)
      obtain ⟨w5, hw5⟩ : ∃ w5, w5 = wr.alloc (.cells #[.int .i64 p1, .int .i64 p2, .int .i64 p3, .int .i64 p4] 38) := ⟨_, rfl⟩
      have E5 : Ext wr w5 := by rw [hw5]; exact (Ext.refl wr).alloc _
      have yb := Box.of_new (cs := [.int .i64 p1, .int .i64 p2, .int .i64 p3, .int .i64 p4]) hw5 rfl
      have ka2 := Box.turned hT ka (by omega)
      have j0 := ka2.cell 0 rfl
      have j1 := ka2.cell 1 rfl
      have j2 := ka2.cell 2 rfl
      have j3 := ka2.cell 3 rfl
      have hb0 := block_lt_of_cell j0
      have HC := endOf_ok r _ ⟨p1, p2, p3, p4⟩ w5 hr d0 d1 (Reads.mono (Ext.trans hE E5) hv) hl
      obtain ⟨z, hz⟩ : ∃ z, negO (endO r ⟨p1, p2, p3, p4⟩) = z := ⟨_, rfl⟩
      rw [hz] at HC HP HPUT HLV
      clear hc hx hq1 hz
      go_wp2_with fail
      rw [← hw5]
      refine HC.mono ?_
      rintro e w6 ⟨rfl, E6⟩
      have yb2 := Box.ext E6 yb
      have y0 := yb2.cell 0 rfl
      have y1 := yb2.cell 1 rfl
      have y2 := yb2.cell 2 rfl
      have y3 := yb2.cell 3 rfl
      have E56 := Ext.trans E5 E6
      have hT6 := Turned.ext hT E56
      have hbox2 := Box.ext E56 hbox
      have hE6 := Ext.trans hE E56
      have kb3 := Box.ext E56 kb2
      have hrs := hbox.lt
      clear j0 j1 j2 j3 c0 c1 c2 c3 ka2 yb yb2 hbox HC hw5
      cases hp : waitP r ⟨p1, p2, p3, p4⟩
      case true =>
        have hz := HP.out
        rw [hp] at hz
        have HF := Lib.hid (HO.out (HOP.out hp))
        have q1 : D1 = 0 ∧ D2 = 0 ∧ D3 = 0 ∧ D4 = 0 ∧ D5 = -1 := by have := HF.out; simp only [Prod.mk.injEq, Rul.mk.injEq] at this; omega
        obtain ⟨rfl, rfl, rfl, rfl, rfl⟩ := q1
        have f0 := kb3.frozen 0
        have f1 := kb3.frozen 1
        have f2 := kb3.frozen 2
        have f3 := kb3.frozen 3
        have g0 := kb3.cell 0 rfl
        have g1 := kb3.cell 1 rfl
        have g2 := kb3.cell 2 rfl
        have g3 := kb3.cell 3 rfl
        go_wp2
        (try simp only [Exit.inBlock, Exit.then])
        refine bodyPost_ret (v := .tuple #[.agg #[.int .i64 0, .int .i64 0, .int .i64 0, .int .i64 0], .int .i64 0, .bool false]) (by simp [results, Try.results68, go_sem, *]) rfl ⟨rfl, ?_⟩
        exact (((hE6.setCell (Nat.le_succ _) _).setCell (Nat.le_succ _) _).setCell (Nat.le_succ _) _).setCell (Nat.le_succ _) _
      have hz := HP.out
      rw [hp] at hz
      have e0 := hbox2.cell 0 rfl
      have e1 := hbox2.cell 1 rfl
      have e2 := hbox2.cell 2 rfl
      have e3 := hbox2.cell 3 rfl
      have f0 := hbox2.frozen 0
      have f1 := hbox2.frozen 1
      have f2 := hbox2.frozen 2
      have f3 := hbox2.frozen 3
      go_upto_region 9 with fail
      go_cut [41] (fun c wx => c = .bool (dcond ⟨p1, p2, p3, p4⟩ ⟨b1, b2, b3, b4⟩ z d) ∧ wx = w6)
      case first =>
        cases t1 : decide (d < z)
        case true =>
          go_wp2
          go_meet
          exact ⟨congrArg Value.bool (by simp [dcond, t1]), rfl⟩
        cases t2 : (z == d)
        case false =>
          go_wp2
          go_meet
          exact ⟨congrArg Value.bool (by simp [dcond, t1, t2]), rfl⟩
        go_wp2
        go_meet
        exact ⟨congrArg Value.bool (by simp [dcond, t1, t2]), rfl⟩
      case rest =>
      obtain ⟨rfl, rfl⟩ := hcut
      cases hdc : dcond ⟨p1, p2, p3, p4⟩ ⟨b1, b2, b3, b4⟩ z d
      case true =>
        have HK := Lib.hid (HPUT.out hp hdc)
        go_wp2
        go_roundw
        case rel => exact ⟨k + 1, ⟨p1, p2, p3, p4⟩, z, by omega, by go_num, rfl, HK, (((hbox2.set 0 _).set 1 _).set 2 _).set 3 _, (((hT6.setCell (Nat.le_refl _) (Nat.lt_succ_self _) _).setCell (Nat.le_refl _) (Nat.lt_succ_self _) _).setCell (Nat.le_refl _) (Nat.lt_succ_self _) _).setCell (Nat.le_refl _) (Nat.lt_succ_self _) _⟩
        case measure => simp [intOf]; omega
      have HK := Lib.hid (HLV.out hp hdc)
      go_wp2
      go_roundw
      case rel => exact ⟨k + 1, ⟨b1, b2, b3, b4⟩, d, by omega, by go_num, rfl, HK, hbox2, hT6⟩
      case measure => simp [intOf]; omega
    · have HF := Lib.hid (HS.out ⟨⟨b1, b2, b3, b4⟩, d⟩ (by have := HD.out; rwa [List.take_of_length_le (by omega)] at this))
      have q1 : D1 = b1 ∧ D2 = b2 ∧ D3 = b3 ∧ D4 = b4 ∧ D5 = d := by have := HF.out; simp only [Prod.mk.injEq, Rul.mk.injEq] at this; omega
      obtain ⟨rfl, rfl, rfl, rfl, rfl⟩ := q1
      have f0 := kb2.frozen 0
      have f1 := kb2.frozen 1
      have f2 := kb2.frozen 2
      have f3 := kb2.frozen 3
      have g0 := kb2.cell 0 rfl
      have g1 := kb2.cell 1 rfl
      have g2 := kb2.cell 2 rfl
      have g3 := kb2.cell 3 rfl
      have e0 := hbox.cell 0 rfl
      have e1 := hbox.cell 1 rfl
      have e2 := hbox.cell 2 rfl
      have e3 := hbox.cell 3 rfl
      go_wp2
      all_goals (try simp only [Exit.inBlock, Exit.then])
      all_goals
        refine bodyPost_ret (v := .tuple #[.agg #[.int .i64 D1, .int .i64 D2, .int .i64 D3, .int .i64 D4], .int .i64 (max D5 0), .bool (decide (0 ≤ D5))]) (by simp [results, Try.results68, go_sem, *] <;> omega) rfl ⟨by first | rfl | simp [*] | (simp; omega), ?_⟩
        exact (((hE.setCell (Nat.le_succ _) _).setCell (Nat.le_succ _) _).setCell (Nat.le_succ _) _).setCell (Nat.le_succ _) _
end Go.Proofs.Ytkbhonafbecbfaa
