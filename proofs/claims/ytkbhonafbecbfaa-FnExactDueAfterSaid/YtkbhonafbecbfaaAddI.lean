/- What the program's AddEvent computes; no condition beyond the lengths and the room that are named. -/
import Derived.Test.YtkbhonafbecbfaaAddIL
import Derived.Test.YtkbhonafbecbfaaInsEvent
import Derived.Test.YtkbhonafbecbfaaAddData
import Derived.Test.YtkbhonafbecbfaaAddCel
import Derived.Test.YtkbhonafbecbfaaAddD
import Derived.Test.YtkbhonafbecbfaaFlatEvent
import Derived.Test.YtkbhonafbecbfaaPeriods2
import Derived.Test.YtkbhonafbecbfaaRoomA
import Derived.Test.YtkbhonafbecbfaaStepA
import Derived.Test.YtkbhonafbecbfaaBoxL
import Derived.Test.YtkbhonafbecbfaaAddBox
import Derived.Deep.RegionHeld3
namespace Go.Proofs.Ytkbhonafbecbfaa
open Go.RowKit Go.Sort Go.Rd
set_option maxRecDepth 8000 in
set_option maxHeartbeats 4000000 in
theorem addEvent_ok (r : Rec) (e : Evt) (sv : Value) (w : World) (hv : Rec.At w (r, sv)) (hrm : Room sv) (hl : r.evs.length ≤ 1048576) :
    Calls Try.prog 95 #[.agg #[.int .i64 r.id, .int .i64 r.se, .int .i64 r.ma, sv], .agg #[.int .i64 e.ki, .int .i64 e.dy]] w (RetAdd w r e (addOk r e)) := by
  have mixed : Try.prog.follows .mixedOrders = true := by kernel_rfl
  obtain ⟨a, cap, hs⟩ := Reads.shape hv
  simp only at hs
  subst hs
  obtain ⟨wB, hwB⟩ : ∃ x, x = w.alloc (.cells #[.int .i64 r.id, .int .i64 r.se, .int .i64 r.ma, .slice a r.evs.length cap] 45) := ⟨_, rfl⟩
  have sB : wB.heap.size = w.heap.size + 1 := by rw [hwB]; simp
  obtain ⟨wC, hwC⟩ : ∃ x, x = wB.alloc (.cells #[.int .i64 e.ki, .int .i64 e.dy] 83) := ⟨_, rfl⟩
  have sC : wC.heap.size = w.heap.size + 1 + 1 := by rw [hwC]; simp [sB]
  obtain ⟨wD, hwD⟩ : ∃ x, x = wC.alloc (.cells #[.int .i64 0, .int .i64 0, .int .i64 0, .slice none 0 0] 45) := ⟨_, rfl⟩
  have ECD : Ext wC wD := by rw [hwD]; exact (Ext.refl _).alloc _
  have EBD : Ext wB wD := Ext.trans (by rw [hwC]; exact (Ext.refl _).alloc _) ECD
  have ED : Ext w wD := Ext.trans (by rw [hwB]; exact (Ext.refl _).alloc _) EBD
  have b0 : wD.cell? ⟨w.heap.size, 0, none⟩ = some (.int .i64 r.id) := EBD.cell (by rw [hwB]; simp)
  have b1 : wD.cell? ⟨w.heap.size, 1, none⟩ = some (.int .i64 r.se) := EBD.cell (by rw [hwB]; simp)
  have b2 : wD.cell? ⟨w.heap.size, 2, none⟩ = some (.int .i64 r.ma) := EBD.cell (by rw [hwB]; simp)
  have b3 : wD.cell? ⟨w.heap.size, 3, none⟩ = some (.slice a r.evs.length cap) := EBD.cell (by rw [hwB]; simp)
  have k0 : wD.cell? ⟨w.heap.size + 1, 0, none⟩ = some (.int .i64 e.ki) := by rw [← sB]; exact ECD.cell (by rw [hwC]; simp)
  have k1 : wD.cell? ⟨w.heap.size + 1, 1, none⟩ = some (.int .i64 e.dy) := by rw [← sB]; exact ECD.cell (by rw [hwC]; simp)
  have z0 : wD.cell? ⟨w.heap.size + 1 + 1, 0, none⟩ = some (.int .i64 0) := by rw [← sC, hwD]; simp
  have z1 : wD.cell? ⟨w.heap.size + 1 + 1, 1, none⟩ = some (.int .i64 0) := by rw [← sC, hwD]; simp
  have z2 : wD.cell? ⟨w.heap.size + 1 + 1, 2, none⟩ = some (.int .i64 0) := by rw [← sC, hwD]; simp
  have z3 : wD.cell? ⟨w.heap.size + 1 + 1, 3, none⟩ = some (.slice none 0 0) := by rw [← sC, hwD]; simp
  have hbx : Box wD (w.heap.size + 1 + 1) 45 [.int .i64 0, .int .i64 0, .int .i64 0, .slice none 0 0] := by rw [← sC]; exact Box.of_new hwD rfl
  have hvD := Rec.At.mono ED hv
  obtain ⟨ok, hok⟩ : ∃ ok, addOk r e = ok := ⟨_, rfl⟩
  have HOK := Lib.hid hok
  rw [hok]
  clear hok
  go_enter Try.func95, Try.ntmps95
  go_upto_region 1 with fail
  rw [← hwB, ← hwC, ← hwD]
  clear hwB hwC hwD EBD ECD sB sC
  have HS : Hid (∀ w', Ext wD w' → (w'.cell? ⟨w.heap.size, 0, none⟩ = some (.int .i64 r.id) ∧ w'.cell? ⟨w.heap.size, 1, none⟩ = some (.int .i64 r.se) ∧ w'.cell? ⟨w.heap.size, 2, none⟩ = some (.int .i64 r.ma) ∧ w'.cell? ⟨w.heap.size, 3, none⟩ = some (.slice a r.evs.length cap) ∧ w'.cell? ⟨w.heap.size + 1, 0, none⟩ = some (.int .i64 e.ki) ∧ w'.cell? ⟨w.heap.size + 1, 1, none⟩ = some (.int .i64 e.dy) ∧ w'.cell? ⟨w.heap.size + 1 + 1, 0, none⟩ = some (.int .i64 0) ∧ w'.cell? ⟨w.heap.size + 1 + 1, 1, none⟩ = some (.int .i64 0) ∧ w'.cell? ⟨w.heap.size + 1 + 1, 2, none⟩ = some (.int .i64 0) ∧ w'.cell? ⟨w.heap.size + 1 + 1, 3, none⟩ = some (.slice none 0 0))) := Lib.hid fun w' h => ⟨h.cell b0, h.cell b1, h.cell b2, h.cell b3, h.cell k0, h.cell k1, h.cell z0, h.cell z1, h.cell z2, h.cell z3⟩
  go_wp2_with fail
  refine (isRecord_ok r _ _ hvD hl).mono ?_
  rintro e w1 ⟨rfl, E1⟩
  clear b0 b1 b2 b3 k0 k1 z0 z1 z2 z3
  obtain ⟨b0, b1, b2, b3, k0, k1, z0, z1, z2, z3⟩ := HS.out w1 E1
  cases h1 : okRec r
  case false =>
    obtain rfl : ok = false := by rw [← HOK.out, addOk, h1]; rfl
    have bb := Box.ext E1 hbx
    have f0 := bb.frozen 0
    have f1 := bb.frozen 1
    have f2 := bb.frozen 2
    have f3 := bb.frozen 3
    have EE := Ext.trans ED E1
    have hle : w.heap.size ≤ w.heap.size + 1 + 1 := by omega
    go_wp2
    (try simp only [Exit.inBlock, Exit.then])
    refine bodyPost_ret (v := .tuple #[.agg #[.int .i64 0, .int .i64 0, .int .i64 0, .slice none 0 0], .bool false]) (by simp [results, Try.results95, go_sem, *]) rfl ⟨0, 0, 0, none, 0, 0, rfl, (fun h => by cases h), ?_⟩
    exact (((EE.setCell hle _).setCell hle _).setCell hle _).setCell hle _
  go_wp2_with fail
  refine (isEvent_ok e.ki e.dy _).mono ?_
  rintro e w2 ⟨rfl, E2⟩
  have E2' := Ext.trans E1 E2
  clear b0 b1 b2 b3 k0 k1 z0 z1 z2 z3
  obtain ⟨b0, b1, b2, b3, k0, k1, z0, z1, z2, z3⟩ := HS.out w2 E2'
  obtain ⟨g2, h2⟩ : ∃ g, okE ⟨e.ki, e.dy⟩ = g := ⟨_, rfl⟩
  rw [h2]
  have H2 : Hid (okE e = g2) := Lib.hid h2
  clear h2
  cases g2
  case false =>
    obtain rfl : ok = false := by rw [← HOK.out, addOk, h1, H2.out]; rfl
    have bb := Box.ext E2' hbx
    have f0 := bb.frozen 0
    have f1 := bb.frozen 1
    have f2 := bb.frozen 2
    have f3 := bb.frozen 3
    have EE := Ext.trans ED E2'
    have hle : w.heap.size ≤ w.heap.size + 1 + 1 := by omega
    go_wp2
    (try simp only [Exit.inBlock, Exit.then])
    refine bodyPost_ret (v := .tuple #[.agg #[.int .i64 0, .int .i64 0, .int .i64 0, .slice none 0 0], .bool false]) (by simp [results, Try.results95, go_sem, *]) rfl ⟨0, 0, 0, none, 0, 0, rfl, (fun h => by cases h), ?_⟩
    exact (((EE.setCell hle _).setCell hle _).setCell hle _).setCell hle _
  have H1 := Lib.hid h1
  clear h1 b0 b1 b2 b3 k0 k1 z0 z1 z2 z3
  go_wp2
  go_loopw [6] (fun i wr => ∃ k : Nat, k ≤ r.evs.length ∧ i = .int .i64 k ∧ Hid (∀ j x, j < k → r.evs[j]? = some x → x.ki < e.ki) ∧ Ext w2 wr) (fun i _ => r.evs.length - (intOf i).toNat)
  case atStart => exact ⟨0, Nat.zero_le _, rfl, Lib.hid fun j x h => by omega, Ext.refl _⟩
  case round =>
    obtain ⟨k, hk, rfl, HALL, hE⟩ := hrel
    have hEk := Ext.trans E2' hE
    obtain ⟨g, hg⟩ : ∃ g, (decide (k < r.evs.length) && decide ((r.evs.getD k default).ki < e.ki)) = g := ⟨_, rfl⟩
    have HG := Lib.hid hg
    clear hg
    go_upto_region 4 with fail
    go_cut [32] (fun z wx => z = .bool g ∧ Ext wr wx)
    case first =>
      obtain ⟨b0, b1, b2, b3, k0, k1, z0, z1, z2, z3⟩ := HS.out wr hEk
      have y3 := cell_in_class b3
      have y4 := cell_in_class k0
      by_cases hlt : k < r.evs.length
      case neg =>
        have hgf : g = false := by rw [← HG.out, decide_eq_false hlt]; rfl
        have HGF := Lib.hid hgf
        have hd : decide ((k : Int) < (r.evs.length : Int)) = false := by simp; omega
        clear hgf b0 b1 b2 b3 k0 k1 z0 z1 z2 z3
        refine wp_region_quiet_below mixed (by kernel_rfl) ?_
        repeat (first | go_big_quiet_step (fail) | quiet_step (fail))
        refine wpQuiet_nil ?_
        intro _ hw'
        obtain ⟨⟨dq, osq⟩, hw''⟩ := hw'
        subst hw''
        clear y3 y4
        go_wp2
        go_meet
        exact ⟨congrArg Value.bool HGF.out.symm, (Ext.refl wr).regrown dq osq⟩
      obtain ⟨bb, oo, rfl, hc⟩ := Reads.elems Evt.enc_len (show Reads wr 2 (.slice a r.evs.length cap) r.evs.length (r.evs.flatMap Evt.enc) from Reads.mono hEk hvD) (by omega)
      obtain ⟨x, hx⟩ := get_of_lt hlt
      have y5 := cell_in_class (hc k _ hx 0 _ rfl)
      simp only [Nat.add_zero] at y5
      have hgx : g = decide (x.ki < e.ki) := by rw [← HG.out, decide_eq_true hlt, List.getD_eq_getElem?_getD, hx]; rfl
      have HGX := Lib.hid hgx
      have hd : decide ((k : Int) < (r.evs.length : Int)) = true := by simp; omega
      have n1 : (k : Int) < (r.evs.length : Int) := by omega
      clear hgx b0 b1 b2 b3 k0 k1 z0 z1 z2 z3 hc hx
      refine wp_region_quiet_below mixed (by kernel_rfl) ?_
      repeat (first | go_big_quiet_step (fail) | quiet_step (fail))
      refine wpQuiet_nil ?_
      intro _ hw'
      obtain ⟨⟨dq, osq⟩, hw''⟩ := hw'
      subst hw''
      clear y3 y4 y5
      go_wp2
      go_meet
      exact ⟨congrArg Value.bool HGX.out.symm, (Ext.refl wr).regrown dq osq⟩
    case rest =>
    obtain ⟨rfl, E4⟩ := hcut
    have hE4 := Ext.trans hE E4
    cases g
    case true =>
      have hlt : k < r.evs.length := by
        have := HG.out
        simp only [Bool.and_eq_true, decide_eq_true_eq] at this
        exact this.1
      have HALL2 : Hid (∀ j x, j < k + 1 → r.evs[j]? = some x → x.ki < e.ki) := Lib.hid fun j x hj hx => by
        by_cases hjk : j < k
        · exact HALL.out j x hjk hx
        · obtain rfl : j = k := by omega
          have := HG.out
          rw [List.getD_eq_getElem?_getD, hx] at this
          simp only [Bool.and_eq_true, decide_eq_true_eq] at this
          exact this.2
      go_wp2
      go_roundw
      case rel => exact ⟨k + 1, by omega, by go_num, HALL2, hE4⟩
      case measure => simp [intOf]; omega
    have HK : Hid (lessE r.evs e.ki = k) := Lib.hid (lessE_at _ _ _ hk HALL.out (fun x hx => by
      have := HG.out
      rw [decide_eq_true (List.getElem?_eq_some_iff.1 hx).1, Bool.true_and, decide_eq_false_iff_not, List.getD_eq_getElem?_getD, hx] at this
      exact this))
    obtain ⟨w4, hw4⟩ : ∃ w', w' = wc := ⟨_, rfl⟩
    subst hw4
    have ED4 := Ext.trans E2' hE4
    obtain ⟨w5, hw5⟩ : ∃ x, x = w4.alloc (.cells #[.int .i64 r.id, .int .i64 r.se, .int .i64 r.ma, .slice a r.evs.length cap] 45) := ⟨_, rfl⟩
    have E45 : Ext w4 w5 := by rw [hw5]; exact (Ext.refl w4).alloc _
    have HB5 : Hid (Box w5 w4.heap.size 45 [.int .i64 r.id, .int .i64 r.se, .int .i64 r.ma, .slice a r.evs.length cap]) := Lib.hid (Box.of_new hw5 rfl)
    have s5 : w5.heap.size = w4.heap.size + 1 := by rw [hw5]; simp
    have HS4 : Hid (∀ w', Ext w4 w' → (w'.cell? ⟨w.heap.size, 3, none⟩ = some (.slice a r.evs.length cap) ∧ w'.cell? ⟨w.heap.size + 1, 0, none⟩ = some (.int .i64 e.ki) ∧ w'.cell? ⟨w.heap.size + 1, 1, none⟩ = some (.int .i64 e.dy))) := Lib.hid fun w' h => by
      have := HS.out w' (Ext.trans ED4 h)
      exact ⟨this.2.2.2.1, this.2.2.2.2.1, this.2.2.2.2.2.1⟩
    obtain ⟨b0, b1, b2, b3, _⟩ := HS.out w4 ED4
    have hR5 : Reads w5 2 (.slice a r.evs.length cap) r.evs.length (r.evs.flatMap Evt.enc) := Reads.mono (Ext.trans ED4 E45) hvD
    have HR5 := Lib.hid hR5
    clear hR5
    go_upto_region 7 with fail
    rw [← hw5]
    clear b0 b1 b2 b3 hw5
    go_cut [42] (fun z wx => ∃ (c9 : Nat) (a9 : Option Addr), z = .slice a9 (r.evs.length + 1) c9 ∧ Box wx w4.heap.size 45 [.int .i64 r.id, .int .i64 r.se, .int .i64 r.ma, .slice a9 (r.evs.length + 1) c9] ∧ wx.ownsRow w5.heap.size 83 2 (.slice a9 (r.evs.length + 1) c9) (r.evs.length + 1) ((addEL r.evs e).flatMap Evt.enc) ∧ Ext w4 wx)
    case first =>
      go_region_held3 (fun w' => w'.cell? ⟨w.heap.size, 3, none⟩ = some (.slice a r.evs.length cap) ∧ w'.cell? ⟨w.heap.size + 1, 0, none⟩ = some (.int .i64 e.ki) ∧ w'.cell? ⟨w.heap.size + 1, 1, none⟩ = some (.int .i64 e.dy)) (exact HS4.out _ (by (repeat' (first | with_reducible exact Ext.refl _ | with_reducible assumption | with_reducible apply Ext.drew | with_reducible apply Ext.alloc | with_reducible apply Ext.setCell | (dsimp only; omega))); done)) (first
        | (go_at_call 133; refine (cloneEvent_ok r.evs _ _ (Reads.mono (by (repeat' (first | with_reducible exact Ext.refl _ | with_reducible assumption | with_reducible apply Ext.drew | with_reducible apply Ext.alloc | with_reducible apply Ext.setCell | (dsimp only; omega))); done) HR5.out) hl).mono ?_; rintro e6 w6 ⟨v6, rfl, o6, E6⟩; have E56 : Ext w5 w6 := Ext.trans (by (repeat' (first | with_reducible exact Ext.refl _ | with_reducible assumption | with_reducible apply Ext.drew | with_reducible apply Ext.alloc | with_reducible apply Ext.setCell | (dsimp only; omega))); done) E6; have L6 := E6.size; have L56 := E56.size; have E46 := Ext.trans E45 E56)
        | (go_at_call 132; refine (insertEvent_ok w5 (r.evs.flatMap Evt.enc) (Evt.enc e) r.evs.length k _ v6 _ (by (repeat' (first | with_reducible exact Ext.refl _ | with_reducible assumption | with_reducible apply Ext.drew | with_reducible apply Ext.alloc | with_reducible apply Ext.setCell | (dsimp only; omega))); done) (by (repeat' (first | with_reducible exact owns_mono o6 (by first | (simp; done) | (simp; omega)) | with_reducible apply owns_under)); done) hk hl (flat_one Evt.enc_one _) rfl (Evt.enc_one e) (show Box _ _ 83 [.int .i64 e.ki, .int .i64 e.dy] from by (repeat' (first | with_reducible exact Box.hereI (by first | omega | (simp; done) | (simp; omega)) | with_reducible apply Box.under | with_reducible apply Box.drew | with_reducible apply Box.ext E6)); done) (fun h => by have h9 := o6.lt _ h; first | omega | (simp at h9; omega) | (simp at h9; done))).mono ?_; rintro e7 w7 ⟨v7, rfl, o7, E7⟩; obtain ⟨a9, c9, rfl⟩ := (Reads.of_owns o7).shape; have E47 := Ext.trans E45 E7; have B7 := Box.ext E7 HB5.out; have C3 := B7.cell 3 rfl; have F3 := B7.frozen 3))
      all_goals go_wp2
      all_goals go_meet
      all_goals exact ⟨c9, a9, rfl, B7.set 3 _, owns_setCell (addEL_owns2 hk HK.out o7) (by dsimp only; omega) _, (Ext.trans E45 E7).setCell (Nat.le_refl _) _⟩
    case rest =>
    obtain ⟨c9, a9, rfl, hbN, hON, E5⟩ := hcut
    have ED5 := Ext.trans ED4 E5
    have hlN : (addR r e).evs.length = r.evs.length + 1 := addEL_length _ _
    have hRN : Rec.At wc (addR r e, .slice a9 (r.evs.length + 1) c9) := by
      have := Reads.of_owns hON
      rw [← hlN] at this
      show Reads wc 2 (.slice a9 (r.evs.length + 1) c9) (addR r e).evs.length ((addR r e).evs.flatMap Evt.enc)
      rw [← hlN]; exact this
    have n0 := hbN.cell 0 rfl
    have n1 := hbN.cell 1 rfl
    have n2 := hbN.cell 2 rfl
    have n3 := hbN.cell 3 rfl
    go_wp2_with fail
    refine (isRecord_ok (addR r e) _ _ hRN (by have := (okRec_parts H1.out).2.2.2.1; omega)).mono ?_
    rintro e w6 ⟨rfl, E6⟩
    have ED6 := Ext.trans ED5 E6
    have bb := Box.ext ED6 hbx
    have q0 := bb.cell 0 rfl
    have q1 := bb.cell 1 rfl
    have q2 := bb.cell 2 rfl
    have q3 := bb.cell 3 rfl
    have f0 := bb.frozen 0
    have f1 := bb.frozen 1
    have f2 := bb.frozen 2
    have f3 := bb.frozen 3
    have EE := Ext.trans ED ED6
    have hle : w.heap.size ≤ w.heap.size + 1 + 1 := by omega
    cases h6 : okRec (addR r e)
    case false =>
      obtain rfl : ok = false := by rw [← HOK.out, addOk, H1.out, H2.out, h6]; rfl
      go_wp2
      (try simp only [Exit.inBlock, Exit.then])
      refine bodyPost_ret (v := .tuple #[.agg #[.int .i64 0, .int .i64 0, .int .i64 0, .slice none 0 0], .bool false]) (by simp [results, Try.results95, go_sem, *]) rfl ⟨0, 0, 0, none, 0, 0, rfl, (fun h => by cases h), ?_⟩
      exact (((EE.setCell hle _).setCell hle _).setCell hle _).setCell hle _
    obtain rfl : ok = true := by rw [← HOK.out, addOk, H1.out, H2.out, h6]; rfl
    have p0 := E6.cell n0
    have p1 := E6.cell n1
    have p2 := E6.cell n2
    have p3 := E6.cell n3
    have hbl : w.heap.size + 1 + 1 < w5.heap.size := Nat.lt_of_lt_of_le hbx.lt (Ext.trans ED4 E45).size
    have hO6 := E6.owns hON
    clear n0 n1 n2 n3
    go_wp2
    (try simp only [Exit.inBlock, Exit.then])
    refine bodyPost_ret (v := .tuple #[.agg #[.int .i64 r.id, .int .i64 r.se, .int .i64 r.ma, .slice a9 (r.evs.length + 1) c9], .bool true]) (by simp [results, Try.results95, go_sem, *]) rfl ⟨r.id, r.se, r.ma, a9, r.evs.length + 1, c9, rfl, (fun _ => ⟨rfl, rfl, rfl, ?_⟩), ?_⟩
    · have := Reads.of_owns (owns_setCell (owns_setCell (owns_setCell (owns_setCell hO6 (p := ⟨w.heap.size + 1 + 1, 0, none⟩) hbl (.int .i64 r.id)) (p := ⟨w.heap.size + 1 + 1, 1, none⟩) hbl (.int .i64 r.se)) (p := ⟨w.heap.size + 1 + 1, 2, none⟩) hbl (.int .i64 r.ma)) (p := ⟨w.heap.size + 1 + 1, 3, none⟩) hbl (.slice a9 (r.evs.length + 1) c9))
      show Reads _ 2 (.slice a9 (r.evs.length + 1) c9) (addR r e).evs.length ((addR r e).evs.flatMap Evt.enc)
      rw [hlN]; exact this
    · exact (((EE.setCell hle _).setCell hle _).setCell hle _).setCell hle _
end Go.Proofs.Ytkbhonafbecbfaa
