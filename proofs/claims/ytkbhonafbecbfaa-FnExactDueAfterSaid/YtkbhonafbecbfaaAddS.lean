/- What the reference's AddEvent computes; no condition beyond the lengths and the room that are named. -/
import Derived.Test.YtkbhonafbecbfaaAddData
import Derived.Test.YtkbhonafbecbfaaAddCel
import Derived.Test.YtkbhonafbecbfaaAddD
import Derived.Test.YtkbhonafbecbfaaFlatEvent
import Derived.Test.YtkbhonafbecbfaaPeriods2
import Derived.Test.YtkbhonafbecbfaaRoomA
import Derived.Test.YtkbhonafbecbfaaStepA
import Derived.Test.YtkbhonafbecbfaaBoxL
import Derived.Test.YtkbhonafbecbfaaAddBox
import Derived.Deep.RegionHeld3
namespace Go.Proofs.Ytkbhonafbecbfaa
open Go.RowKit Go.Sort Go.Rd
set_option maxRecDepth 8000 in
set_option maxHeartbeats 40000000 in
theorem specAddEvent_ok (r : Rec) (e : Evt) (sv : Value) (w : World) (hv : Rec.At w (r, sv)) (hrm : Room sv) (hl : r.evs.length ≤ 1048576) :
    Calls Try.prog 92 #[.agg #[.int .i64 r.id, .int .i64 r.se, .int .i64 r.ma, sv], .agg #[.int .i64 e.ki, .int .i64 e.dy]] w (RetAdd w r e (addOk r e)) := by
  have mixed : Try.prog.follows .mixedOrders = true := by kernel_rfl
  obtain ⟨a, cap, hs⟩ := Reads.shape hv
  simp only at hs
  subst hs
  obtain ⟨wB, hwB⟩ : ∃ x, x = w.alloc (.cells #[.int .i64 r.id, .int .i64 r.se, .int .i64 r.ma, .slice a r.evs.length cap] 45) := ⟨_, rfl⟩
  have sB : wB.heap.size = w.heap.size + 1 := by rw [hwB]; simp
  obtain ⟨wC, hwC⟩ : ∃ x, x = wB.alloc (.cells #[.int .i64 e.ki, .int .i64 e.dy] 83) := ⟨_, rfl⟩
  have sC : wC.heap.size = w.heap.size + 1 + 1 := by rw [hwC]; simp [sB]
  obtain ⟨wD, hwD⟩ : ∃ x, x = wC.alloc (.cells #[.int .i64 0, .int .i64 0, .int .i64 0, .slice none 0 0] 45) := ⟨_, rfl⟩
  have ECD : Ext wC wD := by rw [hwD]; exact (Ext.refl _).alloc _
  have EBD : Ext wB wD := Ext.trans (by rw [hwC]; exact (Ext.refl _).alloc _) ECD
  have ED : Ext w wD := Ext.trans (by rw [hwB]; exact (Ext.refl _).alloc _) EBD
  have b0 : wD.cell? ⟨w.heap.size, 0, none⟩ = some (.int .i64 r.id) := EBD.cell (by rw [hwB]; simp)
  have b1 : wD.cell? ⟨w.heap.size, 1, none⟩ = some (.int .i64 r.se) := EBD.cell (by rw [hwB]; simp)
  have b2 : wD.cell? ⟨w.heap.size, 2, none⟩ = some (.int .i64 r.ma) := EBD.cell (by rw [hwB]; simp)
  have b3 : wD.cell? ⟨w.heap.size, 3, none⟩ = some (.slice a r.evs.length cap) := EBD.cell (by rw [hwB]; simp)
  have k0 : wD.cell? ⟨w.heap.size + 1, 0, none⟩ = some (.int .i64 e.ki) := by rw [← sB]; exact ECD.cell (by rw [hwC]; simp)
  have k1 : wD.cell? ⟨w.heap.size + 1, 1, none⟩ = some (.int .i64 e.dy) := by rw [← sB]; exact ECD.cell (by rw [hwC]; simp)
  have z0 : wD.cell? ⟨w.heap.size + 1 + 1, 0, none⟩ = some (.int .i64 0) := by rw [← sC, hwD]; simp
  have z1 : wD.cell? ⟨w.heap.size + 1 + 1, 1, none⟩ = some (.int .i64 0) := by rw [← sC, hwD]; simp
  have z2 : wD.cell? ⟨w.heap.size + 1 + 1, 2, none⟩ = some (.int .i64 0) := by rw [← sC, hwD]; simp
  have z3 : wD.cell? ⟨w.heap.size + 1 + 1, 3, none⟩ = some (.slice none 0 0) := by rw [← sC, hwD]; simp
  have hbx : Box wD (w.heap.size + 1 + 1) 45 [.int .i64 0, .int .i64 0, .int .i64 0, .slice none 0 0] := by rw [← sC]; exact Box.of_new hwD rfl
  have hvD := Rec.At.mono ED hv
  obtain ⟨ok, hok⟩ : ∃ ok, addOk r e = ok := ⟨_, rfl⟩
  have HOK := Lib.hid hok
  rw [hok]
  clear hok
  go_enter Try.func92, Try.ntmps92
  go_upto_region 1 with fail
  rw [← hwB, ← hwC, ← hwD]
  clear hwB hwC hwD EBD ECD sB sC
  have HS : Hid (∀ w', Ext wD w' → (w'.cell? ⟨w.heap.size, 0, none⟩ = some (.int .i64 r.id) ∧ w'.cell? ⟨w.heap.size, 1, none⟩ = some (.int .i64 r.se) ∧ w'.cell? ⟨w.heap.size, 2, none⟩ = some (.int .i64 r.ma) ∧ w'.cell? ⟨w.heap.size, 3, none⟩ = some (.slice a r.evs.length cap) ∧ w'.cell? ⟨w.heap.size + 1, 0, none⟩ = some (.int .i64 e.ki) ∧ w'.cell? ⟨w.heap.size + 1, 1, none⟩ = some (.int .i64 e.dy) ∧ w'.cell? ⟨w.heap.size + 1 + 1, 0, none⟩ = some (.int .i64 0) ∧ w'.cell? ⟨w.heap.size + 1 + 1, 1, none⟩ = some (.int .i64 0) ∧ w'.cell? ⟨w.heap.size + 1 + 1, 2, none⟩ = some (.int .i64 0) ∧ w'.cell? ⟨w.heap.size + 1 + 1, 3, none⟩ = some (.slice none 0 0))) := Lib.hid fun w' h => ⟨h.cell b0, h.cell b1, h.cell b2, h.cell b3, h.cell k0, h.cell k1, h.cell z0, h.cell z1, h.cell z2, h.cell z3⟩
  go_wp2_with fail
  refine (l2Record_ok r _ _ hvD hl).mono ?_
  rintro e w1 ⟨rfl, E1⟩
  clear b0 b1 b2 b3 k0 k1 z0 z1 z2 z3
  obtain ⟨b0, b1, b2, b3, k0, k1, z0, z1, z2, z3⟩ := HS.out w1 E1
  cases h1 : okRec r
  case false =>
    obtain rfl : ok = false := by rw [← HOK.out, addOk, h1]; rfl
    have bb := Box.ext E1 hbx
    have f0 := bb.frozen 0
    have f1 := bb.frozen 1
    have f2 := bb.frozen 2
    have f3 := bb.frozen 3
    have EE := Ext.trans ED E1
    have hle : w.heap.size ≤ w.heap.size + 1 + 1 := by omega
    go_wp2
    (try simp only [Exit.inBlock, Exit.then])
    refine bodyPost_ret (v := .tuple #[.agg #[.int .i64 0, .int .i64 0, .int .i64 0, .slice none 0 0], .bool false]) (by simp [results, Try.results92, go_sem, *]) rfl ⟨0, 0, 0, none, 0, 0, rfl, (fun h => by cases h), ?_⟩
    exact (((EE.setCell hle _).setCell hle _).setCell hle _).setCell hle _
  go_wp2_with fail
  refine (l2Event_ok e.ki e.dy _).mono ?_
  rintro e w2 ⟨rfl, E2⟩
  have E2' := Ext.trans E1 E2
  clear b0 b1 b2 b3 k0 k1 z0 z1 z2 z3
  obtain ⟨b0, b1, b2, b3, k0, k1, z0, z1, z2, z3⟩ := HS.out w2 E2'
  obtain ⟨g2, h2⟩ : ∃ g, okE ⟨e.ki, e.dy⟩ = g := ⟨_, rfl⟩
  rw [h2]
  have H2 : Hid (okE e = g2) := Lib.hid h2
  clear h2
  cases g2
  case false =>
    obtain rfl : ok = false := by rw [← HOK.out, addOk, h1, H2.out]; rfl
    have bb := Box.ext E2' hbx
    have f0 := bb.frozen 0
    have f1 := bb.frozen 1
    have f2 := bb.frozen 2
    have f3 := bb.frozen 3
    have EE := Ext.trans ED E2'
    have hle : w.heap.size ≤ w.heap.size + 1 + 1 := by omega
    go_wp2
    (try simp only [Exit.inBlock, Exit.then])
    refine bodyPost_ret (v := .tuple #[.agg #[.int .i64 0, .int .i64 0, .int .i64 0, .slice none 0 0], .bool false]) (by simp [results, Try.results92, go_sem, *]) rfl ⟨0, 0, 0, none, 0, 0, rfl, (fun h => by cases h), ?_⟩
    exact (((EE.setCell hle _).setCell hle _).setCell hle _).setCell hle _
  go_wp2_with fail
  refine (l2DayOf_ok r _ e.ki _ (Rec.At.mono E2' hvD) hl).mono ?_
  rintro e w3 ⟨rfl, E3⟩
  have E3' := Ext.trans E2' E3
  clear b0 b1 b2 b3 k0 k1 z0 z1 z2 z3
  obtain ⟨b0, b1, b2, b3, k0, k1, z0, z1, z2, z3⟩ := HS.out w3 E3'
  obtain ⟨z, hz⟩ : ∃ z, negO (dayOf r e.ki) = z := ⟨_, rfl⟩
  have HZ := Lib.hid hz
  rw [hz]
  clear hz
  by_cases hz0 : 0 ≤ z
  case pos =>
    have HF : Hid (okRec (addR r e) = false) := Lib.hid (by
      cases hd : dayOf r e.ki with
      | none => have := HZ.out; rw [hd] at this; simp [negO] at this; omega
      | some d => exact add_has H2.out hd)
    obtain rfl : ok = false := by rw [← HOK.out, addOk, h1, H2.out, HF.out]; rfl
    have bb := Box.ext E3' hbx
    have f0 := bb.frozen 0
    have f1 := bb.frozen 1
    have f2 := bb.frozen 2
    have f3 := bb.frozen 3
    have EE := Ext.trans ED E3'
    have hle : w.heap.size ≤ w.heap.size + 1 + 1 := by omega
    go_wp2
    (try simp only [Exit.inBlock, Exit.then])
    refine bodyPost_ret (v := .tuple #[.agg #[.int .i64 0, .int .i64 0, .int .i64 0, .slice none 0 0], .bool false]) (by simp [results, Try.results92, go_sem, *]) rfl ⟨0, 0, 0, none, 0, 0, rfl, (fun h => by cases h), ?_⟩
    exact (((EE.setCell hle _).setCell hle _).setCell hle _).setCell hle _
  have H1 := Lib.hid h1
  clear h1 b0 b1 b2 b3 k0 k1 z0 z1 z2 z3
  go_wp2
  go_loopw [6] (fun i wr => ∃ k : Nat, k ≤ r.evs.length ∧ i = .int .i64 k ∧ Hid (∀ j x, j < k → r.evs[j]? = some x → x.ki < e.ki) ∧ Ext w3 wr) (fun i _ => r.evs.length - (intOf i).toNat)
  case atStart => exact ⟨0, Nat.zero_le _, rfl, Lib.hid fun j x h => by omega, Ext.refl _⟩
  case round =>
    obtain ⟨k, hk, rfl, HALL, hE⟩ := hrel
    have hEk := Ext.trans E3' hE
    obtain ⟨g, hg⟩ : ∃ g, (decide (k < r.evs.length) && decide ((r.evs.getD k default).ki < e.ki)) = g := ⟨_, rfl⟩
    have HG := Lib.hid hg
    clear hg
    go_upto_region 4 with fail
    go_cut [39] (fun z wx => z = .bool g ∧ Ext wr wx)
    case first =>
      obtain ⟨b0, b1, b2, b3, k0, k1, z0, z1, z2, z3⟩ := HS.out wr hEk
      have y3 := cell_in_class b3
      have y4 := cell_in_class k0
      by_cases hlt : k < r.evs.length
      case neg =>
        have hgf : g = false := by rw [← HG.out, decide_eq_false hlt]; rfl
        have HGF := Lib.hid hgf
        have hd : decide ((k : Int) < (r.evs.length : Int)) = false := by simp; omega
        clear hgf b0 b1 b2 b3 k0 k1 z0 z1 z2 z3
        refine wp_region_quiet_below mixed (by kernel_rfl) ?_
        repeat (first | go_big_quiet_step (fail) | quiet_step (fail))
        refine wpQuiet_nil ?_
        intro _ hw'
        obtain ⟨⟨dq, osq⟩, hw''⟩ := hw'
        subst hw''
        clear y3 y4
        go_wp2
        go_meet
        exact ⟨congrArg Value.bool HGF.out.symm, (Ext.refl wr).regrown dq osq⟩
      obtain ⟨bb, oo, rfl, hc⟩ := Reads.elems Evt.enc_len (show Reads wr 2 (.slice a r.evs.length cap) r.evs.length (r.evs.flatMap Evt.enc) from Reads.mono hEk hvD) (by omega)
      obtain ⟨x, hx⟩ := get_of_lt hlt
      have y5 := cell_in_class (hc k _ hx 0 _ rfl)
      simp only [Nat.add_zero] at y5
      have hgx : g = decide (x.ki < e.ki) := by rw [← HG.out, decide_eq_true hlt, List.getD_eq_getElem?_getD, hx]; rfl
      have HGX := Lib.hid hgx
      have hd : decide ((k : Int) < (r.evs.length : Int)) = true := by simp; omega
      have n1 : (k : Int) < (r.evs.length : Int) := by omega
      clear hgx b0 b1 b2 b3 k0 k1 z0 z1 z2 z3 hc hx
      refine wp_region_quiet_below mixed (by kernel_rfl) ?_
      repeat (first | go_big_quiet_step (fail) | quiet_step (fail))
      refine wpQuiet_nil ?_
      intro _ hw'
      obtain ⟨⟨dq, osq⟩, hw''⟩ := hw'
      subst hw''
      clear y3 y4 y5
      go_wp2
      go_meet
      exact ⟨congrArg Value.bool HGX.out.symm, (Ext.refl wr).regrown dq osq⟩
    case rest =>
    obtain ⟨rfl, E4⟩ := hcut
    have hE4 := Ext.trans hE E4
    cases g
    case true =>
      have hlt : k < r.evs.length := by
        have := HG.out
        simp only [Bool.and_eq_true, decide_eq_true_eq] at this
        exact this.1
      have HALL2 : Hid (∀ j x, j < k + 1 → r.evs[j]? = some x → x.ki < e.ki) := Lib.hid fun j x hj hx => by
        by_cases hjk : j < k
        · exact HALL.out j x hjk hx
        · obtain rfl : j = k := by omega
          have := HG.out
          rw [List.getD_eq_getElem?_getD, hx] at this
          simp only [Bool.and_eq_true, decide_eq_true_eq] at this
          exact this.2
      go_wp2
      go_roundw
      case rel => exact ⟨k + 1, by omega, by go_num, HALL2, hE4⟩
      case measure => simp [intOf]; omega
    have HK : Hid (lessE r.evs e.ki = k) := Lib.hid (lessE_at _ _ _ hk HALL.out (fun x hx => by
      have := HG.out
      rw [decide_eq_true (List.getElem?_eq_some_iff.1 hx).1, Bool.true_and, decide_eq_false_iff_not, List.getD_eq_getElem?_getD, hx] at this
      exact this))
    obtain ⟨w4, hw4⟩ : ∃ w', w' = wc := ⟨_, rfl⟩
    subst hw4
    have ED4 := Ext.trans E3' hE4
    have HS4 : Hid (∀ w', Ext w4 w' → (w'.cell? ⟨w.heap.size, 0, none⟩ = some (.int .i64 r.id) ∧ w'.cell? ⟨w.heap.size, 1, none⟩ = some (.int .i64 r.se) ∧ w'.cell? ⟨w.heap.size, 2, none⟩ = some (.int .i64 r.ma) ∧ w'.cell? ⟨w.heap.size, 3, none⟩ = some (.slice a r.evs.length cap) ∧ w'.cell? ⟨w.heap.size + 1, 0, none⟩ = some (.int .i64 e.ki) ∧ w'.cell? ⟨w.heap.size + 1, 1, none⟩ = some (.int .i64 e.dy))) := Lib.hid fun w' h => by
      have := HS.out w' (Ext.trans ED4 h)
      exact ⟨this.1, this.2.1, this.2.2.1, this.2.2.2.1, this.2.2.2.2.1, this.2.2.2.2.2.1⟩
    have hcap : r.evs.length ≤ cap := hrm _ _ _ rfl
    have m1 : k ≤ cap := by omega
    have m2 : (k : Int) ≤ (cap : Int) := by omega
    have m3 : (0 : Int) ≤ (k : Int) := by omega
    have m4 : (k : Int) ≤ (r.evs.length : Int) := by omega
    go_upto_region 6 with fail
    go_cut [7] (fun z wx => ∃ (g c9 : Nat) (a9 : Option Addr), z = .pointer (some ⟨g, 0, none⟩) ∧ Box wx g 45 [.int .i64 r.id, .int .i64 r.se, .int .i64 r.ma, .slice a9 (r.evs.length + 1) c9] ∧ wx.ownsRow w4.heap.size 83 2 (.slice a9 (r.evs.length + 1) c9) (r.evs.length + 1) ((addEL r.evs e).flatMap Evt.enc) ∧ w4.heap.size ≤ g ∧ Ext w4 wx)
    case first =>
      cases a with
      | none =>
      have he : r.evs = [] := by
        rcases Nat.eq_zero_or_pos r.evs.length with h0 | h0
        · exact List.eq_nil_of_length_eq_zero h0
        · obtain ⟨_, _, _, hbb, _⟩ := (hvD : Reads wD 2 (.slice none r.evs.length cap) r.evs.length (r.evs.flatMap Evt.enc)).at h0
          cases hbb
      have hk0 : k = 0 := by rw [he] at hk; simpa using hk
      have hn0 : r.evs.length = 0 := by rw [he]; rfl
      have HE := Lib.hid he
      have HN := Lib.hid hn0
      subst hk0
      have HS0 : Hid (∀ w', Ext w4 w' → (w'.cell? ⟨w.heap.size, 0, none⟩ = some (.int .i64 r.id) ∧ w'.cell? ⟨w.heap.size, 1, none⟩ = some (.int .i64 r.se) ∧ w'.cell? ⟨w.heap.size, 2, none⟩ = some (.int .i64 r.ma) ∧ w'.cell? ⟨w.heap.size, 3, none⟩ = some (.slice none 0 cap) ∧ w'.cell? ⟨w.heap.size + 1, 0, none⟩ = some (.int .i64 e.ki) ∧ w'.cell? ⟨w.heap.size + 1, 1, none⟩ = some (.int .i64 e.dy))) := Lib.hid fun w' h => by
        have := HS4.out w' h
        rw [HN.out] at this
        exact this
      clear he hn0 hcap m1 m2 m4
      go_region_held3 (fun w' => w'.cell? ⟨w.heap.size, 0, none⟩ = some (.int .i64 r.id) ∧ w'.cell? ⟨w.heap.size, 1, none⟩ = some (.int .i64 r.se) ∧ w'.cell? ⟨w.heap.size, 2, none⟩ = some (.int .i64 r.ma) ∧ w'.cell? ⟨w.heap.size, 3, none⟩ = some (.slice none 0 cap) ∧ w'.cell? ⟨w.heap.size + 1, 0, none⟩ = some (.int .i64 e.ki) ∧ w'.cell? ⟨w.heap.size + 1, 1, none⟩ = some (.int .i64 e.dy)) (exact HS0.out _ (by (repeat' (first | with_reducible exact Ext.refl _ | with_reducible assumption | with_reducible apply Ext.drew | with_reducible apply Ext.alloc | with_reducible apply Ext.setCell | (dsimp only; omega))); done)) (first
        | (refine step_app0 w4.heap.size rfl (.tmp 48) (.tmp 52) 43 rfl 83 _ 2 16 Try.underlying43 Try.infoIEvent (.slice (some ⟨_, 0, none⟩) 0 0) 0 [] rfl (Box.owns (by (repeat' (first | with_reducible exact Box.hereI (by first | (simp; done) | (simp; omega)) | with_reducible apply Box.under | with_reducible apply Box.drew)); done) (by omega)) _ rfl ?_)
        | (refine step_appS w4 rfl (.tmp 53) (.tmp 55) 43 rfl 83 _ 2 16 Try.underlying43 Try.infoIEvent rfl (by decide) (by decide) (.slice (some ⟨_, 0, none⟩) 0 0) 0 [] rfl (by (repeat' (first | with_reducible exact Ext.refl _ | with_reducible assumption | with_reducible apply Ext.drew | with_reducible apply Ext.alloc)); done) (Box.owns (by (repeat' (first | with_reducible exact Box.hereI (by first | (simp; done) | (simp; omega)) | with_reducible apply Box.under | with_reducible apply Box.drew)); done) (by omega)) _ 1 1 (Evt.enc e) rfl rfl (cells2_at (show Box _ _ 83 [.int .i64 e.ki, .int .i64 e.dy] from by (repeat' (first | with_reducible exact Box.hereI (by first | (simp; done) | (simp; omega)) | with_reducible apply Box.under | with_reducible apply Box.drew)); done)) (Evt.enc_one e) (by omega) 1 rfl ?_; intro a9 c9 w7 o3 E7 G7; have L7 := E7.size; (try have B7 := Box.grown2 G7 (show Box _ _ 45 [.int .i64 0, .int .i64 0, .int .i64 0, .slice none 0 0] from by (repeat' (first | with_reducible exact Box.here | with_reducible apply Box.under | with_reducible apply Box.drew)); done) (by first | (simp [Value.ownBlock]; done) | (simp [Value.ownBlock]; omega))); (try simp at B7); (try have C0 := B7.cell 0 rfl); (try have F0 := B7.frozen 0); (try have C1 := B7.cell 1 rfl); (try have F1 := B7.frozen 1); (try have C2 := B7.cell 2 rfl); (try have F2 := B7.frozen 2); (try have C3 := B7.cell 3 rfl); (try have F3 := B7.frozen 3))
        | (refine step_app0 w4.heap.size rfl (.tmp 56) (.tmp 60) 43 rfl 83 _ 2 16 Try.underlying43 Try.infoIEvent (.slice a9 1 c9) 1 ([] ++ Evt.enc e) rfl (by (repeat' (first | with_reducible exact o3 | with_reducible apply owns_under)); done) _ rfl ?_))
      all_goals go_wp2
      all_goals go_meet
      all_goals first
        | (with_reducible apply addS_fin (E := 83) (R := 45) (k := 0) (r := r) (e := e) (by decide); (case ho => exact own0 HE.out o3); (case hb => exact B7); (case hE => exact E7); (case hg => omega); (case _hk => exact (Nat.zero_le _)); (case hL => exact HK.out); (case hN => rw [HN.out]))
        | (with_reducible apply addS_fin2 (E := 83) (R := 45) (k := 0) (r := r) (e := e); (case ho => exact own0 HE.out o3); (case hE => exact E7); (case _hk => exact (Nat.zero_le _)); (case hL => exact HK.out); (case hN => rw [HN.out]))
      | some ad =>
      have HT : Hid (∀ w', Ext w4 w' → ∀ j u, ((r.evs.take k).flatMap Evt.enc)[j]? = some u → w'.cell? (ad.add j) = some u) := Lib.hid (by
        by_cases h0 : 0 < r.evs.length
        · obtain ⟨_, bb, oo, hbb, _⟩ := (Rec.At.mono ED4 hvD : Reads w4 2 (.slice (some ad) r.evs.length cap) r.evs.length (r.evs.flatMap Evt.enc)).at h0
          cases hbb
          exact takeG Evt.enc_len (Rec.At.mono ED4 hvD : Reads w4 2 (.slice (some ⟨bb, oo, none⟩) r.evs.length cap) r.evs.length (r.evs.flatMap Evt.enc)) rfl k
        · have : r.evs = [] := List.eq_nil_of_length_eq_zero (by omega)
          intro w' _ j u hu
          rw [this] at hu; simp at hu)
      have htl : ((r.evs.take k).flatMap Evt.enc).length = k * 2 := by rw [flat_length Evt.enc 2 Evt.enc_len, List.length_take, Nat.min_eq_left hk]
      by_cases hck : cap = k
      case pos =>
        have hck2 := hck.symm
        clear hck
        subst hck2
        have HD : Hid (∀ (w' : World) (p : Addr) (j : Nat) (u : Value), ((r.evs.drop k).flatMap Evt.enc)[j]? = some u → w'.cell? (p.add j) = some u) := Lib.hid (by
          intro w' p j u hu
          rw [List.drop_eq_nil_of_le (by omega)] at hu; simp at hu)
        have hdl : ((r.evs.drop k).flatMap Evt.enc).length = 0 * 2 := by rw [flat_length Evt.enc 2 Evt.enc_len, List.length_drop]; omega
        go_region_held3 (fun w' => w'.cell? ⟨w.heap.size, 0, none⟩ = some (.int .i64 r.id) ∧ w'.cell? ⟨w.heap.size, 1, none⟩ = some (.int .i64 r.se) ∧ w'.cell? ⟨w.heap.size, 2, none⟩ = some (.int .i64 r.ma) ∧ w'.cell? ⟨w.heap.size, 3, none⟩ = some (.slice (some ad) r.evs.length k) ∧ w'.cell? ⟨w.heap.size + 1, 0, none⟩ = some (.int .i64 e.ki) ∧ w'.cell? ⟨w.heap.size + 1, 1, none⟩ = some (.int .i64 e.dy)) (exact HS4.out _ (by (repeat' (first | with_reducible exact Ext.refl _ | with_reducible assumption | with_reducible apply Ext.drew | with_reducible apply Ext.alloc | with_reducible apply Ext.setCell | (dsimp only; omega))); done)) (first
          | (refine step_appN w4 rfl (.tmp 48) (.tmp 52) 43 rfl 83 _ 2 16 Try.underlying43 Try.infoIEvent rfl (by decide) (by decide) (.slice (some ⟨_, 0, none⟩) 0 0) 0 [] rfl (by (repeat' (first | with_reducible exact Ext.refl _ | with_reducible assumption | with_reducible apply Ext.drew | with_reducible apply Ext.alloc)); done) (Box.owns (by (repeat' (first | with_reducible exact Box.hereI (by first | (simp; done) | (simp; omega)) | with_reducible apply Box.under | with_reducible apply Box.drew)); done) (by omega)) ad k _ ((r.evs.take k).flatMap Evt.enc) rfl htl (HT.out _ (by (repeat' (first | with_reducible exact Ext.refl _ | with_reducible assumption | with_reducible apply Ext.drew | with_reducible apply Ext.alloc)); done)) (flat_one Evt.enc_one _) (by omega) ?_; intro v1 w5 o1 E5 G5; have L5 := E5.size; (try have N5 := Box.grown2 G5 (show Box _ _ 83 [.int .i64 e.ki, .int .i64 e.dy] from by (repeat' (first | with_reducible exact Box.here | with_reducible apply Box.under | with_reducible apply Box.drew)); done) (by first | (simp [Value.ownBlock]; done) | (simp [Value.ownBlock]; omega))); (try have B5 := Box.grown2 G5 (show Box _ _ 45 [.int .i64 0, .int .i64 0, .int .i64 0, .slice none 0 0] from by (repeat' (first | with_reducible exact Box.here | with_reducible apply Box.under | with_reducible apply Box.drew)); done) (by first | (simp [Value.ownBlock]; done) | (simp [Value.ownBlock]; omega))); (try simp at N5); (try simp at B5))
          | (refine step_appN w4 rfl (.tmp 53) (.tmp 55) 43 rfl 83 _ 2 16 Try.underlying43 Try.infoIEvent rfl (by decide) (by decide) v1 (0 + k) ([] ++ (r.evs.take k).flatMap Evt.enc) rfl (by (repeat' (first | with_reducible exact Ext.refl _ | with_reducible assumption | with_reducible apply Ext.drew | with_reducible apply Ext.alloc)); done) (by (repeat' (first | with_reducible exact o1 | with_reducible apply owns_under)); done) _ 1 1 (Evt.enc e) rfl rfl (cells2_at (show Box _ _ 83 [.int .i64 e.ki, .int .i64 e.dy] from by (repeat' (first | with_reducible exact N5 | with_reducible exact Box.hereI (by first | (simp; done) | (simp; omega)) | with_reducible apply Box.under | with_reducible apply Box.drew)); done)) (Evt.enc_one e) (by omega) ?_; intro v2 w6 o2 E6 G6; have L6 := E6.size; (try have B6 := Box.grown G6 (show _ from by (repeat' (first | with_reducible exact o1 | with_reducible apply owns_under)); done) (show Box _ _ 45 [.int .i64 0, .int .i64 0, .int .i64 0, .slice none 0 0] from by (repeat' (first | with_reducible exact B5 | with_reducible exact Box.here | with_reducible apply Box.under | with_reducible apply Box.drew)); done) (by decide)); (try simp at B6))
          | (refine step_appS w4 rfl (.tmp 56) (.tmp 60) 43 rfl 83 _ 2 16 Try.underlying43 Try.infoIEvent rfl (by decide) (by decide) v2 (0 + k + 1) ([] ++ (r.evs.take k).flatMap Evt.enc ++ Evt.enc e) rfl (by (repeat' (first | with_reducible exact Ext.refl _ | with_reducible assumption | with_reducible apply Ext.drew | with_reducible apply Ext.alloc)); done) (by (repeat' (first | with_reducible exact o2 | with_reducible apply owns_under)); done) _ 0 _ ((r.evs.drop k).flatMap Evt.enc) rfl hdl (HD.out _ _) (flat_one Evt.enc_one _) (by omega) (r.evs.length + 1) (by omega) ?_; intro a9 c9 w7 o3 E7 G7; have L7 := E7.size; (try have B7 := Box.grown G7 (show _ from by (repeat' (first | with_reducible exact o2 | with_reducible apply owns_under)); done) (show Box _ _ 45 [.int .i64 0, .int .i64 0, .int .i64 0, .slice none 0 0] from by (repeat' (first | with_reducible exact B6 | with_reducible exact Box.here | with_reducible apply Box.under | with_reducible apply Box.drew)); done) (by decide)); (try simp at B7); (try have C0 := B7.cell 0 rfl); (try have F0 := B7.frozen 0); (try have C1 := B7.cell 1 rfl); (try have F1 := B7.frozen 1); (try have C2 := B7.cell 2 rfl); (try have F2 := B7.frozen 2); (try have C3 := B7.cell 3 rfl); (try have F3 := B7.frozen 3)))
        all_goals go_wp2
        all_goals go_meet
        all_goals first
          | (with_reducible apply addS_fin (E := 83) (R := 45) (k := k) (r := r) (e := e) (by decide); (case ho => exact o3); (case hb => exact B7); (case hE => exact E7); (case hg => omega); (case _hk => exact hk); (case hL => exact HK.out); (case hN => omega))
          | (with_reducible apply addS_fin2 (E := 83) (R := 45) (k := k) (r := r) (e := e); (case ho => exact o3); (case hE => exact E7); (case _hk => exact hk); (case hL => exact HK.out); (case hN => omega))
      have HD : Hid (∀ w', Ext w4 w' → ∀ j u, ((r.evs.drop k).flatMap Evt.enc)[j]? = some u → w'.cell? ((ad.add (k * 2)).add j) = some u) := Lib.hid (by
        by_cases h0 : 0 < r.evs.length
        · obtain ⟨_, bb, oo, hbb, _⟩ := (Rec.At.mono ED4 hvD : Reads w4 2 (.slice (some ad) r.evs.length cap) r.evs.length (r.evs.flatMap Evt.enc)).at h0
          cases hbb
          rw [add_addr]
          exact dropG Evt.enc_len (Rec.At.mono ED4 hvD : Reads w4 2 (.slice (some ⟨bb, oo, none⟩) r.evs.length cap) r.evs.length (r.evs.flatMap Evt.enc)) rfl k hk
        · have : r.evs = [] := List.eq_nil_of_length_eq_zero (by omega)
          intro w' _ j u hu
          rw [this] at hu; simp at hu)
      have hdl : ((r.evs.drop k).flatMap Evt.enc).length = (r.evs.length - k) * 2 := by rw [flat_length Evt.enc 2 Evt.enc_len, List.length_drop]
      go_region_held3 (fun w' => w'.cell? ⟨w.heap.size, 0, none⟩ = some (.int .i64 r.id) ∧ w'.cell? ⟨w.heap.size, 1, none⟩ = some (.int .i64 r.se) ∧ w'.cell? ⟨w.heap.size, 2, none⟩ = some (.int .i64 r.ma) ∧ w'.cell? ⟨w.heap.size, 3, none⟩ = some (.slice (some ad) r.evs.length cap) ∧ w'.cell? ⟨w.heap.size + 1, 0, none⟩ = some (.int .i64 e.ki) ∧ w'.cell? ⟨w.heap.size + 1, 1, none⟩ = some (.int .i64 e.dy)) (exact HS4.out _ (by (repeat' (first | with_reducible exact Ext.refl _ | with_reducible assumption | with_reducible apply Ext.drew | with_reducible apply Ext.alloc | with_reducible apply Ext.setCell | (dsimp only; omega))); done)) (first
        | (refine step_appN w4 rfl (.tmp 48) (.tmp 52) 43 rfl 83 _ 2 16 Try.underlying43 Try.infoIEvent rfl (by decide) (by decide) (.slice (some ⟨_, 0, none⟩) 0 0) 0 [] rfl (by (repeat' (first | with_reducible exact Ext.refl _ | with_reducible assumption | with_reducible apply Ext.drew | with_reducible apply Ext.alloc)); done) (Box.owns (by (repeat' (first | with_reducible exact Box.hereI (by first | (simp; done) | (simp; omega)) | with_reducible apply Box.under | with_reducible apply Box.drew)); done) (by omega)) ad k _ ((r.evs.take k).flatMap Evt.enc) rfl htl (HT.out _ (by (repeat' (first | with_reducible exact Ext.refl _ | with_reducible assumption | with_reducible apply Ext.drew | with_reducible apply Ext.alloc)); done)) (flat_one Evt.enc_one _) (by omega) ?_; intro v1 w5 o1 E5 G5; have L5 := E5.size; (try have N5 := Box.grown2 G5 (show Box _ _ 83 [.int .i64 e.ki, .int .i64 e.dy] from by (repeat' (first | with_reducible exact Box.here | with_reducible apply Box.under | with_reducible apply Box.drew)); done) (by first | (simp [Value.ownBlock]; done) | (simp [Value.ownBlock]; omega))); (try have B5 := Box.grown2 G5 (show Box _ _ 45 [.int .i64 0, .int .i64 0, .int .i64 0, .slice none 0 0] from by (repeat' (first | with_reducible exact Box.here | with_reducible apply Box.under | with_reducible apply Box.drew)); done) (by first | (simp [Value.ownBlock]; done) | (simp [Value.ownBlock]; omega))); (try simp at N5); (try simp at B5))
        | (refine step_appN w4 rfl (.tmp 53) (.tmp 55) 43 rfl 83 _ 2 16 Try.underlying43 Try.infoIEvent rfl (by decide) (by decide) v1 (0 + k) ([] ++ (r.evs.take k).flatMap Evt.enc) rfl (by (repeat' (first | with_reducible exact Ext.refl _ | with_reducible assumption | with_reducible apply Ext.drew | with_reducible apply Ext.alloc)); done) (by (repeat' (first | with_reducible exact o1 | with_reducible apply owns_under)); done) _ 1 1 (Evt.enc e) rfl rfl (cells2_at (show Box _ _ 83 [.int .i64 e.ki, .int .i64 e.dy] from by (repeat' (first | with_reducible exact N5 | with_reducible exact Box.hereI (by first | (simp; done) | (simp; omega)) | with_reducible apply Box.under | with_reducible apply Box.drew)); done)) (Evt.enc_one e) (by omega) ?_; intro v2 w6 o2 E6 G6; have L6 := E6.size; (try have B6 := Box.grown G6 (show _ from by (repeat' (first | with_reducible exact o1 | with_reducible apply owns_under)); done) (show Box _ _ 45 [.int .i64 0, .int .i64 0, .int .i64 0, .slice none 0 0] from by (repeat' (first | with_reducible exact B5 | with_reducible exact Box.here | with_reducible apply Box.under | with_reducible apply Box.drew)); done) (by decide)); (try simp at B6))
        | (refine step_appS w4 rfl (.tmp 56) (.tmp 60) 43 rfl 83 _ 2 16 Try.underlying43 Try.infoIEvent rfl (by decide) (by decide) v2 (0 + k + 1) ([] ++ (r.evs.take k).flatMap Evt.enc ++ Evt.enc e) rfl (by (repeat' (first | with_reducible exact Ext.refl _ | with_reducible assumption | with_reducible apply Ext.drew | with_reducible apply Ext.alloc)); done) (by (repeat' (first | with_reducible exact o2 | with_reducible apply owns_under)); done) _ (r.evs.length - k) _ ((r.evs.drop k).flatMap Evt.enc) rfl hdl (HD.out _ (by (repeat' (first | with_reducible exact Ext.refl _ | with_reducible assumption | with_reducible apply Ext.drew | with_reducible apply Ext.alloc)); done)) (flat_one Evt.enc_one _) (by omega) (r.evs.length + 1) (by omega) ?_; intro a9 c9 w7 o3 E7 G7; have L7 := E7.size; (try have B7 := Box.grown G7 (show _ from by (repeat' (first | with_reducible exact o2 | with_reducible apply owns_under)); done) (show Box _ _ 45 [.int .i64 0, .int .i64 0, .int .i64 0, .slice none 0 0] from by (repeat' (first | with_reducible exact B6 | with_reducible exact Box.here | with_reducible apply Box.under | with_reducible apply Box.drew)); done) (by decide)); (try simp at B7); (try have C0 := B7.cell 0 rfl); (try have F0 := B7.frozen 0); (try have C1 := B7.cell 1 rfl); (try have F1 := B7.frozen 1); (try have C2 := B7.cell 2 rfl); (try have F2 := B7.frozen 2); (try have C3 := B7.cell 3 rfl); (try have F3 := B7.frozen 3)))
      all_goals go_wp2
      all_goals go_meet
      all_goals first
        | (with_reducible apply addS_fin (E := 83) (R := 45) (k := k) (r := r) (e := e) (by decide); (case ho => exact o3); (case hb => exact B7); (case hE => exact E7); (case hg => omega); (case _hk => exact hk); (case hL => exact HK.out); (case hN => omega))
        | (with_reducible apply addS_fin2 (E := 83) (R := 45) (k := k) (r := r) (e := e); (case ho => exact o3); (case hE => exact E7); (case _hk => exact hk); (case hL => exact HK.out); (case hN => omega))
    case rest =>
    obtain ⟨g, c9, a9, rfl, hbN, hON, hgN, E5⟩ := hcut
    have ED5 := Ext.trans ED4 E5
    have hlN : (addR r e).evs.length = r.evs.length + 1 := addEL_length _ _
    have hRN : Rec.At wc (addR r e, .slice a9 (r.evs.length + 1) c9) := by
      have := Reads.of_owns hON
      rw [← hlN] at this
      show Reads wc 2 (.slice a9 (r.evs.length + 1) c9) (addR r e).evs.length ((addR r e).evs.flatMap Evt.enc)
      rw [← hlN]; exact this
    have n0 := hbN.cell 0 rfl
    have n1 := hbN.cell 1 rfl
    have n2 := hbN.cell 2 rfl
    have n3 := hbN.cell 3 rfl
    go_wp2_with fail
    refine (l2Record_ok (addR r e) _ _ hRN (by have := (okRec_parts H1.out).2.2.2.1; omega)).mono ?_
    rintro e w6 ⟨rfl, E6⟩
    have ED6 := Ext.trans ED5 E6
    have bb := Box.ext ED6 hbx
    have q0 := bb.cell 0 rfl
    have q1 := bb.cell 1 rfl
    have q2 := bb.cell 2 rfl
    have q3 := bb.cell 3 rfl
    have f0 := bb.frozen 0
    have f1 := bb.frozen 1
    have f2 := bb.frozen 2
    have f3 := bb.frozen 3
    have EE := Ext.trans ED ED6
    have hle : w.heap.size ≤ w.heap.size + 1 + 1 := by omega
    cases h6 : okRec (addR r e)
    case false =>
      obtain rfl : ok = false := by rw [← HOK.out, addOk, H1.out, H2.out, h6]; rfl
      go_wp2
      (try simp only [Exit.inBlock, Exit.then])
      refine bodyPost_ret (v := .tuple #[.agg #[.int .i64 0, .int .i64 0, .int .i64 0, .slice none 0 0], .bool false]) (by simp [results, Try.results92, go_sem, *]) rfl ⟨0, 0, 0, none, 0, 0, rfl, (fun h => by cases h), ?_⟩
      exact (((EE.setCell hle _).setCell hle _).setCell hle _).setCell hle _
    obtain rfl : ok = true := by rw [← HOK.out, addOk, H1.out, H2.out, h6]; rfl
    have p0 := E6.cell n0
    have p1 := E6.cell n1
    have p2 := E6.cell n2
    have p3 := E6.cell n3
    have hbl : w.heap.size + 1 + 1 < w4.heap.size := Nat.lt_of_lt_of_le hbx.lt ED4.size
    have hO6 := E6.owns hON
    clear n0 n1 n2 n3
    go_wp2
    (try simp only [Exit.inBlock, Exit.then])
    refine bodyPost_ret (v := .tuple #[.agg #[.int .i64 r.id, .int .i64 r.se, .int .i64 r.ma, .slice a9 (r.evs.length + 1) c9], .bool true]) (by simp [results, Try.results92, go_sem, *]) rfl ⟨r.id, r.se, r.ma, a9, r.evs.length + 1, c9, rfl, (fun _ => ⟨rfl, rfl, rfl, ?_⟩), ?_⟩
    · have := Reads.of_owns (owns_setCell (owns_setCell (owns_setCell (owns_setCell hO6 (p := ⟨w.heap.size + 1 + 1, 0, none⟩) hbl (.int .i64 r.id)) (p := ⟨w.heap.size + 1 + 1, 1, none⟩) hbl (.int .i64 r.se)) (p := ⟨w.heap.size + 1 + 1, 2, none⟩) hbl (.int .i64 r.ma)) (p := ⟨w.heap.size + 1 + 1, 3, none⟩) hbl (.slice a9 (r.evs.length + 1) c9))
      show Reads _ 2 (.slice a9 (r.evs.length + 1) c9) (addR r e).evs.length ((addR r e).evs.flatMap Evt.enc)
      rw [hlN]; exact this
    · exact (((EE.setCell hle _).setCell hle _).setCell hle _).setCell hle _
end Go.Proofs.Ytkbhonafbecbfaa
