/- What WaitsFor computes, the program's and the reference's; no condition beyond the lengths that are named. -/
import Derived.Test.YtpmjjkhikciokaaPeriods2
import Derived.Test.YtpmjjkhikciokaaDecData
import Derived.Test.YtpmjjkhikciokaaAppR
namespace Go.Proofs.Ytpmjjkhikciokaa
open Go.RowKit Go.Sort Go.Rd
set_option maxHeartbeats 4000000 in
theorem specWaitsFor_ok (r : Rec) (sch : List Rul) (sv vs : Value) (w : World) (hv : Rec.At w (r, sv)) (hvs : Reads w 4 vs sch.length (sch.flatMap Rul.enc)) (hl : r.evs.length ≤ 1048576) (hls : sch.length ≤ 1048576) :
    Calls Try.prog 29 #[.agg #[.int .i64 r.id, .int .i64 r.se, .int .i64 r.ma, sv], vs] w (RetReadB w 1 (waitL r sch).length ((waitL r sch).flatMap encI) (bothOk r sch)) := by
  have mixed : Try.prog.follows .mixedOrders = true := by kernel_rfl
  obtain ⟨a, cap, hs⟩ := Reads.shape hv
  simp only at hs
  subst hs
  obtain ⟨w2, hw2⟩ : ∃ w2, w2 = (w.alloc (.cells #[.int .i64 r.id, .int .i64 r.se, .int .i64 r.ma, .slice a r.evs.length cap] 49)).alloc (.cells #[] 3) := ⟨_, rfl⟩
  have E2 : Ext w w2 := by rw [hw2]; exact ((Ext.refl w).alloc _).alloc _
  have b0 : w2.cell? ⟨w.heap.size, 0, none⟩ = some (.int .i64 r.id) := by rw [hw2]; simp
  have b1 : w2.cell? ⟨w.heap.size, 1, none⟩ = some (.int .i64 r.se) := by rw [hw2]; simp
  have b2 : w2.cell? ⟨w.heap.size, 2, none⟩ = some (.int .i64 r.ma) := by rw [hw2]; simp
  have b3 : w2.cell? ⟨w.heap.size, 3, none⟩ = some (.slice a r.evs.length cap) := by rw [hw2]; simp
  have HC := l6Asked_ok r _ sch vs w2 (Reads.mono E2 hv) hl (hvs.mono E2) hls
  cases ho : bothOk r sch
  case false =>
    have HN := Lib.hid (waitL_no ho)
    rw [ho] at HC
    go_enter Try.func29, Try.ntmps29
    go_wp2_with fail
    rw [← hw2]
    refine HC.mono ?_
    rintro e w3 ⟨rfl, E3⟩
    go_wp2
    go_ret2
    rw [HN.out]
    exact ⟨_, rfl, (OutR.empty w w 3 1 _).reads.mono (Ext.trans E2 E3), Ext.trans E2 E3⟩
  have HN := Lib.hid (waitL_yes ho)
  rw [ho] at HC
  simp only [bothOk, Bool.and_eq_true] at ho
  obtain ⟨hr, hg⟩ := ho
  go_enter Try.func29, Try.ntmps29
  go_wp2_with fail
  rw [← hw2]
  refine HC.mono ?_
  rintro e w3 ⟨rfl, E3⟩
  have E3' := Ext.trans E2 E3
  have k1 := E3.cell b1
  go_wp2_with fail
  refine (l4For_ok sch r.se vs _ (hvs.mono E3') hls).mono ?_
  rintro e w4 ⟨v4, rfl, o4, E4⟩
  have E4' := Ext.trans E3' E4
  have E34 := Ext.trans E3 E4
  have k0 := E34.cell b0
  have k1 := E34.cell b1
  have k2 := E34.cell b2
  have k3 := E34.cell b3
  have hq := Reads.of_owns o4
  have hql : (forR sch r.se).length ≤ 1048576 := Nat.le_trans (forR_length sch r.se) hls
  obtain ⟨a4, cap4, rfl⟩ := hq.shape
  have HB := Lib.hid (fun (k : Nat) (x : Rul) (hx : (forR sch r.se)[k]? = some x) => forR_dy hg hx)
  obtain ⟨q, hqq⟩ : ∃ q, forR sch r.se = q := ⟨_, rfl⟩
  rw [hqq] at hq hql HB HN o4
  rw [hqq]
  clear hqq hg HC hw2 b0 b1 b2 b3 E34 E3' E3 E2 E4 o4
  go_wp2
  go_loopw [6, 8] (fun out i wr => ∃ k : Nat, k ≤ q.length ∧ i = .int .i64 k ∧ OutR w4 wr 3 1 out (fmK (waitP r) (·.ev) q k).length ((fmK (waitP r) (·.ev) q k).flatMap encI) ∧ Ext w4 wr) (fun _ i _ => q.length - (intOf i).toNat)
  case atStart => exact ⟨0, Nat.zero_le _, rfl, by rw [fmK_zero]; exact OutR.empty _ _ _ _ _, Ext.refl _⟩
  case round =>
    obtain ⟨k, hk, rfl, ho, hE⟩ := hrel
    by_cases hlt : k < q.length
    · have hq1 := hq.mono hE
      obtain ⟨b, off, rfl, hc⟩ := Reads.elems Rul.enc_len hq1 (by omega)
      obtain ⟨⟨p1, p2, p3, p4⟩, hx⟩ := get_of_lt hlt
      have c0 := hc k _ hx 0 _ rfl
      have c1 := hc k _ hx 1 _ rfl
      have c2 := hc k _ hx 2 _ rfl
      have c3 := hc k _ hx 3 _ rfl
      simp only [Nat.add_zero] at c0
      obtain ⟨d0, d1⟩ := HB.out k _ hx
      simp only at d0 d1
      have HP := Lib.hid (neg_waitP (r := r) (x := ⟨p1, p2, p3, p4⟩) hr d0)
      have HX := Lib.hid hx
      have hflen := fmK_len (waitP r) (·.ev) q k
      have hE0 := Ext.trans E4' hE
      have x0 := cell_in_class c0
      have x1 := cell_in_class c1
      have x2 := cell_in_class c2
      have x3 := cell_in_class c3
      have y0 := cell_in_class (hE.cell k0)
      have y1 := cell_in_class (hE.cell k1)
      have y2 := cell_in_class (hE.cell k2)
      have y3 := cell_in_class (hE.cell k3)
      have cO := Calls.in_class (w := wr) (fun w' hw' => l6End_ok r _ ⟨p1, p2, p3, p4⟩ w' hr d0 d1 (Reads.mono (Ext.trans hE0 hw') hv) hl)
      obtain ⟨z, hz⟩ : ∃ z, negO (endO r ⟨p1, p2, p3, p4⟩) = z := ⟨_, rfl⟩
      rw [hz] at cO HP
      clear hc hx hq1 hz
      go_upto_region 8 with fail
      go_cut [31] (fun c wx => c = .bool (waitP r ⟨p1, p2, p3, p4⟩) ∧ Ext wr wx)
      case first =>
        refine wp_region_quiet_below mixed (by kernel_rfl) ?_
        repeat (first | go_big_quiet_step (exact cO _ _) | quiet_step (exact cO _ _))
        refine wpQuiet_nil ?_
        intro _ hw'
        obtain ⟨⟨dq, osq⟩, hw''⟩ := hw'
        subst hw''
        clear cO x0 x1 x2 x3 y0 y1 y2 y3
        go_wp2
        go_meet
        exact ⟨congrArg Value.bool HP.out, (Ext.refl wr).regrown dq osq⟩
      case rest =>
      obtain ⟨rfl, hE2⟩ := hcut
      clear x0 x1 x2 x3 y0 y1 y2 y3 cO
      have c1 := hE2.cell c1
      have ho1 := OutR.ext hE2 ho
      have hE3 := Ext.trans hE hE2
      cases hp : waitP r ⟨p1, p2, p3, p4⟩
      case false =>
        have HK := Lib.hid (fmK_no (f := fun x : Rul => x.ev) HX.out hp)
        go_wp2
        go_roundw
        case rel => exact ⟨k + 1, by omega, by go_num, by rw [HK.out]; exact ho1, hE3⟩
        case measure => simp [intOf]; omega
      have HK := Lib.hid (fmK_yes (f := fun x : Rul => x.ev) HX.out hp)
      go_wp2_with (at_builtin; refine wpl_appendR w4 _ rfl _ _ 23 rfl 3 _ 1 8 Try.underlying23 Try.infoInt rfl (by decide) (by decide) _ _ _ hE3 ho1 ?c1 [.int .i64 (p2)] rfl rfl rfl (encI_one _) ?_)
      case c1 => omega
      intro v' w5 o5 E5 _
      go_wp2
      go_roundw
      case rel => exact ⟨k + 1, by omega, by go_num, by rw [HK.out]; simpa [encI] using o5, E5⟩
      case measure => simp [intOf]; omega
    · have HF := Lib.hid ((fmK_all (waitP r) (·.ev) (show q.length ≤ k by omega)).trans HN.out.symm)
      rw [HF.out] at ho
      go_wp2
      go_ret2
      exact ⟨_, rfl, ho.reads, Ext.trans E4' hE⟩
set_option maxHeartbeats 4000000 in
theorem waitsFor_ok (r : Rec) (sch : List Rul) (sv vs : Value) (w : World) (hv : Rec.At w (r, sv)) (hvs : Reads w 4 vs sch.length (sch.flatMap Rul.enc)) (hl : r.evs.length ≤ 1048576) (hls : sch.length ≤ 1048576) :
    Calls Try.prog 31 #[.agg #[.int .i64 r.id, .int .i64 r.se, .int .i64 r.ma, sv], vs] w (RetOwnB w 3 1 (waitL r sch).length ((waitL r sch).flatMap encI) (bothOk r sch)) := by
  obtain ⟨a, cap, hs⟩ := Reads.shape hv
  simp only at hs
  subst hs
  obtain ⟨w2, hw2⟩ : ∃ w2, w2 = w.alloc (.cells #[.int .i64 r.id, .int .i64 r.se, .int .i64 r.ma, .slice a r.evs.length cap] 49) := ⟨_, rfl⟩
  have E2 : Ext w w2 := by rw [hw2]; exact (Ext.refl w).alloc _
  have b0 : w2.cell? ⟨w.heap.size, 0, none⟩ = some (.int .i64 r.id) := by rw [hw2]; simp
  have b1 : w2.cell? ⟨w.heap.size, 1, none⟩ = some (.int .i64 r.se) := by rw [hw2]; simp
  have b2 : w2.cell? ⟨w.heap.size, 2, none⟩ = some (.int .i64 r.ma) := by rw [hw2]; simp
  have b3 : w2.cell? ⟨w.heap.size, 3, none⟩ = some (.slice a r.evs.length cap) := by rw [hw2]; simp
  have HC := areBoth_ok r _ sch vs w2 (Reads.mono E2 hv) hl (hvs.mono E2) hls
  cases ho : bothOk r sch
  case false =>
    have HN := Lib.hid (waitL_no ho)
    rw [ho] at HC
    go_enter Try.func31, Try.ntmps31
    go_wp2_with fail
    rw [← hw2]
    refine HC.mono ?_
    rintro e w3 ⟨rfl, E3⟩
    go_wp2
    go_ret2
    rw [HN.out]
    exact ⟨_, rfl, World.ownsRow_nil _ _ _ _, Ext.trans E2 E3⟩
  have HN := Lib.hid (waitL_yes ho)
  rw [ho] at HC
  simp only [bothOk, Bool.and_eq_true] at ho
  obtain ⟨hr, hg⟩ := ho
  go_enter Try.func31, Try.ntmps31
  go_wp2_with fail
  rw [← hw2]
  refine HC.mono ?_
  rintro e w3 ⟨rfl, E3⟩
  have E3' := Ext.trans E2 E3
  have k1 := E3.cell b1
  go_wp2_with fail
  refine (rulesFor_ok sch r.se vs _ (hvs.mono E3') hls).mono ?_
  rintro e w4 ⟨v4, rfl, o4, E4⟩
  have E4' := Ext.trans E3' E4
  have E34 := Ext.trans E3 E4
  have k0 := E34.cell b0
  have k1 := E34.cell b1
  have k2 := E34.cell b2
  have k3 := E34.cell b3
  have hq := Reads.of_owns o4
  have hql : (forR sch r.se).length ≤ 1048576 := Nat.le_trans (forR_length sch r.se) hls
  obtain ⟨a4, cap4, rfl⟩ := hq.shape
  have HB := Lib.hid (fun (k : Nat) (x : Rul) (hx : (forR sch r.se)[k]? = some x) => forR_dy hg hx)
  obtain ⟨q, hqq⟩ : ∃ q, forR sch r.se = q := ⟨_, rfl⟩
  rw [hqq] at hq hql HB HN o4
  rw [hqq]
  clear hqq hg HC hw2 b0 b1 b2 b3 E34 E3' E3 E2 E4 o4
  go_wp2
  go_loopw [6, 8, 18] (fun out _ i wr => ∃ k : Nat, k ≤ q.length ∧ i = .int .i64 k ∧ wr.ownsRow w4.heap.size 3 1 out (fmK (waitP r) (·.ev) q k).length ((fmK (waitP r) (·.ev) q k).flatMap encI) ∧ Ext w4 wr) (fun _ _ i _ => q.length - (intOf i).toNat)
  case atStart => exact ⟨0, Nat.zero_le _, rfl, by rw [fmK_zero]; exact World.ownsRow_nil _ _ _ _, Ext.refl _⟩
  case round =>
    obtain ⟨k, hk, rfl, ho, hE⟩ := hrel
    by_cases hlt : k < q.length
    · have hq1 := hq.mono hE
      obtain ⟨b, off, rfl, hc⟩ := Reads.elems Rul.enc_len hq1 (by omega)
      obtain ⟨⟨p1, p2, p3, p4⟩, hx⟩ := get_of_lt hlt
      have c0 := hc k _ hx 0 _ rfl
      have c1 := hc k _ hx 1 _ rfl
      have c2 := hc k _ hx 2 _ rfl
      have c3 := hc k _ hx 3 _ rfl
      simp only [Nat.add_zero] at c0
      obtain ⟨d0, d1⟩ := HB.out k _ hx
      simp only at d0 d1
      have HP := Lib.hid (neg_waitP (r := r) (x := ⟨p1, p2, p3, p4⟩) hr d0)
      have HX := Lib.hid hx
      have hflen := fmK_len (waitP r) (·.ev) q k
      obtain ⟨w5, hw5⟩ : ∃ w5, w5 = wr.alloc (.cells #[.int .i64 p1, .int .i64 p2, .int .i64 p3, .int .i64 p4] 78) := ⟨_, rfl⟩
      have E5 : Ext wr w5 := by rw [hw5]; exact (Ext.refl wr).alloc _
      have y1 : w5.cell? ⟨wr.heap.size, 1, none⟩ = some (.int .i64 p2) := by rw [hw5]; simp
      have j0 := hE.cell k0
      have j1 := hE.cell k1
      have j2 := hE.cell k2
      have j3 := hE.cell k3
      have hb0 := block_lt_of_cell j0
      have hE5 := Ext.trans hE E5
      have HC := endOf_ok r _ ⟨p1, p2, p3, p4⟩ w5 hr d0 d1 (Reads.mono (Ext.trans E4' hE5) hv) hl
      obtain ⟨z, hz⟩ : ∃ z, negO (endO r ⟨p1, p2, p3, p4⟩) = z := ⟨_, rfl⟩
      rw [hz] at HC HP
      clear hc hx hq1 hz
      go_wp2_with fail
      rw [← hw5]
      refine HC.mono ?_
      rintro e w6 ⟨rfl, E6⟩
      have y1 := E6.cell y1
      have hE6 := Ext.trans hE5 E6
      have ho1 := (Ext.trans E5 E6).owns ho
      clear j0 j1 j2 j3 c0 c1 c2 c3
      cases hp : waitP r ⟨p1, p2, p3, p4⟩
      case false =>
        have HK := Lib.hid (fmK_no (f := fun x : Rul => x.ev) HX.out hp)
        have hz := HP.out
        rw [hp] at hz
        go_wp2
        go_roundw
        case rel => exact ⟨k + 1, by omega, by go_num, by rw [HK.out]; exact ho1, hE6⟩
        case measure => simp [intOf]; omega
      have HK := Lib.hid (fmK_yes (f := fun x : Rul => x.ev) HX.out hp)
      have hz := HP.out
      rw [hp] at hz
      go_wp2_with (at_builtin; refine wpl_append1 w4 _ rfl _ _ 23 rfl 3 _ 1 8 Try.underlying23 Try.infoInt rfl (by decide) (by decide) _ _ _ hE6 ho1 ?c1 [.int .i64 (p2)] rfl rfl rfl (encI_one _) ?_)
      case c1 => omega
      intro v' w7 o7 E7 _
      go_wp2
      go_roundw
      case rel => exact ⟨k + 1, by omega, by go_num, by rw [HK.out]; simpa [encI] using o7, E7⟩
      case measure => simp [intOf]; omega
    · have HF := Lib.hid ((fmK_all (waitP r) (·.ev) (show q.length ≤ k by omega)).trans HN.out.symm)
      rw [HF.out] at ho
      go_wp2
      go_ret2
      exact ⟨_, rfl, owns_mono ho E4'.size, Ext.trans E4' hE⟩
end Go.Proofs.Ytpmjjkhikciokaa
