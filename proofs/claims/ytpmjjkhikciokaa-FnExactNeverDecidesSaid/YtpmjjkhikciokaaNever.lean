/- What NeverDecides computes; no condition beyond the lengths that are named. -/
import Derived.Test.YtpmjjkhikciokaaNevData
import Derived.Test.YtpmjjkhikciokaaFlatA2
import Derived.Test.YtpmjjkhikciokaaRules2
import Derived.Test.YtpmjjkhikciokaaSlRule
import Derived.Test.YtpmjjkhikciokaaAppR
import Derived.Test.YtpmjjkhikciokaaBoxL
import Derived.Shelf.Abstract
import Derived.Lib.MinMax
namespace Go.Proofs.Ytpmjjkhikciokaa
open Go.RowKit Go.Sort Go.Rd
set_option maxHeartbeats 400000 in
theorem most_ok (a b : Int) (w : World) : Calls Try.prog 90 #[.int .i64 a, .int .i64 b] w fun e w' => e = .returned (.int .i64 (max a b)) ∧ w = w' := by
  by_cases h : b < a
  · have HR : Hid (max a b = a) := (by omega : max a b = a)
    go_enter Try.func90, Try.ntmps90
    go_wp2
    go_ret
    exact ⟨ret_int HR.out.symm, rfl⟩
  · have HR : Hid (max a b = b) := (by omega : max a b = b)
    go_enter Try.func90, Try.ntmps90
    go_wp2
    go_ret
    exact ⟨ret_int HR.out.symm, rfl⟩
set_option maxHeartbeats 1000000 in
theorem longestPeriod_ok (sch : List Rul) (s : Int) (vs : Value) (w : World) (hg : goodR sch = true) (hvs : Reads w 4 vs sch.length (sch.flatMap Rul.enc)) (hls : sch.length ≤ 1048576) :
    Calls Try.prog 55 #[vs, .int .i64 s] w fun e w' => (∃ ok, e = .returned (.tuple #[.int .i64 (longP sch s), .bool ok])) ∧ Ext w w' := by
  have HLL := Lib.hid (fun (k : Nat) => @longF_all sch s k)
  obtain ⟨P, hP⟩ : ∃ P, longP sch s = P := ⟨_, rfl⟩
  rw [hP] at HLL ⊢
  have HP := Lib.hid hP
  clear hP
  go_enter Try.func55, Try.ntmps55
  go_wp2_with fail
  refine (l4For_ok sch s vs _ hvs hls).mono ?_
  rintro e w1 ⟨v1, rfl, o1, E1⟩
  have hq1 := Reads.of_owns o1
  obtain ⟨a1, cap1, rfl⟩ := hq1.shape
  have hql : (forR sch s).length ≤ 1048576 := Nat.le_trans (forR_length sch s) hls
  go_wp2_with fail
  refine (l4Good_ok sch vs _ (hvs.mono E1) hls).mono ?_
  rintro e w2 ⟨rfl, E2⟩
  rw [hg]
  have hq2 := hq1.mono E2
  have E2' := Ext.trans E1 E2
  obtain ⟨q, hq⟩ : ∃ q, forR sch s = q := ⟨_, rfl⟩
  have HEMP : Hid (q.length = 0 → P = 0) := Lib.hid (fun h => by have := HLL.out 0 (by rw [hq]; omega); rw [← this]; rfl)
  rw [hq] at hq2 hql HLL
  rw [hq]
  clear hq hq1 o1
  by_cases hz : q.length = 0
  case pos =>
    have hz2 : ((q.length : Int) == 0) = true := beq_iff_eq.2 (by omega)
    obtain rfl := HEMP.out hz
    go_wp2
    go_ret2
    exact ⟨⟨_, rfl⟩, E2'⟩
  have hz2 : ((q.length : Int) == 0) = false := beq_eq_false_iff_ne.2 (by omega)
  go_wp2
  go_loopw [7, 8] (fun mv iv wr => ∃ (k : Nat) (m : Int), k ≤ q.length ∧ iv = .int .i64 k ∧ mv = .int .i64 m ∧ Hid (longF q k = m) ∧ Ext w2 wr) (fun _ iv _ => q.length - (intOf iv).toNat)
  case atStart => exact ⟨0, 0, Nat.zero_le _, rfl, rfl, Lib.hid rfl, Ext.refl _⟩
  case round =>
    obtain ⟨k, m, hk, rfl, rfl, HM, hE⟩ := hrel
    by_cases hlt : k < q.length
    · have hq3 := hq2.mono hE
      obtain ⟨b, off, rfl, hc⟩ := Reads.elems Rul.enc_len hq3 (by omega)
      obtain ⟨⟨p1, p2, p3, p4⟩, hx⟩ := get_of_lt hlt
      have c2 := hc k _ hx 2 _ rfl
      have HS := Lib.hid ((longF_step hx).trans (congrArg (fun z => max z p3) HM.out))
      clear hc hx hq3
      go_wp2_with fail
      refine (most_ok m p3 _).mono ?_
      rintro e w' ⟨rfl, rfl⟩
      go_wp2
      go_roundw
      case rel => exact ⟨k + 1, max m p3, by omega, by go_num, rfl, HS, hE⟩
      case measure => simp [intOf]; omega
    · obtain rfl : P = m := by rw [← HLL.out k (by omega)]; exact HM.out
      go_wp2
      go_ret2
      exact ⟨⟨_, rfl⟩, Ext.trans E2' hE⟩
set_option maxHeartbeats 4000000 in
theorem specNeverDecides_ok (sch : List Rul) (vs : Value) (w : World) (hvs : Reads w 4 vs sch.length (sch.flatMap Rul.enc)) (hls : sch.length ≤ 1048576) :
    Calls Try.prog 21 #[vs] w (RetReadB w 2 (nevL sch).length ((nevL sch).flatMap Evt.enc) (goodR sch)) := by
  have e0 : Ext w (w.alloc (.cells #[] 84)) := (Ext.refl w).alloc _
  obtain ⟨a, cap, rfl⟩ := hvs.shape
  obtain ⟨N, hN⟩ : ∃ N, nevL sch = N := ⟨_, rfl⟩
  have HY := Lib.hid (fun h => hN.symm.trans (nevL_yes (sch := sch) h))
  have HF := Lib.hid (fun h => hN.symm.trans (nevL_no (sch := sch) h))
  rw [hN]
  obtain ⟨ok, hok⟩ : ∃ ok, goodR sch = ok := ⟨_, rfl⟩
  have HOK := Lib.hid hok
  rw [hok] at HY HF ⊢
  clear hN hok
  go_enter Try.func21, Try.ntmps21
  go_wp2_with fail
  refine (l4Good_ok sch _ _ (hvs.mono e0) hls).mono ?_
  rintro e w1 ⟨rfl, E1⟩
  rw [HOK.out]
  have E1' := Ext.trans e0 E1
  cases ok
  case false =>
    obtain rfl := HF.out rfl
    go_wp2
    go_ret2
    exact ⟨_, rfl, (OutR.empty w w 84 2 _).reads.mono E1', E1'⟩
  have HN := Lib.hid (HY.out rfl)
  have hg := HOK.out
  clear HY HF HOK
  go_wp2
  go_loopw [4, 5, 6, 7, 8] (fun out i _ _ _ wr => ∃ k : Nat, k ≤ sch.length ∧ i = .int .i64 k ∧ OutR w1 wr 84 2 out (fmG (nevP sch) pairR sch k).length ((fmG (nevP sch) pairR sch k).flatMap Evt.enc) ∧ Ext w1 wr) (fun _ i _ _ _ _ => sch.length - (intOf i).toNat)
  case atStart => exact ⟨0, Nat.zero_le _, rfl, by rw [fmG_zero]; exact OutR.empty _ _ _ _ _, Ext.refl _⟩
  case round =>
    obtain ⟨k, hk, rfl, ho, hE⟩ := hrel
    by_cases hlt : k < sch.length
    · have hE' := Ext.trans E1' hE
      have hv1 := hvs.mono hE'
      obtain ⟨b, off, rfl, hc⟩ := Reads.elems Rul.enc_len hv1 (by omega)
      obtain ⟨⟨p1, p2, p3, p4⟩, hx⟩ := get_of_lt hlt
      have c0 := hc k _ hx 0 _ rfl
      have c1 := hc k _ hx 1 _ rfl
      have c2 := hc k _ hx 2 _ rfl
      have c3 := hc k _ hx 3 _ rfl
      simp only [Nat.add_zero] at c0
      have HX := Lib.hid hx
      have hflen := fmG_len (nevP sch) pairR sch k
      have HPP := Lib.hid (nevP_long (sch := sch) (x := ⟨p1, p2, p3, p4⟩) (rul_dy hg (List.mem_of_getElem? hx)).1)
      simp only at HPP
      obtain ⟨w4, hw4⟩ : ∃ w4, w4 = wr.alloc (.cells #[.int .i64 p1, .int .i64 p2, .int .i64 p3, .int .i64 p4] 78) := ⟨_, rfl⟩
      have E4 : Ext wr w4 := by rw [hw4]; exact (Ext.refl wr).alloc _
      have yb := Box.of_new (cs := [.int .i64 p1, .int .i64 p2, .int .i64 p3, .int .i64 p4]) hw4 rfl
      have HC := longestPeriod_ok sch p1 _ w4 hg (hvs.mono (Ext.trans hE' E4)) hls
      obtain ⟨P, hP⟩ : ∃ P, longP sch p1 = P := ⟨_, rfl⟩
      rw [hP] at HC HPP
      clear hc hx hv1 hP
      go_wp2_with fail
      rw [← hw4]
      refine HC.mono ?_
      rintro e w5 ⟨⟨okL, rfl⟩, E5⟩
      have yb5 := Box.ext E5 yb
      have y0 := yb5.cell 0 rfl
      have y1 := yb5.cell 1 rfl
      have y2 := yb5.cell 2 rfl
      have y3 := yb5.cell 3 rfl
      have E45 := Ext.trans E4 E5
      have hE5 := Ext.trans hE E45
      have ho5 := OutR.ext E45 ho
      clear c0 c1 c2 c3 hw4 HC yb yb5
      obtain ⟨res, hres⟩ : ∃ b, nevP sch ⟨p1, p2, p3, p4⟩ = b := ⟨_, rfl⟩
      rw [hres] at HPP
      have HRES := Lib.hid hres
      clear hres
      go_upto_region 9 with fail
      go_cut [39] (fun c wx => c = .bool res ∧ wx = w5)
      case first =>
        cases hA : (p2 == 0) <;> cases hB : decide (p3 < P)
        all_goals
          have HQ := Lib.hid (HPP.out.symm.trans (by rw [hA, hB]))
          go_wp2
          go_meet
          exact ⟨congrArg Value.bool HQ.out.symm, rfl⟩
      case rest =>
      obtain ⟨rfl, rfl⟩ := hcut
      cases res
      case false =>
        have HK := Lib.hid (fmG_no (f := pairR) HX.out HRES.out)
        go_wp2
        go_roundw
        case rel => exact ⟨k + 1, by omega, by go_num, by rw [HK.out]; exact ho5, hE5⟩
        case measure => simp [intOf]; omega
      have HK := Lib.hid (fmG_yes (f := pairR) HX.out HRES.out)
      go_wp2_with (at_builtin; refine wpl_appendR w1 _ rfl _ _ 35 rfl 84 _ 2 16 Try.underlying35 Try.infoA2 rfl (by decide) (by decide) _ _ _ hE5 ho5 ?c1 [.int .i64 p1, .int .i64 p2] rfl rfl rfl (Evt.one ⟨p1, p2⟩) ?_)
      case c1 => omega
      intro v' w6 o6 E6 _
      go_wp2
      go_roundw
      case rel => exact ⟨k + 1, by omega, by go_num, by rw [HK.out]; simpa [Evt.enc, pairR] using o6, E6⟩
      case measure => simp [intOf]; omega
    · have HF : Hid (fmG (nevP sch) pairR sch k = N) := Lib.hid ((fmG_all _ _ (show sch.length ≤ k by omega)).trans HN.out.symm)
      rw [HF.out] at ho
      go_wp2
      go_ret2
      exact ⟨_, rfl, ho.reads, Ext.trans E1' hE⟩
set_option maxHeartbeats 400000 in
theorem never1_ok (y : Rul) (x : Rul) (b : Nat) (w : World) (h0 : w.cell? ⟨b, 0, none⟩ = some (.int .i64 x.se)) (h2 : w.cell? ⟨b, 2, none⟩ = some (.int .i64 x.dy)) :
    Calls Try.prog 57 #[.agg #[.int .i64 y.se, .int .i64 y.ev, .int .i64 y.dy, .int .i64 y.ac], .pointer (some ⟨b, 0, none⟩)] w fun e w' => e = .returned (.bool (y.se == x.se && decide (x.dy < y.dy))) ∧ Ext w w' := by
  obtain ⟨p1, p2, p3, p4⟩ := y
  have hb := block_lt_of_cell h0
  have hne : b ≠ w.heap.size := by have : b < w.heap.size := hb; omega
  have c0 := cell_alloc h0
  have c2 := cell_alloc h2
  simp only
  cases t1 : (p1 == x.se) <;> cases t2 : decide (x.dy < p3)
  all_goals
    go_enter Try.func57, Try.ntmps57
    go_wp2
    go_ret
    exact ⟨rfl, (Ext.refl _).alloc _⟩
theorem enters_never1 : ∀ args w, (callFunc 57 args).run Try.prog w = .ok (.enter 57 args) w := enters_of Try.func57 (by kernel_rfl) rfl
set_option maxHeartbeats 4000000 in
theorem neverDecides_ok (sch : List Rul) (vs : Value) (w : World) (hvs : Reads w 4 vs sch.length (sch.flatMap Rul.enc)) (hls : sch.length ≤ 1048576) :
    Calls Try.prog 22 #[vs] w (RetOwnB w 84 2 (nevL sch).length ((nevL sch).flatMap Evt.enc) (goodR sch)) := by
  obtain ⟨a, cap, rfl⟩ := hvs.shape
  obtain ⟨N, hN⟩ : ∃ N, nevL sch = N := ⟨_, rfl⟩
  have HY := Lib.hid (fun h => hN.symm.trans (nevL_yes (sch := sch) h))
  have HF := Lib.hid (fun h => hN.symm.trans (nevL_no (sch := sch) h))
  rw [hN]
  obtain ⟨ok, hok⟩ : ∃ ok, goodR sch = ok := ⟨_, rfl⟩
  have HOK := Lib.hid hok
  rw [hok] at HY HF ⊢
  clear hN hok
  go_enter Try.func22, Try.ntmps22
  go_wp2_with fail
  refine (isSchedule_ok sch _ _ hvs hls).mono ?_
  rintro e w1 ⟨rfl, E1⟩
  rw [HOK.out]
  cases ok
  case false =>
    obtain rfl := HF.out rfl
    go_wp2
    go_ret2
    exact ⟨_, rfl, World.ownsRow_nil _ _ _ _, E1⟩
  have HN := Lib.hid (HY.out rfl)
  clear HY HF HOK
  go_wp2
  go_loopw [4, 6, 12] (fun out _ i wr => ∃ k : Nat, k ≤ sch.length ∧ i = .int .i64 k ∧ wr.ownsRow w1.heap.size 84 2 out (fmG (nevP sch) pairR sch k).length ((fmG (nevP sch) pairR sch k).flatMap Evt.enc) ∧ Ext w1 wr) (fun _ _ i _ => sch.length - (intOf i).toNat)
  case atStart => exact ⟨0, Nat.zero_le _, rfl, by rw [fmG_zero]; exact World.ownsRow_nil _ _ _ _, Ext.refl _⟩
  case round =>
    obtain ⟨k, hk, rfl, ho, hE⟩ := hrel
    by_cases hlt : k < sch.length
    · have hE' := Ext.trans E1 hE
      have hv1 := hvs.mono hE'
      obtain ⟨b, off, rfl, hc⟩ := Reads.elems Rul.enc_len hv1 (by omega)
      obtain ⟨⟨p1, p2, p3, p4⟩, hx⟩ := get_of_lt hlt
      have c0 := hc k _ hx 0 _ rfl
      have c1 := hc k _ hx 1 _ rfl
      have c2 := hc k _ hx 2 _ rfl
      have c3 := hc k _ hx 3 _ rfl
      simp only [Nat.add_zero] at c0
      have HX := Lib.hid hx
      have hflen := fmG_len (nevP sch) pairR sch k
      obtain ⟨w4, hw4⟩ : ∃ w4, w4 = wr.alloc (.cells #[.int .i64 p1, .int .i64 p2, .int .i64 p3, .int .i64 p4] 78) := ⟨_, rfl⟩
      have E4 : Ext wr w4 := by rw [hw4]; exact (Ext.refl wr).alloc _
      have yb := Box.of_new (cs := [.int .i64 p1, .int .i64 p2, .int .i64 p3, .int .i64 p4]) hw4 rfl
      have y0 := yb.cell 0 rfl
      have y1 := yb.cell 1 rfl
      have y2 := yb.cell 2 rfl
      have hE4 := Ext.trans hE E4
      have ho4 := E4.owns ho
      have HC := containsFuncRule_ok 57 #[.pointer (some ⟨wr.heap.size, 0, none⟩)] (fun y => y.se == p1 && decide (p3 < y.dy)) sch _ w4 enters_never1 (fun y w' h => never1_ok y ⟨p1, p2, p3, p4⟩ _ w' (h.cell y0) (h.cell y2)) (hvs.mono (Ext.trans hE' E4)) hls
      clear hc hx hv1
      cases hA : (p2 == 0)
      case false =>
        have HK := Lib.hid (fmG_no (p := nevP sch) (f := pairR) HX.out (by simp only [nevP, hA, Bool.false_and]))
        go_upto_region 7 with fail
        rw [← hw4]
        clear c0 c1 c2 c3 hw4 HC
        go_wp2
        go_roundw
        case rel => exact ⟨k + 1, by omega, by go_num, by rw [HK.out]; exact ho4, hE4⟩
        case measure => simp [intOf]; omega
      obtain ⟨res, hres⟩ : ∃ b, (sch.any fun y => y.se == p1 && decide (p3 < y.dy)) = b := ⟨_, rfl⟩
      rw [hres] at HC
      have HRES : Hid (nevP sch ⟨p1, p2, p3, p4⟩ = res) := Lib.hid (by rw [← hres]; simp only [nevP, hA, Bool.true_and])
      clear hres
      go_upto_region 7 with fail
      rw [← hw4]
      clear c0 c1 c2 c3 hw4
      go_wp2_with fail
      refine HC.mono ?_
      rintro e w5 ⟨rfl, E5⟩
      have yb5 := Box.ext E5 yb
      have y0 := yb5.cell 0 rfl
      have y1 := yb5.cell 1 rfl
      have hE5 := Ext.trans hE4 E5
      have ho5 := E5.owns ho4
      cases res
      case false =>
        have HK := Lib.hid (fmG_no (f := pairR) HX.out HRES.out)
        go_wp2
        go_roundw
        case rel => exact ⟨k + 1, by omega, by go_num, by rw [HK.out]; exact ho5, hE5⟩
        case measure => simp [intOf]; omega
      have HK := Lib.hid (fmG_yes (f := pairR) HX.out HRES.out)
      go_wp2_with (at_builtin; refine wpl_append1 w1 _ rfl _ _ 35 rfl 84 _ 2 16 Try.underlying35 Try.infoA2 rfl (by decide) (by decide) _ _ _ hE5 ho5 ?c1 [.int .i64 p1, .int .i64 p2] rfl rfl rfl (Evt.one ⟨p1, p2⟩) ?_)
      case c1 => omega
      intro v' w6 o6 E6 _
      go_wp2
      go_roundw
      case rel => exact ⟨k + 1, by omega, by go_num, by rw [HK.out]; simpa [Evt.enc, pairR] using o6, E6⟩
      case measure => simp [intOf]; omega
    · have HF : Hid (fmG (nevP sch) pairR sch k = N) := Lib.hid ((fmG_all _ _ (show sch.length ≤ k by omega)).trans HN.out.symm)
      rw [HF.out] at ho
      go_wp2
      go_ret2
      exact ⟨_, rfl, owns_mono ho E1.size, Ext.trans E1 hE⟩
end Go.Proofs.Ytpmjjkhikciokaa
