/- For all arguments the law FnExactFirstDueDay returns true, and its arguments read as they did; no condition. -/
import Derived.Test.YtpggimkfdeommaaRows
import Derived.Test.YtpggimkfdeommaaOpenS
import Derived.Test.YtpggimkfdeommaaOpenN
import Derived.Test.YtpggimkfdeommaaNestRecord
import Derived.Test.YtpggimkfdeommaaNestVersion
import Derived.Test.YtpggimkfdeommaaVers4
import Derived.Deep.RegionWith
import Derived.ProofKit
import Derived.OpenShut
import Derived.ShutString
import Derived.ChangeOld
namespace Go.Proofs.Ytpggimkfdeommaa.fnExactFirstDueDay
open Go.ChangeShapes Go.WideShapes Go.ChangeAt Go.RowKit Go.Sort Go.Rd
set_option linter.unusedVariables false

theorem own : ownKnob Try.prog.godebug = none := by kernel_rfl
theorem laidOut : laidOutB Try.prog = true := by kernel_rfl

set_option maxRecDepth 4000 in
set_option maxHeartbeats 4000000 in
theorem walk (x1 : List Ver) (v1 : Value) (x2 : Rec) (s2 : Value) (w : World) (h1 : Ver.Rd w v1 x1) (m1 : x1.length ≤ maxLen) (mm1 : ∀ r ∈ x1, r.rs.length ≤ maxLen) (h2 : Rec.At w (x2, s2)) (m2 : x2.evs.length ≤ maxLen) :
    Calls Try.prog 7 #[v1, .agg #[.int .i64 x2.id, .int .i64 x2.se, .int .i64 x2.ma, s2]] w fun e w' => e = .returned (.bool true) ∧ Ext w w' := by
  obtain ⟨a1, c1, rfl⟩ := h1.shape
  obtain ⟨a2, c2, hs2⟩ := Reads.shape h2
  simp only at hs2
  subst hs2
  obtain ⟨wB, hwB⟩ : ∃ wB, wB = (w.alloc (.cells #[.int .i64 x2.id, .int .i64 x2.se, .int .i64 x2.ma, .slice a2 x2.evs.length c2] 34)) := ⟨_, rfl⟩
  have zB : wB.heap.size = w.heap.size + 1 := by rw [hwB]; simp
  have EzB : Ext w wB := by rw [hwB]; exact (Ext.refl w).alloc _
  have b2_0 : wB.cell? ⟨w.heap.size, 0, none⟩ = some (.int .i64 x2.id) := by rw [hwB]; simp
  have b2_1 : wB.cell? ⟨w.heap.size, 1, none⟩ = some (.int .i64 x2.se) := by rw [hwB]; simp
  have b2_2 : wB.cell? ⟨w.heap.size, 2, none⟩ = some (.int .i64 x2.ma) := by rw [hwB]; simp
  have b2_3 : wB.cell? ⟨w.heap.size, 3, none⟩ = some (.slice a2 x2.evs.length c2) := by rw [hwB]; simp
  by_cases l1 : (((x1.length + Ver.wt x1) : Nat) : Int) ≤ 1048576
  case neg =>
    have r1 := Lib.hid (szL_gt l1)
    go_enter Try.func7, Try.ntmps7
    go_wp2_with fail
    rw [← hwB]; clear hwB
    refine (szVersionS_rd x1 _ (1048576) _ (Ver.Rd.mono EzB h1) m1 mm1 (by omega) (by omega)).mono ?_
    rintro e wz1 ⟨rfl, Fz1⟩
    have Ez1 := Ext.trans EzB Fz1
    rw [r1.out]
    have zz1 := Fz1.size
    replace b2_0 := Fz1.cell b2_0
    replace b2_1 := Fz1.cell b2_1
    replace b2_2 := Fz1.cell b2_2
    replace b2_3 := Fz1.cell b2_3
    go_wp2
    go_ret
    exact ⟨rfl, Ez1⟩
  have r1 : Hid (szL (1048576) (x1.length + Ver.wt x1) = 1048576 - ((x1.length : Int) + (Ver.wt x1 : Int))) := Lib.hid (by rw [szL_le l1]; omega)
  have p1 : (0 : Int) ≤ 1048576 - ((x1.length : Int) + (Ver.wt x1 : Int)) := by omega
  by_cases l2 : ((x2.evs.length : Nat) : Int) ≤ 1048576 - ((x1.length : Int) + (Ver.wt x1 : Int))
  case neg =>
    have r2 := Lib.hid (szL_gt l2)
    go_enter Try.func7, Try.ntmps7
    go_wp2_with fail
    rw [← hwB]; clear hwB
    refine (szVersionS_rd x1 _ (1048576) _ (Ver.Rd.mono EzB h1) m1 mm1 (by omega) (by omega)).mono ?_
    rintro e wz1 ⟨rfl, Fz1⟩
    have Ez1 := Ext.trans EzB Fz1
    rw [r1.out]
    have zz1 := Fz1.size
    replace b2_0 := Fz1.cell b2_0
    replace b2_1 := Fz1.cell b2_1
    replace b2_2 := Fz1.cell b2_2
    replace b2_3 := Fz1.cell b2_3
    go_wp2_with fail
    refine (szRecord_ok x2 _ (1048576 - ((x1.length : Int) + (Ver.wt x1 : Int))) _ (Reads.mono Ez1 h2) m2 (by omega) (by omega)).mono ?_
    rintro e wz2 ⟨rfl, Fz2⟩
    have Ez2 := Ext.trans Ez1 Fz2
    rw [r2.out]
    have zz2 := Fz2.size
    replace b2_0 := Fz2.cell b2_0
    replace b2_1 := Fz2.cell b2_1
    replace b2_2 := Fz2.cell b2_2
    replace b2_3 := Fz2.cell b2_3
    go_wp2
    go_ret
    exact ⟨rfl, Ez2⟩
  have r2 := Lib.hid (szL_le l2)
  have p2 : (0 : Int) ≤ 1048576 - ((x1.length : Int) + (Ver.wt x1 : Int)) - ((x2.evs.length : Nat) : Int) := by omega
  have n1 : x1.length ≤ 1048576 := by omega
  have nn1 : ∀ r ∈ x1, r.rs.length ≤ 1048576 := fun r hr => by have := Ver.le_wt hr; omega
  have n2 : x2.evs.length ≤ 1048576 := by omega
  go_enter Try.func7, Try.ntmps7
  go_wp2_with fail
  rw [← hwB]; clear hwB
  refine (szVersionS_rd x1 _ (1048576) _ (Ver.Rd.mono EzB h1) m1 mm1 (by omega) (by omega)).mono ?_
  rintro e wz1 ⟨rfl, Fz1⟩
  have Ez1 := Ext.trans EzB Fz1
  rw [r1.out]
  have zz1 := Fz1.size
  replace b2_0 := Fz1.cell b2_0
  replace b2_1 := Fz1.cell b2_1
  replace b2_2 := Fz1.cell b2_2
  replace b2_3 := Fz1.cell b2_3
  go_wp2_with fail
  refine (szRecord_ok x2 _ (1048576 - ((x1.length : Int) + (Ver.wt x1 : Int))) _ (Reads.mono Ez1 h2) m2 (by omega) (by omega)).mono ?_
  rintro e wz2 ⟨rfl, Fz2⟩
  have Ez2 := Ext.trans Ez1 Fz2
  rw [r2.out]
  have zz2 := Fz2.size
  replace b2_0 := Fz2.cell b2_0
  replace b2_1 := Fz2.cell b2_1
  replace b2_2 := Fz2.cell b2_2
  replace b2_3 := Fz2.cell b2_3
  go_upto_region 8 with fail
  go_cut [6, 7] (fun c0 c1 wx => c0 = .int .i64 ((firstVO x1 x2).getD 0) ∧ c1 = .bool ((firstVO x1 x2).isSome) ∧ Ext wz2 wx)
  case first =>
    go_region_with (first
      | (go_at_call 14; refine (toVersionS_rd x1 _ _ ?_ n1 nn1).mono ?_; (first | exact Ver.Rd.mono Ez2 h1 | exact Ver.Rd.mono Ez2.drew h1); rintro e wq1 ⟨uq1, rfl, oq1, Fq0⟩; have Fq1 : Ext wz2 wq1 := (by first | exact Fq0 | exact Ext.trans ((Ext.refl wz2).drew) Fq0); have Gq1 := Fq1; have j1_b2_0 := Gq1.cell b2_0; have j1_b2_1 := Gq1.cell b2_1; have j1_b2_2 := Gq1.cell b2_2; have j1_b2_3 := Gq1.cell b2_3)
      | (go_at_call 21; refine (toRecord_ok x2 _ _ ?_ n2).mono ?_; exact Reads.mono (Ext.trans Ez2 Gq1) h2; rintro e wq2 ⟨uq2, rfl, oq2, Fq0⟩; have Fq2 := Fq0; have Gq2 := Ext.trans Gq1 Fq2; have j2_b2_0 := Gq2.cell b2_0; have j2_b2_1 := Gq2.cell b2_1; have j2_b2_2 := Gq2.cell b2_2; have j2_b2_3 := Gq2.cell b2_3)
      | (go_at_call 33; refine (specFirstDueDay_ok x1 x2 _ _ _ ?_ ?_ n1 nn1 n2).mono ?_; exact Ver.Own.rd (Ver.Own.ext Fq2 oq1); exact Reads.of_owns oq2; rintro e wr ⟨rfl, FR⟩))
    all_goals (try go_wp2)
    all_goals go_meet
    all_goals exact ⟨rfl, rfl, Ext.trans Gq2 FR⟩
  case rest =>
  obtain ⟨w1, hw1⟩ : ∃ w', w' = wc := ⟨_, rfl⟩
  subst hw1
  obtain ⟨rfl, rfl, F1⟩ := hcut
  have z1 := F1.size
  have E1 := Ext.trans Ez2 F1
  replace b2_0 := F1.cell b2_0
  replace b2_1 := F1.cell b2_1
  replace b2_2 := F1.cell b2_2
  replace b2_3 := F1.cell b2_3
  go_wp2_with fail
  refine (toVersionS_rd x1 _ _ (Ver.Rd.mono E1 h1) n1 nn1).mono ?_
  rintro e w2 ⟨u_ox1, rfl, ox1, F2⟩
  have z2 := F2.size
  have E2 := Ext.trans E1 F2
  replace b2_0 := F2.cell b2_0
  replace b2_1 := F2.cell b2_1
  replace b2_2 := F2.cell b2_2
  replace b2_3 := F2.cell b2_3
  go_wp2_with fail
  refine (toRecord_ok x2 _ _ (Reads.mono E2 h2) n2).mono ?_
  rintro e w3 ⟨u_ox2, rfl, ox2, F3⟩
  have z3 := F3.size
  have E3 := Ext.trans E2 F3
  replace ox1 := Ver.Own.ext F3 ox1
  replace b2_0 := F3.cell b2_0
  replace b2_1 := F3.cell b2_1
  replace b2_2 := F3.cell b2_2
  replace b2_3 := F3.cell b2_3
  obtain ⟨ca2, cc2, hsu2⟩ := (Reads.of_owns ox2).shape
  subst hsu2
  have qx2 : ∀ j, Value.ownBlock (.slice ca2 x2.evs.length cc2) = some j → j < w3.heap.size := fun j hj => (World.ownsRow.lt ox2 j hj).2
  obtain ⟨w4, hw4⟩ : ∃ w', w' = w3.alloc (.cells #[.int .i64 x2.id, .int .i64 x2.se, .int .i64 x2.ma, .slice ca2 x2.evs.length cc2] 42) := ⟨_, rfl⟩
  have F4 : Ext w3 w4 := by rw [hw4]; exact (Ext.refl _).alloc _
  have zz4 : w4.heap.size = w3.heap.size + 1 := by rw [hw4]; simp
  have z4 := F4.size
  have E4 := Ext.trans E3 F4
  replace ox1 := Ver.Own.ext F4 ox1
  replace ox2 := Ext.owns F4 ox2
  replace b2_0 := F4.cell b2_0
  replace b2_1 := F4.cell b2_1
  replace b2_2 := F4.cell b2_2
  replace b2_3 := F4.cell b2_3
  have x2_0 : w4.cell? ⟨w3.heap.size, 0, none⟩ = some (.int .i64 x2.id) := by rw [hw4]; simp
  have x2_1 : w4.cell? ⟨w3.heap.size, 1, none⟩ = some (.int .i64 x2.se) := by rw [hw4]; simp
  have x2_2 : w4.cell? ⟨w3.heap.size, 2, none⟩ = some (.int .i64 x2.ma) := by rw [hw4]; simp
  have x2_3 : w4.cell? ⟨w3.heap.size, 3, none⟩ = some (.slice ca2 x2.evs.length cc2) := by rw [hw4]; simp
  go_wp2_with fail
  rw [← hw4]; clear hw4
  refine (firstDueDay_ok x1 x2 _ _ _ (Ver.Own.rd ox1) (Reads.of_owns ox2) n1 nn1 n2).mono ?_
  rintro e w5 ⟨rfl, F5⟩
  have z5 := F5.size
  have E5 := Ext.trans E4 F5
  replace ox1 := Ver.Own.ext F5 ox1
  replace ox2 := Ext.owns F5 ox2
  replace b2_0 := F5.cell b2_0
  replace b2_1 := F5.cell b2_1
  replace b2_2 := F5.cell b2_2
  replace b2_3 := F5.cell b2_3
  replace x2_0 := F5.cell x2_0
  replace x2_1 := F5.cell x2_1
  replace x2_2 := F5.cell x2_2
  replace x2_3 := F5.cell x2_3
  go_wp2_with fail
  refine (toVersionS_rd x1 _ _ (Ver.Rd.mono E5 h1) n1 nn1).mono ?_
  rintro e w6 ⟨u_oy1, rfl, oy1, F6⟩
  have z6 := F6.size
  have E6 := Ext.trans E5 F6
  replace ox1 := Ver.Own.ext F6 ox1
  replace ox2 := Ext.owns F6 ox2
  replace b2_0 := F6.cell b2_0
  replace b2_1 := F6.cell b2_1
  replace b2_2 := F6.cell b2_2
  replace b2_3 := F6.cell b2_3
  replace x2_0 := F6.cell x2_0
  replace x2_1 := F6.cell x2_1
  replace x2_2 := F6.cell x2_2
  replace x2_3 := F6.cell x2_3
  go_wp2_with fail
  refine (eqVersionS_rd x1 x1 _ _ _ (Ver.Own.rd ox1) (Ver.Own.rd oy1) n1 nn1).mono ?_
  rintro e w7 ⟨rfl, F7⟩
  have z7 := F7.size
  have E7 := Ext.trans E6 F7
  replace ox1 := Ver.Own.ext F7 ox1
  replace ox2 := Ext.owns F7 ox2
  replace oy1 := Ver.Own.ext F7 oy1
  replace b2_0 := F7.cell b2_0
  replace b2_1 := F7.cell b2_1
  replace b2_2 := F7.cell b2_2
  replace b2_3 := F7.cell b2_3
  replace x2_0 := F7.cell x2_0
  replace x2_1 := F7.cell x2_1
  replace x2_2 := F7.cell x2_2
  replace x2_3 := F7.cell x2_3
  rw [show decide (x1 = x1) = true from decide_eq_true rfl]
  go_upto_region 16 with fail
  go_cut [57] (fun c wx => c = .bool false ∧ Ext w7 wx)
  case first =>
    go_region_with (first
      | (go_at_call 21; refine (toRecord_ok x2 _ _ ?_ n2).mono ?_; (first | exact Reads.mono E7 h2 | exact Reads.mono E7.drew h2); rintro e wq ⟨uq, rfl, oq, Fq0⟩; have Fq : Ext w7 wq := (by first | exact Fq0 | exact Ext.trans ((Ext.refl w7).drew) Fq0); obtain ⟨caq, ccq, hsq⟩ := (Reads.of_owns oq).shape; subst hsq; have j0 := Fq.cell x2_0; have j1 := Fq.cell x2_1; have j2 := Fq.cell x2_2; have j3 := Fq.cell x2_3)
      | (go_at_call 24; refine (eqRecord_ok x2 x2 _ _ _ ?_ ?_ n2).mono ?_; exact Reads.of_owns (Ext.owns Fq ox2); exact Reads.of_owns oq; rintro e wr ⟨rfl, Fr⟩; rw [show decide (x2 = x2) = true from decide_eq_true rfl]))
    all_goals (try go_wp2)
    all_goals go_meet
    all_goals exact ⟨rfl, Ext.trans Fq Fr⟩
  case rest =>
  obtain ⟨w8, hw8⟩ : ∃ w', w' = wc := ⟨_, rfl⟩
  subst hw8
  obtain ⟨rfl, F8⟩ := hcut
  have z8 := F8.size
  have E8 := Ext.trans E7 F8
  replace ox1 := Ver.Own.ext F8 ox1
  replace ox2 := Ext.owns F8 ox2
  replace b2_0 := F8.cell b2_0
  replace b2_1 := F8.cell b2_1
  replace b2_2 := F8.cell b2_2
  replace b2_3 := F8.cell b2_3
  replace x2_0 := F8.cell x2_0
  replace x2_1 := F8.cell x2_1
  replace x2_2 := F8.cell x2_2
  replace x2_3 := F8.cell x2_3
  go_wp2
  go_ret
  exact ⟨rfl, E8⟩

set_option maxRecDepth 100000 in
theorem lifted (os : Os) (started : os.Started) (H : Type) (enc : TypeId × Value → H) :
    ReturnsInHanded {} Try.checked os 7 .any (Rows.fnExactFirstDueDaySpec.pre6 enc Try.prog Try.f7 Rows.fnExactFirstDueDayRow.domain false) (Rows.fnExactFirstDueDaySpec.post enc Try.prog Try.f7 false true false false) := by
  refine returnsInHanded_of_change (C := Try.checked) own started (by kernel_rfl) Try.func7
    (ChangeSpec.witness6 (enc := enc) (C := Try.checked) false ⟨#[], #[.slice none 0 0, .agg #[.int .i64 0, .int .i64 0, .int .i64 0, .slice none 0 0]], []⟩ 8 (by kernel_rfl) (by kernel_rfl) (by kernel_rfl) (by kernel_rfl)) ?_
  intro W base args ds gs before hval0 hW hcnd _
  have hval : ∀ (j : Nat) t v, Try.f7.params[j]? = some t → args[j]? = some v → Value.okWide Try.prog W .any base t v := hval0
  have hW' := hW
  obtain ⟨p, q, hA0, hV, rfl, hfz, hnd⟩ := hW
  have hA : DataW.TrodAll enc Try.prog W 0 (fun _ => true) true Try.f7.params.toList args.toList ds p := hA0
  rw [Try.params7] at hA hval
  obtain ⟨v1, vs1, d1, ds1, p1, q1, hargs, rfl, rfl, h1, r1⟩ := trodAll_cons hA
  obtain ⟨v2, vs2, d2, ds2, p2, q2, rfl, rfl, rfl, h2, r2⟩ := trodAll_cons r1
  obtain ⟨rfl, rfl, rfl⟩ := trodAll_nil r2
  obtain rfl : args = #[v1, v2] := by cases args; simp_all
  obtain ⟨rfl, rfl⟩ := trodVars_none hV
  have s1 := okWide_slice Try.underlying22 (hval 0 22 v1 rfl rfl)
  have k1 := h1
  have lt1 : ∀ x ∈ p1, x.block < W.heap.size := by obtain ⟨m, hm⟩ := k1; exact DataW.trod_lt m _ _ _ hm
  obtain ⟨x1, y1, m1, mm1⟩ := openVersionS s1 h1
  have s2 := okWide_struct Try.underlying34 (hval 1 34 v2 rfl rfl)
  have k2 := h2
  have lt2 : ∀ x ∈ p2, x.block < W.heap.size := by obtain ⟨m, hm⟩ := k2; exact DataW.trod_lt m _ _ _ hm
  obtain ⟨x2, sv2, rfl, y2, m2⟩ := openRecord s2 h2
  clear hA0 hval0
  refine (walk x1 v1 x2 sv2 W y1 m1 mm1 y2 m2).mono fun e W' ⟨he, bel⟩ => ?_
  subst he
  exact ⟨_, rfl, _, _, _, [], _, [], hW', trodAll_mk1 (shut_bool Try.underlying4 _), (trodAll_cons_mk (Below.trod laidOut (by kernel_rfl) (of_decide_eq_true (by kernel_rfl)) k1 bel lt1) (trodAll_cons_mk (Below.trod laidOut (by kernel_rfl) (of_decide_eq_true (by kernel_rfl)) k2 bel lt2) trodAll_mk0)), rfl, bel.frame _, fun h => by cases h⟩

theorem over : Rows.fnExactFirstDueDayRow.holds Try.pinned (OpenSpec.ofChange Rows.fnExactFirstDueDaySpec) :=
  OpenClaim.holds_of_wide 7 Try.f7 rfl rfl rfl rfl rfl rfl rfl ⟨rfl, rfl, rfl, rfl, rfl⟩ rfl rfl rfl rfl rfl (by kernel_rfl) Try.func7 (by kernel_rfl)
    (of_decide_eq_true (by kernel_rfl)) (by unfold Func.isWrapper; first | (rw [if_pos (by decide +kernel)]; kernel_rfl) | (rw [if_neg (by decide +kernel)]; exact ⟨rfl, rfl⟩))
    (fun os started H enc _ => lifted os started H enc)

theorem proved : Rows.FnExactFirstDueDaySaid :=
  over
#print axioms proved
end Go.Proofs.Ytpggimkfdeommaa.fnExactFirstDueDay
