/- For all arguments the law FnExactDueAfter returns true, and its arguments read as they did; no condition. -/
import Derived.Test.YtkbhonafbecbfaaRows
import Derived.Test.YtkbhonafbecbfaaOpenS
import Derived.Test.YtkbhonafbecbfaaOpenN
import Derived.Test.YtkbhonafbecbfaaNestRecord
import Derived.Test.YtkbhonafbecbfaaDueAS
import Derived.Test.YtkbhonafbecbfaaDueAI
import Derived.Test.YtkbhonafbecbfaaFlatEvent
import Derived.Deep.RegionWith
import Derived.ProofKit
import Derived.OpenShut
import Derived.ShutString
import Derived.ChangeOld
namespace Go.Proofs.Ytkbhonafbecbfaa.fnExactDueAfter
open Go.ChangeShapes Go.WideShapes Go.ChangeAt Go.RowKit Go.Sort Go.Rd
set_option linter.unusedVariables false

theorem own : ownKnob Try.prog.godebug = none := by kernel_rfl
theorem laidOut : laidOutB Try.prog = true := by kernel_rfl

set_option maxRecDepth 4000 in
set_option maxHeartbeats 4000000 in
theorem walk (x1 : Rec) (s1 : Value) (x2 : List Rul) (v2 : Value) (x3 : Evt) (w : World) (h1 : Rec.At w (x1, s1)) (m1 : x1.evs.length ≤ maxLen) (h2 : Reads w 4 v2 x2.length (x2.flatMap Rul.enc)) (m2 : x2.length ≤ maxLen) :
    Calls Try.prog 7 #[.agg #[.int .i64 x1.id, .int .i64 x1.se, .int .i64 x1.ma, s1], v2, .agg #[.int .i64 x3.ki, .int .i64 x3.dy]] w fun e w' => e = .returned (.bool true) ∧ Ext w w' := by
  obtain ⟨a1, c1, hs1⟩ := Reads.shape h1
  simp only at hs1
  subst hs1
  obtain ⟨a2, c2, rfl⟩ := h2.shape
  obtain ⟨wB, hwB⟩ : ∃ wB, wB = ((w.alloc (.cells #[.int .i64 x1.id, .int .i64 x1.se, .int .i64 x1.ma, .slice a1 x1.evs.length c1] 34)).alloc (.cells #[.int .i64 x3.ki, .int .i64 x3.dy] 78)) := ⟨_, rfl⟩
  have zB : wB.heap.size = w.heap.size + 2 := by rw [hwB]; simp
  have EzB : Ext w wB := by rw [hwB]; exact ((Ext.refl w).alloc _).alloc _
  have b1_0 : wB.cell? ⟨w.heap.size, 0, none⟩ = some (.int .i64 x1.id) := by rw [hwB]; simp
  have b1_1 : wB.cell? ⟨w.heap.size, 1, none⟩ = some (.int .i64 x1.se) := by rw [hwB]; simp
  have b1_2 : wB.cell? ⟨w.heap.size, 2, none⟩ = some (.int .i64 x1.ma) := by rw [hwB]; simp
  have b1_3 : wB.cell? ⟨w.heap.size, 3, none⟩ = some (.slice a1 x1.evs.length c1) := by rw [hwB]; simp
  have b3_0 : wB.cell? ⟨w.heap.size + 1, 0, none⟩ = some (.int .i64 x3.ki) := by rw [hwB]; simp
  have b3_1 : wB.cell? ⟨w.heap.size + 1, 1, none⟩ = some (.int .i64 x3.dy) := by rw [hwB]; simp
  by_cases l1 : ((x1.evs.length : Nat) : Int) ≤ 1048576
  case neg =>
    have r1 := Lib.hid (szL_gt l1)
    go_enter Try.func7, Try.ntmps7
    go_wp2_with fail
    rw [← hwB]; clear hwB
    refine (szRecord_ok x1 _ (1048576) _ (Reads.mono EzB h1) m1 (by omega) (by omega)).mono ?_
    rintro e wz1 ⟨rfl, Fz1⟩
    have Ez1 := Ext.trans EzB Fz1
    rw [r1.out]
    have zz1 := Fz1.size
    replace b1_0 := Fz1.cell b1_0
    replace b1_1 := Fz1.cell b1_1
    replace b1_2 := Fz1.cell b1_2
    replace b1_3 := Fz1.cell b1_3
    replace b3_0 := Fz1.cell b3_0
    replace b3_1 := Fz1.cell b3_1
    go_wp2
    go_ret
    exact ⟨rfl, Ez1⟩
  have r1 := Lib.hid (szL_le l1)
  have p1 : (0 : Int) ≤ 1048576 - ((x1.evs.length : Nat) : Int) := by omega
  by_cases l2 : ((x2.length : Nat) : Int) ≤ 1048576 - ((x1.evs.length : Nat) : Int)
  case neg =>
    have r2 := Lib.hid (szL_gt l2)
    go_enter Try.func7, Try.ntmps7
    go_wp2_with fail
    rw [← hwB]; clear hwB
    refine (szRecord_ok x1 _ (1048576) _ (Reads.mono EzB h1) m1 (by omega) (by omega)).mono ?_
    rintro e wz1 ⟨rfl, Fz1⟩
    have Ez1 := Ext.trans EzB Fz1
    rw [r1.out]
    have zz1 := Fz1.size
    replace b1_0 := Fz1.cell b1_0
    replace b1_1 := Fz1.cell b1_1
    replace b1_2 := Fz1.cell b1_2
    replace b1_3 := Fz1.cell b1_3
    replace b3_0 := Fz1.cell b3_0
    replace b3_1 := Fz1.cell b3_1
    go_wp2_with fail
    refine (szRuleS_ok _ _ _ _ _ m2 (by omega) (by omega)).mono ?_
    rintro e w' ⟨rfl, rfl⟩
    rw [r2.out]
    go_wp2
    go_ret
    exact ⟨rfl, Ez1⟩
  have r2 := Lib.hid (szL_le l2)
  have p2 : (0 : Int) ≤ 1048576 - ((x1.evs.length : Nat) : Int) - ((x2.length : Nat) : Int) := by omega
  have n1 : x1.evs.length ≤ 1048576 := by omega
  have n2 : x2.length ≤ 1048576 := by omega
  go_enter Try.func7, Try.ntmps7
  go_wp2_with fail
  rw [← hwB]; clear hwB
  refine (szRecord_ok x1 _ (1048576) _ (Reads.mono EzB h1) m1 (by omega) (by omega)).mono ?_
  rintro e wz1 ⟨rfl, Fz1⟩
  have Ez1 := Ext.trans EzB Fz1
  rw [r1.out]
  have zz1 := Fz1.size
  replace b1_0 := Fz1.cell b1_0
  replace b1_1 := Fz1.cell b1_1
  replace b1_2 := Fz1.cell b1_2
  replace b1_3 := Fz1.cell b1_3
  replace b3_0 := Fz1.cell b3_0
  replace b3_1 := Fz1.cell b3_1
  go_wp2_with fail
  refine (szRuleS_ok _ _ _ _ _ m2 (by omega) (by omega)).mono ?_
  rintro e w' ⟨rfl, rfl⟩
  rw [r2.out]
  go_upto_region 8 with fail
  go_cut [8, 9] (fun c0 c1 wx => c0 = .int .i64 ((dueAO x1 x2 x3).getD 0) ∧ c1 = .bool ((dueAO x1 x2 x3).isSome) ∧ Ext wz1 wx)
  case first =>
    go_region_with (first
      | (go_at_call 20; refine (toRecord_ok x1 _ _ ?_ n1).mono ?_; (first | exact Reads.mono Ez1 h1 | exact Reads.mono Ez1.drew h1); rintro e wq1 ⟨uq1, rfl, oq1, Fq0⟩; have Fq1 : Ext wz1 wq1 := (by first | exact Fq0 | exact Ext.trans ((Ext.refl wz1).drew) Fq0); have Gq1 := Fq1; have j1_b1_0 := Gq1.cell b1_0; have j1_b1_1 := Gq1.cell b1_1; have j1_b1_2 := Gq1.cell b1_2; have j1_b1_3 := Gq1.cell b1_3; have j1_b3_0 := Gq1.cell b3_0; have j1_b3_1 := Gq1.cell b3_1)
      | (go_at_call 44; refine (toRuleS_ok x2 _ _ ?_ n2).mono ?_; exact Reads.mono (Ext.trans Ez1 Gq1) h2; rintro e wq2 ⟨uq2, rfl, oq2, Fq0⟩; have Fq2 := Fq0; have Gq2 := Ext.trans Gq1 Fq2; have j2_b1_0 := Gq2.cell b1_0; have j2_b1_1 := Gq2.cell b1_1; have j2_b1_2 := Gq2.cell b1_2; have j2_b1_3 := Gq2.cell b1_3; have j2_b3_0 := Gq2.cell b3_0; have j2_b3_1 := Gq2.cell b3_1)
      | (go_at_call 45; refine (toEvent_ok _ _ _).mono ?_; rintro e wq3 ⟨rfl, Fq0⟩; have Fq3 := Fq0; have Gq3 := Ext.trans Gq2 Fq3; have j3_b1_0 := Gq3.cell b1_0; have j3_b1_1 := Gq3.cell b1_1; have j3_b1_2 := Gq3.cell b1_2; have j3_b1_3 := Gq3.cell b1_3; have j3_b3_0 := Gq3.cell b3_0; have j3_b3_1 := Gq3.cell b3_1)
      | (go_at_call 43; refine (specDueAfter_ok x1 x2 x3 _ _ _ ?_ ?_ n1 n2).mono ?_; exact ⟨Reads.of_owns (Ext.owns (Ext.trans Fq2 Fq3) oq1), Room.of_owns oq1⟩; exact Reads.of_owns (Ext.owns Fq3 oq2); rintro e wr ⟨rfl, FR⟩))
    all_goals (try go_wp2)
    all_goals go_meet
    all_goals exact ⟨rfl, rfl, Ext.trans Gq3 FR⟩
  case rest =>
  obtain ⟨w1, hw1⟩ : ∃ w', w' = wc := ⟨_, rfl⟩
  subst hw1
  obtain ⟨rfl, rfl, F1⟩ := hcut
  have z1 := F1.size
  have E1 := Ext.trans Ez1 F1
  replace b1_0 := F1.cell b1_0
  replace b1_1 := F1.cell b1_1
  replace b1_2 := F1.cell b1_2
  replace b1_3 := F1.cell b1_3
  replace b3_0 := F1.cell b3_0
  replace b3_1 := F1.cell b3_1
  go_wp2_with fail
  refine (toRecord_ok x1 _ _ (Reads.mono E1 h1) n1).mono ?_
  rintro e w2 ⟨u_ox1, rfl, ox1, F2⟩
  have z2 := F2.size
  have E2 := Ext.trans E1 F2
  replace b1_0 := F2.cell b1_0
  replace b1_1 := F2.cell b1_1
  replace b1_2 := F2.cell b1_2
  replace b1_3 := F2.cell b1_3
  replace b3_0 := F2.cell b3_0
  replace b3_1 := F2.cell b3_1
  obtain ⟨ca1, cc1, hsu1⟩ := (Reads.of_owns ox1).shape
  subst hsu1
  have qx1 : ∀ j, Value.ownBlock (.slice ca1 x1.evs.length cc1) = some j → j < w2.heap.size := fun j hj => (World.ownsRow.lt ox1 j hj).2
  obtain ⟨w3, hw3⟩ : ∃ w', w' = w2.alloc (.cells #[.int .i64 x1.id, .int .i64 x1.se, .int .i64 x1.ma, .slice ca1 x1.evs.length cc1] 45) := ⟨_, rfl⟩
  have F3 : Ext w2 w3 := by rw [hw3]; exact (Ext.refl _).alloc _
  have zz3 : w3.heap.size = w2.heap.size + 1 := by rw [hw3]; simp
  have z3 := F3.size
  have E3 := Ext.trans E2 F3
  replace ox1 := Ext.owns F3 ox1
  replace b1_0 := F3.cell b1_0
  replace b1_1 := F3.cell b1_1
  replace b1_2 := F3.cell b1_2
  replace b1_3 := F3.cell b1_3
  replace b3_0 := F3.cell b3_0
  replace b3_1 := F3.cell b3_1
  have x1_0 : w3.cell? ⟨w2.heap.size, 0, none⟩ = some (.int .i64 x1.id) := by rw [hw3]; simp
  have x1_1 : w3.cell? ⟨w2.heap.size, 1, none⟩ = some (.int .i64 x1.se) := by rw [hw3]; simp
  have x1_2 : w3.cell? ⟨w2.heap.size, 2, none⟩ = some (.int .i64 x1.ma) := by rw [hw3]; simp
  have x1_3 : w3.cell? ⟨w2.heap.size, 3, none⟩ = some (.slice ca1 x1.evs.length cc1) := by rw [hw3]; simp
  go_wp2_with fail
  rw [← hw3]; clear hw3
  refine (toRuleS_ok x2 _ _ (Reads.mono E3 h2) n2).mono ?_
  rintro e w4 ⟨u_ox2, rfl, ox2, F4⟩
  have z4 := F4.size
  have E4 := Ext.trans E3 F4
  replace ox1 := Ext.owns F4 ox1
  replace b1_0 := F4.cell b1_0
  replace b1_1 := F4.cell b1_1
  replace b1_2 := F4.cell b1_2
  replace b1_3 := F4.cell b1_3
  replace b3_0 := F4.cell b3_0
  replace b3_1 := F4.cell b3_1
  replace x1_0 := F4.cell x1_0
  replace x1_1 := F4.cell x1_1
  replace x1_2 := F4.cell x1_2
  replace x1_3 := F4.cell x1_3
  have qx2 : ∀ j, Value.ownBlock u_ox2 = some j → j < w4.heap.size := fun j hj => (World.ownsRow.lt ox2 j hj).2
  go_upto_region 11 with fail
  go_cut [12, 13] (fun c0 c1 wx => c0 = .int .i64 ((dueAO x1 x2 x3).getD 0) ∧ c1 = .bool ((dueAO x1 x2 x3).isSome) ∧ Ext w4 wx)
  case first =>
    go_region_with (first
      | (go_at_call 45; refine (toEvent_ok _ _ _).mono ?_; rintro e wq1 ⟨rfl, Fq0⟩; have Gq1 : Ext w4 wq1 := (by first | exact Fq0 | exact Ext.trans ((Ext.refl w4).drew) Fq0); have j1_b1_0 := Gq1.cell b1_0; have j1_b1_1 := Gq1.cell b1_1; have j1_b1_2 := Gq1.cell b1_2; have j1_b1_3 := Gq1.cell b1_3; have j1_b3_0 := Gq1.cell b3_0; have j1_b3_1 := Gq1.cell b3_1; have j1_x1_0 := Gq1.cell x1_0; have j1_x1_1 := Gq1.cell x1_1; have j1_x1_2 := Gq1.cell x1_2; have j1_x1_3 := Gq1.cell x1_3)
      | (go_at_call 46; refine (dueAfter_ok x1 x2 x3 _ _ _ ?_ ?_ n1 n2).mono ?_; exact ⟨Reads.of_owns (Ext.owns Gq1 ox1), Room.of_owns ox1⟩; exact Reads.of_owns (Ext.owns Gq1 ox2); rintro e wr ⟨rfl, FR⟩))
    all_goals (try go_wp2)
    all_goals go_meet
    all_goals exact ⟨rfl, rfl, Ext.trans Gq1 FR⟩
  case rest =>
  obtain ⟨w5, hw5⟩ : ∃ w', w' = wc := ⟨_, rfl⟩
  subst hw5
  obtain ⟨rfl, rfl, F5⟩ := hcut
  have z5 := F5.size
  have E5 := Ext.trans E4 F5
  replace ox1 := Ext.owns F5 ox1
  replace ox2 := Ext.owns F5 ox2
  replace b1_0 := F5.cell b1_0
  replace b1_1 := F5.cell b1_1
  replace b1_2 := F5.cell b1_2
  replace b1_3 := F5.cell b1_3
  replace b3_0 := F5.cell b3_0
  replace b3_1 := F5.cell b3_1
  replace x1_0 := F5.cell x1_0
  replace x1_1 := F5.cell x1_1
  replace x1_2 := F5.cell x1_2
  replace x1_3 := F5.cell x1_3
  go_upto_region 14 with fail
  go_cut [58] (fun c wx => c = .bool false ∧ Ext w5 wx)
  case first =>
    go_region_with (first
      | (go_at_call 20; refine (toRecord_ok x1 _ _ ?_ n1).mono ?_; (first | exact Reads.mono E5 h1 | exact Reads.mono E5.drew h1); rintro e wq ⟨uq, rfl, oq, Fq0⟩; have Fq : Ext w5 wq := (by first | exact Fq0 | exact Ext.trans ((Ext.refl w5).drew) Fq0); obtain ⟨caq, ccq, hsq⟩ := (Reads.of_owns oq).shape; subst hsq; have j0 := Fq.cell x1_0; have j1 := Fq.cell x1_1; have j2 := Fq.cell x1_2; have j3 := Fq.cell x1_3)
      | (go_at_call 24; refine (eqRecord_ok x1 x1 _ _ _ ?_ ?_ n1).mono ?_; exact Reads.of_owns (Ext.owns Fq ox1); exact Reads.of_owns oq; rintro e wr ⟨rfl, Fr⟩; rw [show decide (x1 = x1) = true from decide_eq_true rfl]))
    all_goals (try go_wp2)
    all_goals go_meet
    all_goals exact ⟨rfl, Ext.trans Fq Fr⟩
  case rest =>
  obtain ⟨w6, hw6⟩ : ∃ w', w' = wc := ⟨_, rfl⟩
  subst hw6
  obtain ⟨rfl, F6⟩ := hcut
  have z6 := F6.size
  have E6 := Ext.trans E5 F6
  replace ox1 := Ext.owns F6 ox1
  replace ox2 := Ext.owns F6 ox2
  replace b1_0 := F6.cell b1_0
  replace b1_1 := F6.cell b1_1
  replace b1_2 := F6.cell b1_2
  replace b1_3 := F6.cell b1_3
  replace b3_0 := F6.cell b3_0
  replace b3_1 := F6.cell b3_1
  replace x1_0 := F6.cell x1_0
  replace x1_1 := F6.cell x1_1
  replace x1_2 := F6.cell x1_2
  replace x1_3 := F6.cell x1_3
  go_wp2_with fail
  refine (toRuleS_ok x2 _ _ (Reads.mono E6 h2) n2).mono ?_
  rintro e w7 ⟨u_oy2, rfl, oy2, F7⟩
  have z7 := F7.size
  have E7 := Ext.trans E6 F7
  replace ox1 := Ext.owns F7 ox1
  replace ox2 := Ext.owns F7 ox2
  replace b1_0 := F7.cell b1_0
  replace b1_1 := F7.cell b1_1
  replace b1_2 := F7.cell b1_2
  replace b1_3 := F7.cell b1_3
  replace b3_0 := F7.cell b3_0
  replace b3_1 := F7.cell b3_1
  replace x1_0 := F7.cell x1_0
  replace x1_1 := F7.cell x1_1
  replace x1_2 := F7.cell x1_2
  replace x1_3 := F7.cell x1_3
  go_wp2_with fail
  refine (eqRuleS_ok x2 x2 _ _ _ (Reads.of_owns ox2) (Reads.of_owns oy2) n2).mono ?_
  rintro e w8 ⟨rfl, F8⟩
  have z8 := F8.size
  have E8 := Ext.trans E7 F8
  replace ox1 := Ext.owns F8 ox1
  replace ox2 := Ext.owns F8 ox2
  replace oy2 := Ext.owns F8 oy2
  replace b1_0 := F8.cell b1_0
  replace b1_1 := F8.cell b1_1
  replace b1_2 := F8.cell b1_2
  replace b1_3 := F8.cell b1_3
  replace b3_0 := F8.cell b3_0
  replace b3_1 := F8.cell b3_1
  replace x1_0 := F8.cell x1_0
  replace x1_1 := F8.cell x1_1
  replace x1_2 := F8.cell x1_2
  replace x1_3 := F8.cell x1_3
  rw [show decide (x2 = x2) = true from decide_eq_true rfl]
  go_wp2
  go_ret
  exact ⟨rfl, E8⟩

set_option maxRecDepth 100000 in
theorem lifted (os : Os) (started : os.Started) (H : Type) (enc : TypeId × Value → H) :
    ReturnsInHanded {} Try.checked os 7 .any (Rows.fnExactDueAfterSpec.pre6 enc Try.prog Try.f7 Rows.fnExactDueAfterRow.domain false) (Rows.fnExactDueAfterSpec.post enc Try.prog Try.f7 false true false false) := by
  refine returnsInHanded_of_change (C := Try.checked) own started (by kernel_rfl) Try.func7
    (ChangeSpec.witness6 (enc := enc) (C := Try.checked) false ⟨#[], #[.agg #[.int .i64 0, .int .i64 0, .int .i64 0, .slice none 0 0], .slice none 0 0, .agg #[.int .i64 0, .int .i64 0]], []⟩ 8 (by kernel_rfl) (by kernel_rfl) (by kernel_rfl) (by kernel_rfl)) ?_
  intro W base args ds gs before hval0 hW hcnd _
  have hval : ∀ (j : Nat) t v, Try.f7.params[j]? = some t → args[j]? = some v → Value.okWide Try.prog W .any base t v := hval0
  have hW' := hW
  obtain ⟨p, q, hA0, hV, rfl, hfz, hnd⟩ := hW
  have hA : DataW.TrodAll enc Try.prog W 0 (fun _ => true) true Try.f7.params.toList args.toList ds p := hA0
  rw [Try.params7] at hA hval
  obtain ⟨v1, vs1, d1, ds1, p1, q1, hargs, rfl, rfl, h1, r1⟩ := trodAll_cons hA
  obtain ⟨v2, vs2, d2, ds2, p2, q2, rfl, rfl, rfl, h2, r2⟩ := trodAll_cons r1
  obtain ⟨v3, vs3, d3, ds3, p3, q3, rfl, rfl, rfl, h3, r3⟩ := trodAll_cons r2
  obtain ⟨rfl, rfl, rfl⟩ := trodAll_nil r3
  obtain rfl : args = #[v1, v2, v3] := by cases args; simp_all
  obtain ⟨rfl, rfl⟩ := trodVars_none hV
  have s1 := okWide_struct Try.underlying34 (hval 0 34 v1 rfl rfl)
  have k1 := h1
  have lt1 : ∀ x ∈ p1, x.block < W.heap.size := by obtain ⟨m, hm⟩ := k1; exact DataW.trod_lt m _ _ _ hm
  obtain ⟨x1, sv1, rfl, y1, m1⟩ := openRecord s1 h1
  have s2 := okWide_slice Try.underlying51 (hval 1 51 v2 rfl rfl)
  have k2 := h2
  have lt2 : ∀ x ∈ p2, x.block < W.heap.size := by obtain ⟨m, hm⟩ := k2; exact DataW.trod_lt m _ _ _ hm
  obtain ⟨x2, y2, m2⟩ := openRuleS s2 h2
  have s3 := okWide_struct Try.underlying78 (hval 2 78 v3 rfl rfl)
  have k3 := h3
  have lt3 : ∀ x ∈ p3, x.block < W.heap.size := by obtain ⟨m, hm⟩ := k3; exact DataW.trod_lt m _ _ _ hm
  obtain ⟨x3, rfl⟩ := openEvent s3 h3
  clear hA0 hval0
  refine (walk x1 sv1 x2 v2 x3 W y1 m1 y2 m2).mono fun e W' ⟨he, bel⟩ => ?_
  subst he
  exact ⟨_, rfl, _, _, _, [], _, [], hW', trodAll_mk1 (shut_bool Try.underlying4 _), (trodAll_cons_mk (Below.trod laidOut (by kernel_rfl) (of_decide_eq_true (by kernel_rfl)) k1 bel lt1) (trodAll_cons_mk (Below.trod laidOut (by kernel_rfl) (of_decide_eq_true (by kernel_rfl)) k2 bel lt2) (trodAll_cons_mk (Below.trod laidOut (by kernel_rfl) (of_decide_eq_true (by kernel_rfl)) k3 bel lt3) trodAll_mk0))), rfl, bel.frame _, fun h => by cases h⟩

theorem over : Rows.fnExactDueAfterRow.holds Try.pinned (OpenSpec.ofChange Rows.fnExactDueAfterSpec) :=
  OpenClaim.holds_of_wide 7 Try.f7 rfl rfl rfl rfl rfl rfl rfl ⟨rfl, rfl, rfl, rfl, rfl⟩ rfl rfl rfl rfl rfl (by kernel_rfl) Try.func7 (by kernel_rfl)
    (of_decide_eq_true (by kernel_rfl)) (by unfold Func.isWrapper; first | (rw [if_pos (by decide +kernel)]; kernel_rfl) | (rw [if_neg (by decide +kernel)]; exact ⟨rfl, rfl⟩))
    (fun os started H enc _ => lifted os started H enc)


theorem proved : Rows.FnExactDueAfterSaid :=
  over
#print axioms proved
end Go.Proofs.Ytkbhonafbecbfaa.fnExactDueAfter
