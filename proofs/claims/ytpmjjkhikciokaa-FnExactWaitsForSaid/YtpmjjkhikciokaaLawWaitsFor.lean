/- For all arguments the law FnExactWaitsFor returns true, and its arguments read as they did; no condition. -/
import Derived.Test.YtpmjjkhikciokaaRows
import Derived.Test.YtpmjjkhikciokaaOpenS
import Derived.Test.YtpmjjkhikciokaaOpenN
import Derived.Test.YtpmjjkhikciokaaNestRecord
import Derived.Test.YtpmjjkhikciokaaWaits
import Derived.Deep.RegionWith
import Derived.ProofKit
import Derived.OpenShut
import Derived.ShutString
import Derived.ChangeOld
namespace Go.Proofs.Ytpmjjkhikciokaa.fnExactWaitsFor
open Go.ChangeShapes Go.WideShapes Go.ChangeAt Go.RowKit Go.Sort Go.Rd
set_option linter.unusedVariables false

theorem own : ownKnob Try.prog.godebug = none := by kernel_rfl
theorem laidOut : laidOutB Try.prog = true := by kernel_rfl

set_option maxRecDepth 4000 in
set_option maxHeartbeats 4000000 in
theorem walk (x1 : Rec) (s1 : Value) (x2 : List Rul) (v2 : Value) (w : World) (h1 : Rec.At w (x1, s1)) (m1 : x1.evs.length ≤ maxLen) (h2 : Reads w 4 v2 x2.length (x2.flatMap Rul.enc)) (m2 : x2.length ≤ maxLen) :
    Calls Try.prog 6 #[.agg #[.int .i64 x1.id, .int .i64 x1.se, .int .i64 x1.ma, s1], v2] w fun e w' => e = .returned (.bool true) ∧ Ext w w' := by
  obtain ⟨a1, c1, hs1⟩ := Reads.shape h1
  simp only at hs1
  subst hs1
  obtain ⟨a2, c2, rfl⟩ := h2.shape
  obtain ⟨wB, hwB⟩ : ∃ wB, wB = (w.alloc (.cells #[.int .i64 x1.id, .int .i64 x1.se, .int .i64 x1.ma, .slice a1 x1.evs.length c1] 44)) := ⟨_, rfl⟩
  have zB : wB.heap.size = w.heap.size + 1 := by rw [hwB]; simp
  have EzB : Ext w wB := by rw [hwB]; exact (Ext.refl w).alloc _
  have b1_0 : wB.cell? ⟨w.heap.size, 0, none⟩ = some (.int .i64 x1.id) := by rw [hwB]; simp
  have b1_1 : wB.cell? ⟨w.heap.size, 1, none⟩ = some (.int .i64 x1.se) := by rw [hwB]; simp
  have b1_2 : wB.cell? ⟨w.heap.size, 2, none⟩ = some (.int .i64 x1.ma) := by rw [hwB]; simp
  have b1_3 : wB.cell? ⟨w.heap.size, 3, none⟩ = some (.slice a1 x1.evs.length c1) := by rw [hwB]; simp
  by_cases l1 : ((x1.evs.length : Nat) : Int) ≤ 1048576
  case neg =>
    have r1 := Lib.hid (szL_gt l1)
    go_enter Try.func6, Try.ntmps6
    go_wp2_with fail
    rw [← hwB]; clear hwB
    refine (szRecord_ok x1 _ (1048576) _ (Reads.mono EzB h1) m1 (by omega) (by omega)).mono ?_
    rintro e wz1 ⟨rfl, Fz1⟩
    have Ez1 := Ext.trans EzB Fz1
    rw [r1.out]
    have zz1 := Fz1.size
    replace b1_0 := Fz1.cell b1_0
    replace b1_1 := Fz1.cell b1_1
    replace b1_2 := Fz1.cell b1_2
    replace b1_3 := Fz1.cell b1_3
    go_wp2
    go_ret
    exact ⟨rfl, Ez1⟩
  have r1 := Lib.hid (szL_le l1)
  have p1 : (0 : Int) ≤ 1048576 - ((x1.evs.length : Nat) : Int) := by omega
  by_cases l2 : ((x2.length : Nat) : Int) ≤ 1048576 - ((x1.evs.length : Nat) : Int)
  case neg =>
    have r2 := Lib.hid (szL_gt l2)
    go_enter Try.func6, Try.ntmps6
    go_wp2_with fail
    rw [← hwB]; clear hwB
    refine (szRecord_ok x1 _ (1048576) _ (Reads.mono EzB h1) m1 (by omega) (by omega)).mono ?_
    rintro e wz1 ⟨rfl, Fz1⟩
    have Ez1 := Ext.trans EzB Fz1
    rw [r1.out]
    have zz1 := Fz1.size
    replace b1_0 := Fz1.cell b1_0
    replace b1_1 := Fz1.cell b1_1
    replace b1_2 := Fz1.cell b1_2
    replace b1_3 := Fz1.cell b1_3
    go_wp2_with fail
    refine (szRuleS_ok _ _ _ _ _ m2 (by omega) (by omega)).mono ?_
    rintro e w' ⟨rfl, rfl⟩
    rw [r2.out]
    go_wp2
    go_ret
    exact ⟨rfl, Ez1⟩
  have r2 := Lib.hid (szL_le l2)
  have p2 : (0 : Int) ≤ 1048576 - ((x1.evs.length : Nat) : Int) - ((x2.length : Nat) : Int) := by omega
  have n1 : x1.evs.length ≤ 1048576 := by omega
  have n2 : x2.length ≤ 1048576 := by omega
  go_enter Try.func6, Try.ntmps6
  go_wp2_with fail
  rw [← hwB]; clear hwB
  refine (szRecord_ok x1 _ (1048576) _ (Reads.mono EzB h1) m1 (by omega) (by omega)).mono ?_
  rintro e wz1 ⟨rfl, Fz1⟩
  have Ez1 := Ext.trans EzB Fz1
  rw [r1.out]
  have zz1 := Fz1.size
  replace b1_0 := Fz1.cell b1_0
  replace b1_1 := Fz1.cell b1_1
  replace b1_2 := Fz1.cell b1_2
  replace b1_3 := Fz1.cell b1_3
  go_wp2_with fail
  refine (szRuleS_ok _ _ _ _ _ m2 (by omega) (by omega)).mono ?_
  rintro e w' ⟨rfl, rfl⟩
  rw [r2.out]
  go_wp2_with fail
  refine (toRecord_ok x1 _ _ (Reads.mono Ez1 h1) n1).mono ?_
  rintro e w1 ⟨u_oa1, rfl, oa1, F1⟩
  have z1 := F1.size
  have E1 := Ext.trans Ez1 F1
  replace b1_0 := F1.cell b1_0
  replace b1_1 := F1.cell b1_1
  replace b1_2 := F1.cell b1_2
  replace b1_3 := F1.cell b1_3
  go_wp2_with fail
  refine (toRuleS_ok x2 _ _ (Reads.mono E1 h2) n2).mono ?_
  rintro e w2 ⟨u_oa2, rfl, oa2, F2⟩
  have z2 := F2.size
  have E2 := Ext.trans E1 F2
  replace oa1 := Ext.owns F2 oa1
  replace b1_0 := F2.cell b1_0
  replace b1_1 := F2.cell b1_1
  replace b1_2 := F2.cell b1_2
  replace b1_3 := F2.cell b1_3
  go_wp2_with fail
  refine (specWaitsFor_ok x1 x2 _ _ _ (Reads.of_owns oa1) (Reads.of_owns oa2) n1 n2).mono ?_
  rintro e w3 ⟨vs, rfl, RS, F3⟩
  have z3 := F3.size
  have E3 := Ext.trans E2 F3
  replace oa1 := Ext.owns F3 oa1
  replace oa2 := Ext.owns F3 oa2
  replace b1_0 := F3.cell b1_0
  replace b1_1 := F3.cell b1_1
  replace b1_2 := F3.cell b1_2
  replace b1_3 := F3.cell b1_3
  have CS : Ext w3 w3 := Ext.refl _
  have hlen : (waitL x1 x2).length ≤ 1048576 := Nat.le_trans (waitL_length x1 x2) n2
  go_wp2_with fail
  refine (toRecord_ok x1 _ _ (Reads.mono E3 h1) n1).mono ?_
  rintro e w4 ⟨u_ox1, rfl, ox1, F4⟩
  have z4 := F4.size
  have E4 := Ext.trans E3 F4
  replace CS := Ext.trans CS F4
  replace b1_0 := F4.cell b1_0
  replace b1_1 := F4.cell b1_1
  replace b1_2 := F4.cell b1_2
  replace b1_3 := F4.cell b1_3
  obtain ⟨ca1, cc1, hsu1⟩ := (Reads.of_owns ox1).shape
  subst hsu1
  have qx1 : ∀ j, Value.ownBlock (.slice ca1 x1.evs.length cc1) = some j → j < w4.heap.size := fun j hj => (World.ownsRow.lt ox1 j hj).2
  obtain ⟨w5, hw5⟩ : ∃ w', w' = w4.alloc (.cells #[.int .i64 x1.id, .int .i64 x1.se, .int .i64 x1.ma, .slice ca1 x1.evs.length cc1] 49) := ⟨_, rfl⟩
  have F5 : Ext w4 w5 := by rw [hw5]; exact (Ext.refl _).alloc _
  have zz5 : w5.heap.size = w4.heap.size + 1 := by rw [hw5]; simp
  have z5 := F5.size
  have E5 := Ext.trans E4 F5
  replace ox1 := Ext.owns F5 ox1
  replace CS := Ext.trans CS F5
  replace b1_0 := F5.cell b1_0
  replace b1_1 := F5.cell b1_1
  replace b1_2 := F5.cell b1_2
  replace b1_3 := F5.cell b1_3
  have x1_0 : w5.cell? ⟨w4.heap.size, 0, none⟩ = some (.int .i64 x1.id) := by rw [hw5]; simp
  have x1_1 : w5.cell? ⟨w4.heap.size, 1, none⟩ = some (.int .i64 x1.se) := by rw [hw5]; simp
  have x1_2 : w5.cell? ⟨w4.heap.size, 2, none⟩ = some (.int .i64 x1.ma) := by rw [hw5]; simp
  have x1_3 : w5.cell? ⟨w4.heap.size, 3, none⟩ = some (.slice ca1 x1.evs.length cc1) := by rw [hw5]; simp
  go_wp2_with fail
  rw [← hw5]; clear hw5
  refine (toRuleS_ok x2 _ _ (Reads.mono E5 h2) n2).mono ?_
  rintro e w6 ⟨u_ox2, rfl, ox2, F6⟩
  have z6 := F6.size
  have E6 := Ext.trans E5 F6
  replace ox1 := Ext.owns F6 ox1
  replace CS := Ext.trans CS F6
  replace b1_0 := F6.cell b1_0
  replace b1_1 := F6.cell b1_1
  replace b1_2 := F6.cell b1_2
  replace b1_3 := F6.cell b1_3
  replace x1_0 := F6.cell x1_0
  replace x1_1 := F6.cell x1_1
  replace x1_2 := F6.cell x1_2
  replace x1_3 := F6.cell x1_3
  have qx2 : ∀ j, Value.ownBlock u_ox2 = some j → j < w6.heap.size := fun j hj => (World.ownsRow.lt ox2 j hj).2
  go_wp2_with fail
  refine (waitsFor_ok x1 x2 _ _ _ (Reads.of_owns ox1) (Reads.of_owns ox2) n1 n2).mono ?_
  rintro e w7 ⟨vg, rfl, og, F7⟩
  have z7 := F7.size
  have E7 := Ext.trans E6 F7
  replace ox1 := Ext.owns F7 ox1
  replace ox2 := Ext.owns F7 ox2
  replace CS := Ext.trans CS F7
  replace b1_0 := F7.cell b1_0
  replace b1_1 := F7.cell b1_1
  replace b1_2 := F7.cell b1_2
  replace b1_3 := F7.cell b1_3
  replace x1_0 := F7.cell x1_0
  replace x1_1 := F7.cell x1_1
  replace x1_2 := F7.cell x1_2
  replace x1_3 := F7.cell x1_3
  have qg : ∀ j, Value.ownBlock vg = some j → j < w7.heap.size := fun j hj => (World.ownsRow.lt og j hj).2
  go_wp2_with fail
  refine (eqIntS_ok (waitL x1 x2) (waitL x1 x2) _ _ _ (Reads.of_owns og) (Reads.mono CS RS) (hlen)).mono ?_
  rintro e w8 ⟨rfl, F8⟩
  have z8 := F8.size
  have E8 := Ext.trans E7 F8
  replace ox1 := Ext.owns F8 ox1
  replace ox2 := Ext.owns F8 ox2
  replace og := Ext.owns F8 og
  replace CS := Ext.trans CS F8
  replace b1_0 := F8.cell b1_0
  replace b1_1 := F8.cell b1_1
  replace b1_2 := F8.cell b1_2
  replace b1_3 := F8.cell b1_3
  replace x1_0 := F8.cell x1_0
  replace x1_1 := F8.cell x1_1
  replace x1_2 := F8.cell x1_2
  replace x1_3 := F8.cell x1_3
  rw [show decide (waitL x1 x2 = waitL x1 x2) = true from decide_eq_true rfl]
  go_upto_region 14 with fail
  go_cut [58] (fun c wx => c = .bool false ∧ Ext w8 wx)
  case first =>
    go_region_with (first
      | (go_at_call 30; refine (toRecord_ok x1 _ _ ?_ n1).mono ?_; (first | exact Reads.mono E8 h1 | exact Reads.mono E8.drew h1); rintro e wq ⟨uq, rfl, oq, Fq0⟩; have Fq : Ext w8 wq := (by first | exact Fq0 | exact Ext.trans ((Ext.refl w8).drew) Fq0); obtain ⟨caq, ccq, hsq⟩ := (Reads.of_owns oq).shape; subst hsq; have j0 := Fq.cell x1_0; have j1 := Fq.cell x1_1; have j2 := Fq.cell x1_2; have j3 := Fq.cell x1_3)
      | (go_at_call 32; refine (eqRecord_ok x1 x1 _ _ _ ?_ ?_ n1).mono ?_; exact Reads.of_owns (Ext.owns Fq ox1); exact Reads.of_owns oq; rintro e wr ⟨rfl, Fr⟩; rw [show decide (x1 = x1) = true from decide_eq_true rfl]))
    all_goals (try go_wp2)
    all_goals go_meet
    all_goals exact ⟨rfl, Ext.trans Fq Fr⟩
  case rest =>
  obtain ⟨w9, hw9⟩ : ∃ w', w' = wc := ⟨_, rfl⟩
  subst hw9
  obtain ⟨rfl, F9⟩ := hcut
  have z9 := F9.size
  have E9 := Ext.trans E8 F9
  replace ox1 := Ext.owns F9 ox1
  replace ox2 := Ext.owns F9 ox2
  replace og := Ext.owns F9 og
  replace CS := Ext.trans CS F9
  replace b1_0 := F9.cell b1_0
  replace b1_1 := F9.cell b1_1
  replace b1_2 := F9.cell b1_2
  replace b1_3 := F9.cell b1_3
  replace x1_0 := F9.cell x1_0
  replace x1_1 := F9.cell x1_1
  replace x1_2 := F9.cell x1_2
  replace x1_3 := F9.cell x1_3
  go_wp2_with fail
  refine (toRuleS_ok x2 _ _ (Reads.mono E9 h2) n2).mono ?_
  rintro e w10 ⟨u_oy2, rfl, oy2, F10⟩
  have z10 := F10.size
  have E10 := Ext.trans E9 F10
  replace ox1 := Ext.owns F10 ox1
  replace ox2 := Ext.owns F10 ox2
  replace og := Ext.owns F10 og
  replace CS := Ext.trans CS F10
  replace b1_0 := F10.cell b1_0
  replace b1_1 := F10.cell b1_1
  replace b1_2 := F10.cell b1_2
  replace b1_3 := F10.cell b1_3
  replace x1_0 := F10.cell x1_0
  replace x1_1 := F10.cell x1_1
  replace x1_2 := F10.cell x1_2
  replace x1_3 := F10.cell x1_3
  go_wp2_with fail
  refine (eqRuleS_ok x2 x2 _ _ _ (Reads.of_owns ox2) (Reads.of_owns oy2) n2).mono ?_
  rintro e w11 ⟨rfl, F11⟩
  have z11 := F11.size
  have E11 := Ext.trans E10 F11
  replace ox1 := Ext.owns F11 ox1
  replace ox2 := Ext.owns F11 ox2
  replace og := Ext.owns F11 og
  replace oy2 := Ext.owns F11 oy2
  replace CS := Ext.trans CS F11
  replace b1_0 := F11.cell b1_0
  replace b1_1 := F11.cell b1_1
  replace b1_2 := F11.cell b1_2
  replace b1_3 := F11.cell b1_3
  replace x1_0 := F11.cell x1_0
  replace x1_1 := F11.cell x1_1
  replace x1_2 := F11.cell x1_2
  replace x1_3 := F11.cell x1_3
  rw [show decide (x2 = x2) = true from decide_eq_true rfl]
  go_wp2_with fail
  refine (markRecord_ok w3.heap.size w4.heap.size x1 _ (1) _ ⟨_, ox1⟩ qx1 n1 (by omega) (by omega)).mono ?_
  rintro e w12 ⟨kk1, rfl, ka1, kb1, T12⟩
  have z12 := T12.size
  have E12 := Turned.below' T12 E11 (by omega)
  replace ox2 := owns_above T12 ox2 (by omega)
  replace og := owns_above T12 og (by omega)
  replace CS := Turned.below' T12 CS (by omega)
  replace b1_0 := Turned.cell T12 b1_0 (by omega)
  replace b1_1 := Turned.cell T12 b1_1 (by omega)
  replace b1_2 := Turned.cell T12 b1_2 (by omega)
  replace b1_3 := Turned.cell T12 b1_3 (by omega)
  replace x1_0 := Turned.cell T12 x1_0 (by omega)
  replace x1_1 := Turned.cell T12 x1_1 (by omega)
  replace x1_2 := Turned.cell T12 x1_2 (by omega)
  replace x1_3 := Turned.cell T12 x1_3 (by omega)
  go_wp2_with fail
  refine (markRuleS_ok w5.heap.size w6.heap.size _ _ _ (kk1) _ ox2 qx2 n2 (by omega) (by omega)).mono ?_
  rintro e w13 ⟨rfl, om2, T13⟩
  have z13 := T13.size
  have E13 := Turned.below' T13 E12 (by omega)
  replace og := owns_above T13 og (by omega)
  replace CS := Turned.below' T13 CS (by omega)
  replace b1_0 := Turned.cell T13 b1_0 (by omega)
  replace b1_1 := Turned.cell T13 b1_1 (by omega)
  replace b1_2 := Turned.cell T13 b1_2 (by omega)
  replace b1_3 := Turned.cell T13 b1_3 (by omega)
  replace x1_0 := Turned.cell T13 x1_0 (by omega)
  replace x1_1 := Turned.cell T13 x1_1 (by omega)
  replace x1_2 := Turned.cell T13 x1_2 (by omega)
  replace x1_3 := Turned.cell T13 x1_3 (by omega)
  have kpos : ¬ (kk1 + ((x2.length * 4 : Nat) : Int)) < 0 := by omega
  go_wp2_with fail
  refine (eqIntS_ok (waitL x1 x2) (waitL x1 x2) _ _ _ (Reads.of_owns og) (Reads.mono CS RS) (hlen)).mono ?_
  rintro e w14 ⟨rfl, F14⟩
  have z14 := F14.size
  have E14 := Ext.trans E13 F14
  replace og := Ext.owns F14 og
  replace CS := Ext.trans CS F14
  replace b1_0 := F14.cell b1_0
  replace b1_1 := F14.cell b1_1
  replace b1_2 := F14.cell b1_2
  replace b1_3 := F14.cell b1_3
  replace x1_0 := F14.cell x1_0
  replace x1_1 := F14.cell x1_1
  replace x1_2 := F14.cell x1_2
  replace x1_3 := F14.cell x1_3
  rw [show decide (waitL x1 x2 = waitL x1 x2) = true from decide_eq_true rfl]
  go_wp2_with fail
  refine (markIntS_ok w6.heap.size w7.heap.size _ _ _ 1 _ og qg hlen (by omega) (by omega)).mono ?_
  rintro e w15 ⟨rfl, om, T15⟩
  have z15 := T15.size
  have E15 := Turned.below' T15 E14 (by omega)
  replace CS := Turned.below' T15 CS (by omega)
  replace b1_0 := Turned.cell T15 b1_0 (by omega)
  replace b1_1 := Turned.cell T15 b1_1 (by omega)
  replace b1_2 := Turned.cell T15 b1_2 (by omega)
  replace b1_3 := Turned.cell T15 b1_3 (by omega)
  replace x1_0 := Turned.cell T15 x1_0 (by omega)
  replace x1_1 := Turned.cell T15 x1_1 (by omega)
  replace x1_2 := Turned.cell T15 x1_2 (by omega)
  replace x1_3 := Turned.cell T15 x1_3 (by omega)
  go_wp2_with fail
  refine (heldIntS_ok _ _ 1 _ (Reads.of_owns om) hlen (by omega) (by omega)).mono ?_
  rintro e w' ⟨rfl, rfl⟩
  go_wp2_with fail
  refine (toRecord_ok x1 _ _ (Reads.mono E15 h1) n1).mono ?_
  rintro e w16 ⟨u_ob1, rfl, ob1, F16⟩
  have z16 := F16.size
  have E16 := Ext.trans E15 F16
  replace om := Ext.owns F16 om
  replace CS := Ext.trans CS F16
  replace b1_0 := F16.cell b1_0
  replace b1_1 := F16.cell b1_1
  replace b1_2 := F16.cell b1_2
  replace b1_3 := F16.cell b1_3
  replace x1_0 := F16.cell x1_0
  replace x1_1 := F16.cell x1_1
  replace x1_2 := F16.cell x1_2
  replace x1_3 := F16.cell x1_3
  go_wp2_with fail
  refine (toRuleS_ok x2 _ _ (Reads.mono E16 h2) n2).mono ?_
  rintro e w17 ⟨u_ob2, rfl, ob2, F17⟩
  have z17 := F17.size
  have E17 := Ext.trans E16 F17
  replace om := Ext.owns F17 om
  replace ob1 := Ext.owns F17 ob1
  replace CS := Ext.trans CS F17
  replace b1_0 := F17.cell b1_0
  replace b1_1 := F17.cell b1_1
  replace b1_2 := F17.cell b1_2
  replace b1_3 := F17.cell b1_3
  replace x1_0 := F17.cell x1_0
  replace x1_1 := F17.cell x1_1
  replace x1_2 := F17.cell x1_2
  replace x1_3 := F17.cell x1_3
  go_wp2_with fail
  refine (waitsFor_ok x1 x2 _ _ _ (Reads.of_owns ob1) (Reads.of_owns ob2) n1 n2).mono ?_
  rintro e w18 ⟨vh, rfl, oh, F18⟩
  have z18 := F18.size
  have E18 := Ext.trans E17 F18
  replace om := Ext.owns F18 om
  replace ob1 := Ext.owns F18 ob1
  replace ob2 := Ext.owns F18 ob2
  replace CS := Ext.trans CS F18
  replace b1_0 := F18.cell b1_0
  replace b1_1 := F18.cell b1_1
  replace b1_2 := F18.cell b1_2
  replace b1_3 := F18.cell b1_3
  replace x1_0 := F18.cell x1_0
  replace x1_1 := F18.cell x1_1
  replace x1_2 := F18.cell x1_2
  replace x1_3 := F18.cell x1_3
  go_wp2_with fail
  refine (eqIntS_ok (waitL x1 x2) (waitL x1 x2) _ _ _ (Reads.of_owns oh) (Reads.mono CS RS) (hlen)).mono ?_
  rintro e w19 ⟨rfl, F19⟩
  have z19 := F19.size
  have E19 := Ext.trans E18 F19
  replace om := Ext.owns F19 om
  replace oh := Ext.owns F19 oh
  replace CS := Ext.trans CS F19
  replace b1_0 := F19.cell b1_0
  replace b1_1 := F19.cell b1_1
  replace b1_2 := F19.cell b1_2
  replace b1_3 := F19.cell b1_3
  replace x1_0 := F19.cell x1_0
  replace x1_1 := F19.cell x1_1
  replace x1_2 := F19.cell x1_2
  replace x1_3 := F19.cell x1_3
  rw [show decide (waitL x1 x2 = waitL x1 x2) = true from decide_eq_true rfl]
  go_wp2_with fail
  refine (heldIntS_ok _ _ 1 _ (Reads.of_owns om) hlen (by omega) (by omega)).mono ?_
  rintro e w' ⟨rfl, rfl⟩
  go_wp2
  go_ret
  exact ⟨rfl, E19⟩

set_option maxRecDepth 100000 in
theorem lifted (os : Os) (started : os.Started) (H : Type) (enc : TypeId × Value → H) :
    ReturnsInHanded {} Try.checked os 6 .any (Rows.fnExactWaitsForSpec.pre6 enc Try.prog Try.f6 Rows.fnExactWaitsForRow.domain false) (Rows.fnExactWaitsForSpec.post enc Try.prog Try.f6 false true false false) := by
  refine returnsInHanded_of_change (C := Try.checked) own started (by kernel_rfl) Try.func6
    (ChangeSpec.witness6 (enc := enc) (C := Try.checked) false ⟨#[], #[.agg #[.int .i64 0, .int .i64 0, .int .i64 0, .slice none 0 0], .slice none 0 0], []⟩ 8 (by kernel_rfl) (by kernel_rfl) (by kernel_rfl) (by kernel_rfl)) ?_
  intro W base args ds gs before hval0 hW hcnd _
  have hval : ∀ (j : Nat) t v, Try.f6.params[j]? = some t → args[j]? = some v → Value.okWide Try.prog W .any base t v := hval0
  have hW' := hW
  obtain ⟨p, q, hA0, hV, rfl, hfz, hnd⟩ := hW
  have hA : DataW.TrodAll enc Try.prog W 0 (fun _ => true) true Try.f6.params.toList args.toList ds p := hA0
  rw [Try.params6] at hA hval
  obtain ⟨v1, vs1, d1, ds1, p1, q1, hargs, rfl, rfl, h1, r1⟩ := trodAll_cons hA
  obtain ⟨v2, vs2, d2, ds2, p2, q2, rfl, rfl, rfl, h2, r2⟩ := trodAll_cons r1
  obtain ⟨rfl, rfl, rfl⟩ := trodAll_nil r2
  obtain rfl : args = #[v1, v2] := by cases args; simp_all
  obtain ⟨rfl, rfl⟩ := trodVars_none hV
  have s1 := okWide_struct Try.underlying44 (hval 0 44 v1 rfl rfl)
  have k1 := h1
  have lt1 : ∀ x ∈ p1, x.block < W.heap.size := by obtain ⟨m, hm⟩ := k1; exact DataW.trod_lt m _ _ _ hm
  obtain ⟨x1, sv1, rfl, y1, m1⟩ := openRecord s1 h1
  have s2 := okWide_slice Try.underlying22 (hval 1 22 v2 rfl rfl)
  have k2 := h2
  have lt2 : ∀ x ∈ p2, x.block < W.heap.size := by obtain ⟨m, hm⟩ := k2; exact DataW.trod_lt m _ _ _ hm
  obtain ⟨x2, y2, m2⟩ := openRuleS s2 h2
  clear hA0 hval0
  refine (walk x1 sv1 x2 v2 W y1 m1 y2 m2).mono fun e W' ⟨he, bel⟩ => ?_
  subst he
  exact ⟨_, rfl, _, _, _, [], _, [], hW', trodAll_mk1 (shut_bool Try.underlying4 _), (trodAll_cons_mk (Below.trod laidOut (by kernel_rfl) (of_decide_eq_true (by kernel_rfl)) k1 bel lt1) (trodAll_cons_mk (Below.trod laidOut (by kernel_rfl) (of_decide_eq_true (by kernel_rfl)) k2 bel lt2) trodAll_mk0)), rfl, bel.frame _, fun h => by cases h⟩

theorem over : Rows.fnExactWaitsForRow.holds Try.pinned (OpenSpec.ofChange Rows.fnExactWaitsForSpec) :=
  OpenClaim.holds_of_wide 6 Try.f6 rfl rfl rfl rfl rfl rfl rfl ⟨rfl, rfl, rfl, rfl, rfl⟩ rfl rfl rfl rfl rfl (by kernel_rfl) Try.func6 (by kernel_rfl)
    (of_decide_eq_true (by kernel_rfl)) (by unfold Func.isWrapper; first | (rw [if_pos (by decide +kernel)]; kernel_rfl) | (rw [if_neg (by decide +kernel)]; exact ⟨rfl, rfl⟩))
    (fun os started H enc _ => lifted os started H enc)

theorem proved : Rows.FnExactWaitsForSaid :=
  over
#print axioms proved
end Go.Proofs.Ytpmjjkhikciokaa.fnExactWaitsFor
