/- For all arguments the law FnExactReleaseHold returns true, and its arguments read as they did; no condition. -/
import Derived.Test.YtkbhonafbecbfaaRows
import Derived.Test.YtkbhonafbecbfaaOpenS
import Derived.Test.YtkbhonafbecbfaaOpenN
import Derived.Test.YtkbhonafbecbfaaNestHold
import Derived.Test.YtkbhonafbecbfaaRelS
import Derived.Test.YtkbhonafbecbfaaRelI
import Derived.Test.YtkbhonafbecbfaaMkOwnHold
import Derived.ProofKit
import Derived.OpenShut
import Derived.ShutString
import Derived.ChangeOld
namespace Go.Proofs.Ytkbhonafbecbfaa.fnExactReleaseHold
open Go.ChangeShapes Go.WideShapes Go.ChangeAt Go.RowKit Go.Sort Go.Rd
set_option linter.unusedVariables false

theorem own : ownKnob Try.prog.godebug = none := by kernel_rfl
theorem laidOut : laidOutB Try.prog = true := by kernel_rfl

set_option maxRecDepth 4000 in
set_option maxHeartbeats 4000000 in
theorem walk (x1 : List Hld) (v1 : Value) (x2 : Int) (x3 : Int) (w : World) (h1 : Hld.Rd w v1 x1) (m1 : x1.length ≤ maxLen) (mm1 : ∀ r ∈ x1, r.ss.length ≤ maxLen) :
    Calls Try.prog 3 #[v1, .int .i64 x2, .int .i64 x3] w fun e w' => e = .returned (.bool true) ∧ Ext w w' := by
  obtain ⟨a1, c1, rfl⟩ := h1.shape
  by_cases l1 : (((x1.length + Hld.wt x1) : Nat) : Int) ≤ 1048576
  case neg =>
    have r1 := Lib.hid (szL_gt l1)
    go_enter Try.func3, Try.ntmps3
    go_wp2_with fail
    refine (szHoldS_rd x1 _ (1048576) _ h1 m1 mm1 (by omega) (by omega)).mono ?_
    rintro e wz1 ⟨rfl, Fz1⟩
    have Ez1 := Fz1
    rw [r1.out]
    have zz1 := Fz1.size
    go_wp2
    go_ret
    exact ⟨rfl, Ez1⟩
  have r1 : Hid (szL (1048576) (x1.length + Hld.wt x1) = 1048576 - ((x1.length : Int) + (Hld.wt x1 : Int))) := Lib.hid (by rw [szL_le l1]; omega)
  have p1 : (0 : Int) ≤ 1048576 - ((x1.length : Int) + (Hld.wt x1 : Int)) := by omega
  have n1 : x1.length ≤ 1048576 := by omega
  have nn1 : ∀ r ∈ x1, r.ss.length ≤ 1048576 := fun r hr => by have := Hld.le_wt hr; omega
  go_enter Try.func3, Try.ntmps3
  go_wp2_with fail
  refine (szHoldS_rd x1 _ (1048576) _ h1 m1 mm1 (by omega) (by omega)).mono ?_
  rintro e wz1 ⟨rfl, Fz1⟩
  have Ez1 := Fz1
  rw [r1.out]
  have zz1 := Fz1.size
  go_wp2_with fail
  refine (toHoldS_rd x1 _ _ (Hld.Rd.mono Ez1 h1) n1 nn1).mono ?_
  rintro e w1 ⟨u_oa1, rfl, oa1, F1⟩
  have z1 := F1.size
  have E1 := Ext.trans Ez1 F1
  go_wp2_with fail
  refine (specReleaseHold_ok x1 x2 x3 _ _ (Hld.Own.rd oa1) n1 nn1).mono ?_
  rintro e w2 ⟨vs, rfl, RS, F2⟩
  have z2 := F2.size
  have E2 := Ext.trans E1 F2
  replace oa1 := Hld.Own.ext F2 oa1
  have CS : Ext w2 w2 := Ext.refl _
  have hbd : ((relO x1 x2 x3).getD []).length + Hld.wt ((relO x1 x2 x3).getD []) ≤ 1048576 := by have := relO_bound x1 x2 x3; omega
  have hlen : ((relO x1 x2 x3).getD []).length ≤ 1048576 := by omega
  have hnn : ∀ r ∈ ((relO x1 x2 x3).getD []), r.ss.length ≤ 1048576 := fun r hr => by have := Hld.le_wt hr; omega
  go_wp2_with fail
  refine (toHoldS_rd x1 _ _ (Hld.Rd.mono E2 h1) n1 nn1).mono ?_
  rintro e w3 ⟨u_ox1, rfl, ox1, F3⟩
  have z3 := F3.size
  have E3 := Ext.trans E2 F3
  replace CS := Ext.trans CS F3
  go_wp2_with fail
  refine (releaseHold_ok x1 x2 x3 _ _ (Hld.Own.rd ox1)  n1 nn1).mono ?_
  rintro e w4 ⟨vg, rfl, og, F4⟩
  have z4 := F4.size
  have E4 := Ext.trans E3 F4
  replace ox1 := Hld.Own.ext F4 ox1
  replace CS := Ext.trans CS F4
  go_wp2_with fail
  refine (eqHoldS_rd ((relO x1 x2 x3).getD []) ((relO x1 x2 x3).getD []) _ _ _ (Hld.OwnX.rd og) (Hld.Rd.mono CS RS) hlen hnn).mono ?_
  rintro e w5 ⟨rfl, F5⟩
  have z5 := F5.size
  have E5 := Ext.trans E4 F5
  replace ox1 := Hld.Own.ext F5 ox1
  replace og := Hld.OwnX.ext F5 og
  replace CS := Ext.trans CS F5
  rw [show decide ((relO x1 x2 x3).getD [] = (relO x1 x2 x3).getD []) = true from decide_eq_true rfl]
  go_wp2_with fail
  refine (toHoldS_rd x1 _ _ (Hld.Rd.mono E5 h1) n1 nn1).mono ?_
  rintro e w6 ⟨u_oy1, rfl, oy1, F6⟩
  have z6 := F6.size
  have E6 := Ext.trans E5 F6
  replace ox1 := Hld.Own.ext F6 ox1
  replace og := Hld.OwnX.ext F6 og
  replace CS := Ext.trans CS F6
  go_wp2_with fail
  refine (eqHoldS_rd x1 x1 _ _ _ (Hld.Own.rd ox1) (Hld.Own.rd oy1) n1 nn1).mono ?_
  rintro e w7 ⟨rfl, F7⟩
  have z7 := F7.size
  have E7 := Ext.trans E6 F7
  replace ox1 := Hld.Own.ext F7 ox1
  replace og := Hld.OwnX.ext F7 og
  replace oy1 := Hld.Own.ext F7 oy1
  replace CS := Ext.trans CS F7
  rw [show decide (x1 = x1) = true from decide_eq_true rfl]
  go_wp2_with fail
  refine (markHoldS_rd w2.heap.size w3.heap.size _ _ (1) _ ox1 (by omega) (by omega) (by omega)).mono ?_
  rintro e w8 ⟨kk1, rfl, ka1, kb1, T8⟩
  have z8 := T8.size
  have E8 := Turned.below' T8 E7 (by omega)
  replace og := Hld.OwnX.above T8 og (by omega)
  replace CS := Turned.below' T8 CS (by omega)
  have kpos : ¬ (kk1) < 0 := by omega
  go_wp2_with fail
  refine (eqHoldS_rd ((relO x1 x2 x3).getD []) ((relO x1 x2 x3).getD []) _ _ _ (Hld.OwnX.rd og) (Hld.Rd.mono CS RS) hlen hnn).mono ?_
  rintro e w9 ⟨rfl, F9⟩
  have z9 := F9.size
  have E9 := Ext.trans E8 F9
  replace og := Hld.OwnX.ext F9 og
  replace CS := Ext.trans CS F9
  rw [show decide ((relO x1 x2 x3).getD [] = (relO x1 x2 x3).getD []) = true from decide_eq_true rfl]
  go_wp2_with fail
  refine (markHoldS_own w3.heap.size _ _ 1 _ og hbd (by omega) (by omega)).mono ?_
  rintro e w10 ⟨Lm, rfl, om, T10⟩
  have z10 := T10.size
  have E10 := Turned.below' T10 E9 (by omega)
  replace CS := Turned.below' T10 CS (by omega)
  go_wp2_with fail
  refine (heldHoldS_mk Lm _ 1 _ om (by omega) (by omega)).mono ?_
  rintro e w' ⟨rfl, rfl⟩
  go_wp2_with fail
  refine (toHoldS_rd x1 _ _ (Hld.Rd.mono E10 h1) n1 nn1).mono ?_
  rintro e w11 ⟨u_ob1, rfl, ob1, F11⟩
  have z11 := F11.size
  have E11 := Ext.trans E10 F11
  replace om := MkXHold.ext F11 om
  replace CS := Ext.trans CS F11
  go_wp2_with fail
  refine (releaseHold_ok x1 x2 x3 _ _ (Hld.Own.rd ob1)  n1 nn1).mono ?_
  rintro e w12 ⟨vh, rfl, oh, F12⟩
  have z12 := F12.size
  have E12 := Ext.trans E11 F12
  replace om := MkXHold.ext F12 om
  replace ob1 := Hld.Own.ext F12 ob1
  replace CS := Ext.trans CS F12
  go_wp2_with fail
  refine (eqHoldS_rd ((relO x1 x2 x3).getD []) ((relO x1 x2 x3).getD []) _ _ _ (Hld.OwnX.rd oh) (Hld.Rd.mono CS RS) hlen hnn).mono ?_
  rintro e w13 ⟨rfl, F13⟩
  have z13 := F13.size
  have E13 := Ext.trans E12 F13
  replace om := MkXHold.ext F13 om
  replace oh := Hld.OwnX.ext F13 oh
  replace CS := Ext.trans CS F13
  rw [show decide ((relO x1 x2 x3).getD [] = (relO x1 x2 x3).getD []) = true from decide_eq_true rfl]
  go_wp2_with fail
  refine (heldHoldS_mk Lm _ 1 _ om (by omega) (by omega)).mono ?_
  rintro e w' ⟨rfl, rfl⟩
  go_wp2
  go_ret
  exact ⟨rfl, E13⟩

set_option maxRecDepth 100000 in
theorem lifted (os : Os) (started : os.Started) (H : Type) (enc : TypeId × Value → H) :
    ReturnsInHanded {} Try.checked os 3 .any (Rows.fnExactReleaseHoldSpec.pre6 enc Try.prog Try.f3 Rows.fnExactReleaseHoldRow.domain false) (Rows.fnExactReleaseHoldSpec.post enc Try.prog Try.f3 false true false false) := by
  refine returnsInHanded_of_change (C := Try.checked) own started (by kernel_rfl) Try.func3
    (ChangeSpec.witness6 (enc := enc) (C := Try.checked) false ⟨#[], #[.slice none 0 0, .int .i64 0, .int .i64 0], []⟩ 8 (by kernel_rfl) (by kernel_rfl) (by kernel_rfl) (by kernel_rfl)) ?_
  intro W base args ds gs before hval0 hW hcnd _
  have hval : ∀ (j : Nat) t v, Try.f3.params[j]? = some t → args[j]? = some v → Value.okWide Try.prog W .any base t v := hval0
  have hW' := hW
  obtain ⟨p, q, hA0, hV, rfl, hfz, hnd⟩ := hW
  have hA : DataW.TrodAll enc Try.prog W 0 (fun _ => true) true Try.f3.params.toList args.toList ds p := hA0
  rw [Try.params3] at hA hval
  obtain ⟨v1, vs1, d1, ds1, p1, q1, hargs, rfl, rfl, h1, r1⟩ := trodAll_cons hA
  obtain ⟨v2, vs2, d2, ds2, p2, q2, rfl, rfl, rfl, h2, r2⟩ := trodAll_cons r1
  obtain ⟨v3, vs3, d3, ds3, p3, q3, rfl, rfl, rfl, h3, r3⟩ := trodAll_cons r2
  obtain ⟨rfl, rfl, rfl⟩ := trodAll_nil r3
  obtain rfl : args = #[v1, v2, v3] := by cases args; simp_all
  obtain ⟨rfl, rfl⟩ := trodVars_none hV
  have s1 := okWide_slice Try.underlying22 (hval 0 22 v1 rfl rfl)
  have k1 := h1
  have lt1 : ∀ x ∈ p1, x.block < W.heap.size := by obtain ⟨m, hm⟩ := k1; exact DataW.trod_lt m _ _ _ hm
  obtain ⟨x1, y1, m1, mm1⟩ := openHoldS s1 h1
  obtain ⟨x2, rfl, rfl, rfl, wf2⟩ := open_int Try.underlying3 (hval 1 3 v2 rfl rfl) h2
  obtain ⟨x3, rfl, rfl, rfl, wf3⟩ := open_int Try.underlying3 (hval 2 3 v3 rfl rfl) h3
  clear hA0 hval0
  refine (walk x1 v1 x2 x3 W y1 m1 mm1).mono fun e W' ⟨he, bel⟩ => ?_
  subst he
  exact ⟨_, rfl, _, _, _, [], _, [], hW', trodAll_mk1 (shut_bool Try.underlying4 _), (trodAll_cons_mk (Below.trod laidOut (by kernel_rfl) (of_decide_eq_true (by kernel_rfl)) k1 bel lt1) (trodAll_cons_mk (shut_int Try.underlying3 wf2) (trodAll_cons_mk (shut_int Try.underlying3 wf3) trodAll_mk0))), rfl, bel.frame _, fun h => by cases h⟩

theorem over : Rows.fnExactReleaseHoldRow.holds Try.pinned (OpenSpec.ofChange Rows.fnExactReleaseHoldSpec) :=
  OpenClaim.holds_of_wide 3 Try.f3 rfl rfl rfl rfl rfl rfl rfl ⟨rfl, rfl, rfl, rfl, rfl⟩ rfl rfl rfl rfl rfl (by kernel_rfl) Try.func3 (by kernel_rfl)
    (of_decide_eq_true (by kernel_rfl)) (by unfold Func.isWrapper; first | (rw [if_pos (by decide +kernel)]; kernel_rfl) | (rw [if_neg (by decide +kernel)]; exact ⟨rfl, rfl⟩))
    (fun os started H enc _ => lifted os started H enc)


theorem proved : Rows.FnExactReleaseHoldSaid :=
  over
#print axioms proved
end Go.Proofs.Ytkbhonafbecbfaa.fnExactReleaseHold
