/- For all arguments the law FnExactChangedSeries returns true, and its arguments read as they did; no condition. -/
import Derived.Test.YtkbhonafbecbfaaRows
import Derived.Test.YtkbhonafbecbfaaOpenS
import Derived.Test.YtkbhonafbecbfaaOpenN
import Derived.Test.YtkbhonafbecbfaaNestVersion
import Derived.Test.YtkbhonafbecbfaaChg
import Derived.ProofKit
import Derived.OpenShut
import Derived.ShutString
import Derived.ChangeOld
namespace Go.Proofs.Ytkbhonafbecbfaa.fnExactChangedSeries
open Go.ChangeShapes Go.WideShapes Go.ChangeAt Go.RowKit Go.Sort Go.Rd
set_option linter.unusedVariables false

theorem own : ownKnob Try.prog.godebug = none := by kernel_rfl
theorem laidOut : laidOutB Try.prog = true := by kernel_rfl

set_option maxRecDepth 4000 in
set_option maxHeartbeats 4000000 in
theorem walk (x1 : List Ver) (v1 : Value) (x2 : Int) (w : World) (h1 : Ver.Rd w v1 x1) (m1 : x1.length ≤ maxLen) (mm1 : ∀ r ∈ x1, r.rs.length ≤ maxLen) :
    Calls Try.prog 8 #[v1, .int .i64 x2] w fun e w' => e = .returned (.bool true) ∧ Ext w w' := by
  obtain ⟨a1, c1, rfl⟩ := h1.shape
  by_cases l1 : (((x1.length + Ver.wt x1) : Nat) : Int) ≤ 1048576
  case neg =>
    have r1 := Lib.hid (szL_gt l1)
    go_enter Try.func8, Try.ntmps8
    go_wp2_with fail
    refine (szVersionS_rd x1 _ (1048576) _ h1 m1 mm1 (by omega) (by omega)).mono ?_
    rintro e wz1 ⟨rfl, Fz1⟩
    have Ez1 := Fz1
    rw [r1.out]
    have zz1 := Fz1.size
    go_wp2
    go_ret
    exact ⟨rfl, Ez1⟩
  have r1 : Hid (szL (1048576) (x1.length + Ver.wt x1) = 1048576 - ((x1.length : Int) + (Ver.wt x1 : Int))) := Lib.hid (by rw [szL_le l1]; omega)
  have p1 : (0 : Int) ≤ 1048576 - ((x1.length : Int) + (Ver.wt x1 : Int)) := by omega
  have n1 : x1.length ≤ 1048576 := by omega
  have nn1 : ∀ r ∈ x1, r.rs.length ≤ 1048576 := fun r hr => by have := Ver.le_wt hr; omega
  go_enter Try.func8, Try.ntmps8
  go_wp2_with fail
  refine (szVersionS_rd x1 _ (1048576) _ h1 m1 mm1 (by omega) (by omega)).mono ?_
  rintro e wz1 ⟨rfl, Fz1⟩
  have Ez1 := Fz1
  rw [r1.out]
  have zz1 := Fz1.size
  go_wp2_with fail
  refine (toVersionS_rd x1 _ _ (Ver.Rd.mono Ez1 h1) n1 nn1).mono ?_
  rintro e w1 ⟨u_oa1, rfl, oa1, F1⟩
  have z1 := F1.size
  have E1 := Ext.trans Ez1 F1
  go_wp2_with fail
  refine (specChangedSeries_ok x1 x2 _ _ (Ver.Own.rd oa1) n1 nn1).mono ?_
  rintro e w2 ⟨vs, rfl, RS, F2⟩
  have z2 := F2.size
  have E2 := Ext.trans E1 F2
  replace oa1 := Ver.Own.ext F2 oa1
  have CS : Ext w2 w2 := Ext.refl _
  have hlen : (chgL x1 x2).length ≤ 1048576 := Nat.le_trans (chgL_length x1 x2) (by omega)
  go_wp2_with fail
  refine (toVersionS_rd x1 _ _ (Ver.Rd.mono E2 h1) n1 nn1).mono ?_
  rintro e w3 ⟨u_ox1, rfl, ox1, F3⟩
  have z3 := F3.size
  have E3 := Ext.trans E2 F3
  replace CS := Ext.trans CS F3
  go_wp2_with fail
  refine (changedSeries_ok x1 x2 _ _ (Ver.Own.rd ox1)  n1 nn1).mono ?_
  rintro e w4 ⟨vg, rfl, og, F4⟩
  have z4 := F4.size
  have E4 := Ext.trans E3 F4
  replace ox1 := Ver.Own.ext F4 ox1
  replace CS := Ext.trans CS F4
  have qg : ∀ j, Value.ownBlock vg = some j → j < w4.heap.size := fun j hj => (World.ownsRow.lt og j hj).2
  go_wp2_with fail
  refine (eqIntS_ok (chgL x1 x2) (chgL x1 x2) _ _ _ (Reads.of_owns og) (Reads.mono CS RS) (hlen)).mono ?_
  rintro e w5 ⟨rfl, F5⟩
  have z5 := F5.size
  have E5 := Ext.trans E4 F5
  replace ox1 := Ver.Own.ext F5 ox1
  replace og := Ext.owns F5 og
  replace CS := Ext.trans CS F5
  rw [show decide (chgL x1 x2 = chgL x1 x2) = true from decide_eq_true rfl]
  go_wp2_with fail
  refine (toVersionS_rd x1 _ _ (Ver.Rd.mono E5 h1) n1 nn1).mono ?_
  rintro e w6 ⟨u_oy1, rfl, oy1, F6⟩
  have z6 := F6.size
  have E6 := Ext.trans E5 F6
  replace ox1 := Ver.Own.ext F6 ox1
  replace og := Ext.owns F6 og
  replace CS := Ext.trans CS F6
  go_wp2_with fail
  refine (eqVersionS_rd x1 x1 _ _ _ (Ver.Own.rd ox1) (Ver.Own.rd oy1) n1 nn1).mono ?_
  rintro e w7 ⟨rfl, F7⟩
  have z7 := F7.size
  have E7 := Ext.trans E6 F7
  replace ox1 := Ver.Own.ext F7 ox1
  replace og := Ext.owns F7 og
  replace oy1 := Ver.Own.ext F7 oy1
  replace CS := Ext.trans CS F7
  rw [show decide (x1 = x1) = true from decide_eq_true rfl]
  go_wp2_with fail
  refine (markVersionS_rd w2.heap.size w3.heap.size _ _ (1) _ ox1 (by omega) (by omega) (by omega)).mono ?_
  rintro e w8 ⟨kk1, rfl, ka1, kb1, T8⟩
  have z8 := T8.size
  have E8 := Turned.below' T8 E7 (by omega)
  replace og := owns_above T8 og (by omega)
  replace CS := Turned.below' T8 CS (by omega)
  have kpos : ¬ (kk1) < 0 := by omega
  go_wp2_with fail
  refine (eqIntS_ok (chgL x1 x2) (chgL x1 x2) _ _ _ (Reads.of_owns og) (Reads.mono CS RS) (hlen)).mono ?_
  rintro e w9 ⟨rfl, F9⟩
  have z9 := F9.size
  have E9 := Ext.trans E8 F9
  replace og := Ext.owns F9 og
  replace CS := Ext.trans CS F9
  rw [show decide (chgL x1 x2 = chgL x1 x2) = true from decide_eq_true rfl]
  go_wp2_with fail
  refine (markIntS_ok w3.heap.size w4.heap.size _ _ _ 1 _ og qg hlen (by omega) (by omega)).mono ?_
  rintro e w10 ⟨rfl, om, T10⟩
  have z10 := T10.size
  have E10 := Turned.below' T10 E9 (by omega)
  replace CS := Turned.below' T10 CS (by omega)
  go_wp2_with fail
  refine (heldIntS_ok _ _ 1 _ (Reads.of_owns om) hlen (by omega) (by omega)).mono ?_
  rintro e w' ⟨rfl, rfl⟩
  go_wp2_with fail
  refine (toVersionS_rd x1 _ _ (Ver.Rd.mono E10 h1) n1 nn1).mono ?_
  rintro e w11 ⟨u_ob1, rfl, ob1, F11⟩
  have z11 := F11.size
  have E11 := Ext.trans E10 F11
  replace om := Ext.owns F11 om
  replace CS := Ext.trans CS F11
  go_wp2_with fail
  refine (changedSeries_ok x1 x2 _ _ (Ver.Own.rd ob1)  n1 nn1).mono ?_
  rintro e w12 ⟨vh, rfl, oh, F12⟩
  have z12 := F12.size
  have E12 := Ext.trans E11 F12
  replace om := Ext.owns F12 om
  replace ob1 := Ver.Own.ext F12 ob1
  replace CS := Ext.trans CS F12
  go_wp2_with fail
  refine (eqIntS_ok (chgL x1 x2) (chgL x1 x2) _ _ _ (Reads.of_owns oh) (Reads.mono CS RS) (hlen)).mono ?_
  rintro e w13 ⟨rfl, F13⟩
  have z13 := F13.size
  have E13 := Ext.trans E12 F13
  replace om := Ext.owns F13 om
  replace oh := Ext.owns F13 oh
  replace CS := Ext.trans CS F13
  rw [show decide (chgL x1 x2 = chgL x1 x2) = true from decide_eq_true rfl]
  go_wp2_with fail
  refine (heldIntS_ok _ _ 1 _ (Reads.of_owns om) hlen (by omega) (by omega)).mono ?_
  rintro e w' ⟨rfl, rfl⟩
  go_wp2
  go_ret
  exact ⟨rfl, E13⟩

set_option maxRecDepth 100000 in
theorem lifted (os : Os) (started : os.Started) (H : Type) (enc : TypeId × Value → H) :
    ReturnsInHanded {} Try.checked os 8 .any (Rows.fnExactChangedSeriesSpec.pre6 enc Try.prog Try.f8 Rows.fnExactChangedSeriesRow.domain false) (Rows.fnExactChangedSeriesSpec.post enc Try.prog Try.f8 false true false false) := by
  refine returnsInHanded_of_change (C := Try.checked) own started (by kernel_rfl) Try.func8
    (ChangeSpec.witness6 (enc := enc) (C := Try.checked) false ⟨#[], #[.slice none 0 0, .int .i64 0], []⟩ 8 (by kernel_rfl) (by kernel_rfl) (by kernel_rfl) (by kernel_rfl)) ?_
  intro W base args ds gs before hval0 hW hcnd _
  have hval : ∀ (j : Nat) t v, Try.f8.params[j]? = some t → args[j]? = some v → Value.okWide Try.prog W .any base t v := hval0
  have hW' := hW
  obtain ⟨p, q, hA0, hV, rfl, hfz, hnd⟩ := hW
  have hA : DataW.TrodAll enc Try.prog W 0 (fun _ => true) true Try.f8.params.toList args.toList ds p := hA0
  rw [Try.params8] at hA hval
  obtain ⟨v1, vs1, d1, ds1, p1, q1, hargs, rfl, rfl, h1, r1⟩ := trodAll_cons hA
  obtain ⟨v2, vs2, d2, ds2, p2, q2, rfl, rfl, rfl, h2, r2⟩ := trodAll_cons r1
  obtain ⟨rfl, rfl, rfl⟩ := trodAll_nil r2
  obtain rfl : args = #[v1, v2] := by cases args; simp_all
  obtain ⟨rfl, rfl⟩ := trodVars_none hV
  have s1 := okWide_slice Try.underlying31 (hval 0 31 v1 rfl rfl)
  have k1 := h1
  have lt1 : ∀ x ∈ p1, x.block < W.heap.size := by obtain ⟨m, hm⟩ := k1; exact DataW.trod_lt m _ _ _ hm
  obtain ⟨x1, y1, m1, mm1⟩ := openVersionS s1 h1
  obtain ⟨x2, rfl, rfl, rfl, wf2⟩ := open_int Try.underlying3 (hval 1 3 v2 rfl rfl) h2
  clear hA0 hval0
  refine (walk x1 v1 x2 W y1 m1 mm1).mono fun e W' ⟨he, bel⟩ => ?_
  subst he
  exact ⟨_, rfl, _, _, _, [], _, [], hW', trodAll_mk1 (shut_bool Try.underlying4 _), (trodAll_cons_mk (Below.trod laidOut (by kernel_rfl) (of_decide_eq_true (by kernel_rfl)) k1 bel lt1) (trodAll_cons_mk (shut_int Try.underlying3 wf2) trodAll_mk0)), rfl, bel.frame _, fun h => by cases h⟩

theorem over : Rows.fnExactChangedSeriesRow.holds Try.pinned (OpenSpec.ofChange Rows.fnExactChangedSeriesSpec) :=
  OpenClaim.holds_of_wide 8 Try.f8 rfl rfl rfl rfl rfl rfl rfl ⟨rfl, rfl, rfl, rfl, rfl⟩ rfl rfl rfl rfl rfl (by kernel_rfl) Try.func8 (by kernel_rfl)
    (of_decide_eq_true (by kernel_rfl)) (by unfold Func.isWrapper; first | (rw [if_pos (by decide +kernel)]; kernel_rfl) | (rw [if_neg (by decide +kernel)]; exact ⟨rfl, rfl⟩))
    (fun os started H enc _ => lifted os started H enc)


theorem proved : Rows.FnExactChangedSeriesSaid :=
  over
#print axioms proved
end Go.Proofs.Ytkbhonafbecbfaa.fnExactChangedSeries
