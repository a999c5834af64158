/- For all arguments the law FnExactPutVersion returns true, and its arguments read as they did; no condition. -/
import Derived.Test.YtankodjcccnjlaaRows
import Derived.Test.YtankodjcccnjlaaOpenS
import Derived.Test.YtankodjcccnjlaaOpenN
import Derived.Test.YtankodjcccnjlaaNestVersion
import Derived.Test.YtankodjcccnjlaaPutVS
import Derived.Test.YtankodjcccnjlaaPutVI
import Derived.Test.YtankodjcccnjlaaMkOwnVersion
import Derived.Deep.RegionWith
import Derived.ProofKit
import Derived.OpenShut
import Derived.ShutString
import Derived.ChangeOld
namespace Go.Proofs.Ytankodjcccnjlaa.fnExactPutVersion
open Go.ChangeShapes Go.WideShapes Go.ChangeAt Go.RowKit Go.Sort Go.Rd
set_option linter.unusedVariables false

theorem own : ownKnob Try.prog.godebug = none := by kernel_rfl
theorem laidOut : laidOutB Try.prog = true := by kernel_rfl

set_option maxRecDepth 4000 in
set_option maxHeartbeats 4000000 in
theorem walk (x1 : List Ver) (v1 : Value) (x2 : Ver) (s2 : Value) (w : World) (h1 : Ver.Rd w v1 x1) (m1 : x1.length ≤ maxLen) (mm1 : ∀ r ∈ x1, r.rs.length ≤ maxLen) (h2 : Ver.At w (x2, s2)) (m2 : x2.rs.length ≤ maxLen) :
    Calls Try.prog 3 #[v1, .agg #[.int .i64 x2.fr, s2]] w fun e w' => e = .returned (.bool true) ∧ Ext w w' := by
  obtain ⟨a1, c1, rfl⟩ := h1.shape
  obtain ⟨a2, c2, hs2⟩ := Reads.shape h2
  simp only at hs2
  subst hs2
  obtain ⟨wB, hwB⟩ : ∃ wB, wB = (w.alloc (.cells #[.int .i64 x2.fr, .slice a2 x2.rs.length c2] 25)) := ⟨_, rfl⟩
  have zB : wB.heap.size = w.heap.size + 1 := by rw [hwB]; simp
  have EzB : Ext w wB := by rw [hwB]; exact (Ext.refl w).alloc _
  have b2_0 : wB.cell? ⟨w.heap.size, 0, none⟩ = some (.int .i64 x2.fr) := by rw [hwB]; simp
  have b2_1 : wB.cell? ⟨w.heap.size, 1, none⟩ = some (.slice a2 x2.rs.length c2) := by rw [hwB]; simp
  by_cases l1 : (((x1.length + Ver.wt x1) : Nat) : Int) ≤ 1048576
  case neg =>
    have r1 := Lib.hid (szL_gt l1)
    go_enter Try.func3, Try.ntmps3
    go_wp2_with fail
    rw [← hwB]; clear hwB
    refine (szVersionS_rd x1 _ (1048576) _ (Ver.Rd.mono EzB h1) m1 mm1 (by omega) (by omega)).mono ?_
    rintro e wz1 ⟨rfl, Fz1⟩
    have Ez1 := Ext.trans EzB Fz1
    rw [r1.out]
    have zz1 := Fz1.size
    replace b2_0 := Fz1.cell b2_0
    replace b2_1 := Fz1.cell b2_1
    go_wp2
    go_ret
    exact ⟨rfl, Ez1⟩
  have r1 : Hid (szL (1048576) (x1.length + Ver.wt x1) = 1048576 - ((x1.length : Int) + (Ver.wt x1 : Int))) := Lib.hid (by rw [szL_le l1]; omega)
  have p1 : (0 : Int) ≤ 1048576 - ((x1.length : Int) + (Ver.wt x1 : Int)) := by omega
  by_cases l2 : ((x2.rs.length : Nat) : Int) ≤ 1048576 - ((x1.length : Int) + (Ver.wt x1 : Int))
  case neg =>
    have r2 := Lib.hid (szL_gt l2)
    go_enter Try.func3, Try.ntmps3
    go_wp2_with fail
    rw [← hwB]; clear hwB
    refine (szVersionS_rd x1 _ (1048576) _ (Ver.Rd.mono EzB h1) m1 mm1 (by omega) (by omega)).mono ?_
    rintro e wz1 ⟨rfl, Fz1⟩
    have Ez1 := Ext.trans EzB Fz1
    rw [r1.out]
    have zz1 := Fz1.size
    replace b2_0 := Fz1.cell b2_0
    replace b2_1 := Fz1.cell b2_1
    go_wp2_with fail
    refine (szVersion_ok x2 _ (1048576 - ((x1.length : Int) + (Ver.wt x1 : Int))) _ (Reads.mono Ez1 h2) m2 (by omega) (by omega)).mono ?_
    rintro e wz2 ⟨rfl, Fz2⟩
    have Ez2 := Ext.trans Ez1 Fz2
    rw [r2.out]
    have zz2 := Fz2.size
    replace b2_0 := Fz2.cell b2_0
    replace b2_1 := Fz2.cell b2_1
    go_wp2
    go_ret
    exact ⟨rfl, Ez2⟩
  have r2 := Lib.hid (szL_le l2)
  have p2 : (0 : Int) ≤ 1048576 - ((x1.length : Int) + (Ver.wt x1 : Int)) - ((x2.rs.length : Nat) : Int) := by omega
  have n1 : x1.length ≤ 1048576 := by omega
  have nn1 : ∀ r ∈ x1, r.rs.length ≤ 1048576 := fun r hr => by have := Ver.le_wt hr; omega
  have n2 : x2.rs.length ≤ 1048576 := by omega
  go_enter Try.func3, Try.ntmps3
  go_wp2_with fail
  rw [← hwB]; clear hwB
  refine (szVersionS_rd x1 _ (1048576) _ (Ver.Rd.mono EzB h1) m1 mm1 (by omega) (by omega)).mono ?_
  rintro e wz1 ⟨rfl, Fz1⟩
  have Ez1 := Ext.trans EzB Fz1
  rw [r1.out]
  have zz1 := Fz1.size
  replace b2_0 := Fz1.cell b2_0
  replace b2_1 := Fz1.cell b2_1
  go_wp2_with fail
  refine (szVersion_ok x2 _ (1048576 - ((x1.length : Int) + (Ver.wt x1 : Int))) _ (Reads.mono Ez1 h2) m2 (by omega) (by omega)).mono ?_
  rintro e wz2 ⟨rfl, Fz2⟩
  have Ez2 := Ext.trans Ez1 Fz2
  rw [r2.out]
  have zz2 := Fz2.size
  replace b2_0 := Fz2.cell b2_0
  replace b2_1 := Fz2.cell b2_1
  go_upto_region 8 with fail
  go_cut [6, 7] (fun c0 c1 wx => ∃ vq, c0 = vq ∧ c1 = .bool ((putO x1 x2).isSome) ∧ Ver.Rd wx vq ((putO x1 x2).getD []) ∧ Ext wz2 wx)
  case first =>
    go_region_with (first
      | (go_at_call 7; refine (toVersionS_rd x1 _ _ ?_ n1 nn1).mono ?_; (first | exact Ver.Rd.mono Ez2 h1 | exact Ver.Rd.mono Ez2.drew h1); rintro e wq1 ⟨uq1, rfl, oq1, Fq0⟩; have Fq1 : Ext wz2 wq1 := (by first | exact Fq0 | exact Ext.trans ((Ext.refl wz2).drew) Fq0); have Gq1 := Fq1; have j1_b2_0 := Gq1.cell b2_0; have j1_b2_1 := Gq1.cell b2_1)
      | (go_at_call 8; refine (toVersion_ok x2 _ _ ?_ n2).mono ?_; exact Reads.mono (Ext.trans Ez2 Gq1) h2; rintro e wq2 ⟨uq2, rfl, oq2, Fq0⟩; have Fq2 := Fq0; have Gq2 := Ext.trans Gq1 Fq2; have j2_b2_0 := Gq2.cell b2_0; have j2_b2_1 := Gq2.cell b2_1)
      | (go_at_call 6; refine (specPutVersion_ok x1 x2 _ _ _ ?_ ?_ n1 nn1 n2).mono ?_; exact Ver.Own.rd (Ver.Own.ext Fq2 oq1); exact Reads.of_owns oq2; rintro e wr ⟨vq, rfl, oR, FR⟩))
    all_goals (try go_wp2)
    all_goals go_meet
    all_goals exact ⟨_, rfl, rfl, (by first | exact oR | exact oR.rd), Ext.trans Gq2 FR⟩
  case rest =>
  obtain ⟨w1, hw1⟩ : ∃ w', w' = wc := ⟨_, rfl⟩
  subst hw1
  obtain ⟨vRS, rfl, rfl, RS, F1⟩ := hcut
  have z1 := F1.size
  have E1 := Ext.trans Ez2 F1
  replace b2_0 := F1.cell b2_0
  replace b2_1 := F1.cell b2_1
  have CS : Ext w1 w1 := Ext.refl _
  have hbd : ((putO x1 x2).getD []).length + Ver.wt ((putO x1 x2).getD []) ≤ 1048576 := by have := putO_bound x1 x2; omega
  have hlen : ((putO x1 x2).getD []).length ≤ 1048576 := by omega
  have hnn : ∀ r ∈ ((putO x1 x2).getD []), r.rs.length ≤ 1048576 := fun r hr => by have := Ver.le_wt hr; omega
  go_wp2_with fail
  refine (toVersionS_rd x1 _ _ (Ver.Rd.mono E1 h1) n1 nn1).mono ?_
  rintro e w2 ⟨u_ox1, rfl, ox1, F2⟩
  have z2 := F2.size
  have E2 := Ext.trans E1 F2
  replace CS := Ext.trans CS F2
  replace b2_0 := F2.cell b2_0
  replace b2_1 := F2.cell b2_1
  go_wp2_with fail
  refine (toVersion_ok x2 _ _ (Reads.mono E2 h2) n2).mono ?_
  rintro e w3 ⟨u_ox2, rfl, ox2, F3⟩
  have z3 := F3.size
  have E3 := Ext.trans E2 F3
  replace ox1 := Ver.Own.ext F3 ox1
  replace CS := Ext.trans CS F3
  replace b2_0 := F3.cell b2_0
  replace b2_1 := F3.cell b2_1
  obtain ⟨ca2, cc2, hsu2⟩ := (Reads.of_owns ox2).shape
  subst hsu2
  have qx2 : ∀ j, Value.ownBlock (.slice ca2 x2.rs.length cc2) = some j → j < w3.heap.size := fun j hj => (World.ownsRow.lt ox2 j hj).2
  obtain ⟨w4, hw4⟩ : ∃ w', w' = w3.alloc (.cells #[.int .i64 x2.fr, .slice ca2 x2.rs.length cc2] 34) := ⟨_, rfl⟩
  have F4 : Ext w3 w4 := by rw [hw4]; exact (Ext.refl _).alloc _
  have zz4 : w4.heap.size = w3.heap.size + 1 := by rw [hw4]; simp
  have z4 := F4.size
  have E4 := Ext.trans E3 F4
  replace ox1 := Ver.Own.ext F4 ox1
  replace ox2 := Ext.owns F4 ox2
  replace CS := Ext.trans CS F4
  replace b2_0 := F4.cell b2_0
  replace b2_1 := F4.cell b2_1
  have x2_0 : w4.cell? ⟨w3.heap.size, 0, none⟩ = some (.int .i64 x2.fr) := by rw [hw4]; simp
  have x2_1 : w4.cell? ⟨w3.heap.size, 1, none⟩ = some (.slice ca2 x2.rs.length cc2) := by rw [hw4]; simp
  go_wp2_with fail
  rw [← hw4]; clear hw4
  refine (putVersion_ok x1 x2 _ _ _ (Ver.Own.rd ox1) (Reads.of_owns ox2)  n1 nn1 n2).mono ?_
  rintro e w5 ⟨vg, rfl, og, F5⟩
  have z5 := F5.size
  have E5 := Ext.trans E4 F5
  replace ox1 := Ver.Own.ext F5 ox1
  replace ox2 := Ext.owns F5 ox2
  replace CS := Ext.trans CS F5
  replace b2_0 := F5.cell b2_0
  replace b2_1 := F5.cell b2_1
  replace x2_0 := F5.cell x2_0
  replace x2_1 := F5.cell x2_1
  go_wp2_with fail
  refine (eqVersionS_rd ((putO x1 x2).getD []) ((putO x1 x2).getD []) _ _ _ (Ver.OwnX.rd og) (Ver.Rd.mono CS RS) hlen hnn).mono ?_
  rintro e w6 ⟨rfl, F6⟩
  have z6 := F6.size
  have E6 := Ext.trans E5 F6
  replace ox1 := Ver.Own.ext F6 ox1
  replace ox2 := Ext.owns F6 ox2
  replace og := Ver.OwnX.ext F6 og
  replace CS := Ext.trans CS F6
  replace b2_0 := F6.cell b2_0
  replace b2_1 := F6.cell b2_1
  replace x2_0 := F6.cell x2_0
  replace x2_1 := F6.cell x2_1
  rw [show decide ((putO x1 x2).getD [] = (putO x1 x2).getD []) = true from decide_eq_true rfl]
  go_wp2_with fail
  refine (toVersionS_rd x1 _ _ (Ver.Rd.mono E6 h1) n1 nn1).mono ?_
  rintro e w7 ⟨u_oy1, rfl, oy1, F7⟩
  have z7 := F7.size
  have E7 := Ext.trans E6 F7
  replace ox1 := Ver.Own.ext F7 ox1
  replace ox2 := Ext.owns F7 ox2
  replace og := Ver.OwnX.ext F7 og
  replace CS := Ext.trans CS F7
  replace b2_0 := F7.cell b2_0
  replace b2_1 := F7.cell b2_1
  replace x2_0 := F7.cell x2_0
  replace x2_1 := F7.cell x2_1
  go_wp2_with fail
  refine (eqVersionS_rd x1 x1 _ _ _ (Ver.Own.rd ox1) (Ver.Own.rd oy1) n1 nn1).mono ?_
  rintro e w8 ⟨rfl, F8⟩
  have z8 := F8.size
  have E8 := Ext.trans E7 F8
  replace ox1 := Ver.Own.ext F8 ox1
  replace ox2 := Ext.owns F8 ox2
  replace og := Ver.OwnX.ext F8 og
  replace oy1 := Ver.Own.ext F8 oy1
  replace CS := Ext.trans CS F8
  replace b2_0 := F8.cell b2_0
  replace b2_1 := F8.cell b2_1
  replace x2_0 := F8.cell x2_0
  replace x2_1 := F8.cell x2_1
  rw [show decide (x1 = x1) = true from decide_eq_true rfl]
  go_upto_region 16 with fail
  go_cut [63] (fun c wx => c = .bool false ∧ Ext w8 wx)
  case first =>
    go_region_with (first
      | (go_at_call 8; refine (toVersion_ok x2 _ _ ?_ n2).mono ?_; (first | exact Reads.mono E8 h2 | exact Reads.mono E8.drew h2); rintro e wq ⟨uq, rfl, oq, Fq0⟩; have Fq : Ext w8 wq := (by first | exact Fq0 | exact Ext.trans ((Ext.refl w8).drew) Fq0); obtain ⟨caq, ccq, hsq⟩ := (Reads.of_owns oq).shape; subst hsq; have j0 := Fq.cell x2_0; have j1 := Fq.cell x2_1)
      | (go_at_call 11; refine (eqVersion_ok x2 x2 _ _ _ ?_ ?_ n2).mono ?_; exact Reads.of_owns (Ext.owns Fq ox2); exact Reads.of_owns oq; rintro e wr ⟨rfl, Fr⟩; rw [show decide (x2 = x2) = true from decide_eq_true rfl]))
    all_goals (try go_wp2)
    all_goals go_meet
    all_goals exact ⟨rfl, Ext.trans Fq Fr⟩
  case rest =>
  obtain ⟨w9, hw9⟩ : ∃ w', w' = wc := ⟨_, rfl⟩
  subst hw9
  obtain ⟨rfl, F9⟩ := hcut
  have z9 := F9.size
  have E9 := Ext.trans E8 F9
  replace ox1 := Ver.Own.ext F9 ox1
  replace ox2 := Ext.owns F9 ox2
  replace og := Ver.OwnX.ext F9 og
  replace CS := Ext.trans CS F9
  replace b2_0 := F9.cell b2_0
  replace b2_1 := F9.cell b2_1
  replace x2_0 := F9.cell x2_0
  replace x2_1 := F9.cell x2_1
  go_wp2_with fail
  refine (markVersionS_rd w1.heap.size w2.heap.size _ _ (1) _ ox1 (by omega) (by omega) (by omega)).mono ?_
  rintro e w10 ⟨kk1, rfl, ka1, kb1, T10⟩
  have z10 := T10.size
  have E10 := Turned.below' T10 E9 (by omega)
  replace ox2 := owns_above T10 ox2 (by omega)
  replace og := Ver.OwnX.above T10 og (by omega)
  replace CS := Turned.below' T10 CS (by omega)
  replace b2_0 := Turned.cell T10 b2_0 (by omega)
  replace b2_1 := Turned.cell T10 b2_1 (by omega)
  replace x2_0 := Turned.cell T10 x2_0 (by omega)
  replace x2_1 := Turned.cell T10 x2_1 (by omega)
  go_wp2_with fail
  refine (markVersion_ok w2.heap.size w3.heap.size x2 _ (kk1) _ ⟨_, ox2⟩ qx2 n2 (by omega) (by omega)).mono ?_
  rintro e w11 ⟨kk2, rfl, ka2, kb2, T11⟩
  have z11 := T11.size
  have E11 := Turned.below' T11 E10 (by omega)
  replace og := Ver.OwnX.above T11 og (by omega)
  replace CS := Turned.below' T11 CS (by omega)
  replace b2_0 := Turned.cell T11 b2_0 (by omega)
  replace b2_1 := Turned.cell T11 b2_1 (by omega)
  replace x2_0 := Turned.cell T11 x2_0 (by omega)
  replace x2_1 := Turned.cell T11 x2_1 (by omega)
  have kpos : ¬ (kk2) < 0 := by omega
  go_wp2_with fail
  refine (eqVersionS_rd ((putO x1 x2).getD []) ((putO x1 x2).getD []) _ _ _ (Ver.OwnX.rd og) (Ver.Rd.mono CS RS) hlen hnn).mono ?_
  rintro e w12 ⟨rfl, F12⟩
  have z12 := F12.size
  have E12 := Ext.trans E11 F12
  replace og := Ver.OwnX.ext F12 og
  replace CS := Ext.trans CS F12
  replace b2_0 := F12.cell b2_0
  replace b2_1 := F12.cell b2_1
  replace x2_0 := F12.cell x2_0
  replace x2_1 := F12.cell x2_1
  rw [show decide ((putO x1 x2).getD [] = (putO x1 x2).getD []) = true from decide_eq_true rfl]
  go_wp2_with fail
  refine (markVersionS_own w4.heap.size _ _ 1 _ og hbd (by omega) (by omega)).mono ?_
  rintro e w13 ⟨Lm, rfl, om, T13⟩
  have z13 := T13.size
  have E13 := Turned.below' T13 E12 (by omega)
  replace CS := Turned.below' T13 CS (by omega)
  replace b2_0 := Turned.cell T13 b2_0 (by omega)
  replace b2_1 := Turned.cell T13 b2_1 (by omega)
  replace x2_0 := Turned.cell T13 x2_0 (by omega)
  replace x2_1 := Turned.cell T13 x2_1 (by omega)
  go_wp2_with fail
  refine (heldVersionS_mk Lm _ 1 _ om (by omega) (by omega)).mono ?_
  rintro e w' ⟨rfl, rfl⟩
  go_upto_region 31 with fail
  go_cut [15, 16] (fun c0 c1 wx => ∃ vq, c0 = vq ∧ c1 = .bool ((putO x1 x2).isSome) ∧ Ver.Rd wx vq ((putO x1 x2).getD []) ∧ Ext w13 wx)
  case first =>
    go_region_with (first
      | (go_at_call 7; refine (toVersionS_rd x1 _ _ ?_ n1 nn1).mono ?_; (first | exact Ver.Rd.mono E13 h1 | exact Ver.Rd.mono E13.drew h1); rintro e wq1 ⟨uq1, rfl, oq1, Fq0⟩; have Fq1 : Ext w13 wq1 := (by first | exact Fq0 | exact Ext.trans ((Ext.refl w13).drew) Fq0); have Gq1 := Fq1; have j1_b2_0 := Gq1.cell b2_0; have j1_b2_1 := Gq1.cell b2_1)
      | (go_at_call 8; refine (toVersion_ok x2 _ _ ?_ n2).mono ?_; exact Reads.mono (Ext.trans E13 Gq1) h2; rintro e wq2 ⟨uq2, rfl, oq2, Fq0⟩; have Fq2 := Fq0; have Gq2 := Ext.trans Gq1 Fq2; have j2_b2_0 := Gq2.cell b2_0; have j2_b2_1 := Gq2.cell b2_1)
      | (go_at_call 9; refine (putVersion_ok x1 x2 _ _ _ ?_ ?_ n1 nn1 n2).mono ?_; exact Ver.Own.rd (Ver.Own.ext Fq2 oq1); exact Reads.of_owns oq2; rintro e wr ⟨vq, rfl, oR, FR⟩))
    all_goals (try go_wp2)
    all_goals go_meet
    all_goals exact ⟨_, rfl, rfl, (by first | exact oR | exact oR.rd), Ext.trans Gq2 FR⟩
  case rest =>
  obtain ⟨w14, hw14⟩ : ∃ w', w' = wc := ⟨_, rfl⟩
  subst hw14
  obtain ⟨vRH, rfl, rfl, RH, F14⟩ := hcut
  have z14 := F14.size
  have E14 := Ext.trans E13 F14
  replace om := MkXVersion.ext F14 om
  replace CS := Ext.trans CS F14
  replace b2_0 := F14.cell b2_0
  replace b2_1 := F14.cell b2_1
  replace x2_0 := F14.cell x2_0
  replace x2_1 := F14.cell x2_1
  have CH : Ext w14 w14 := Ext.refl _
  go_wp2_with fail
  refine (eqVersionS_rd ((putO x1 x2).getD []) ((putO x1 x2).getD []) _ _ _ (Ver.Rd.mono CH RH) (Ver.Rd.mono CS RS) hlen hnn).mono ?_
  rintro e w15 ⟨rfl, F15⟩
  have z15 := F15.size
  have E15 := Ext.trans E14 F15
  replace om := MkXVersion.ext F15 om
  replace CS := Ext.trans CS F15
  replace CH := Ext.trans CH F15
  replace b2_0 := F15.cell b2_0
  replace b2_1 := F15.cell b2_1
  replace x2_0 := F15.cell x2_0
  replace x2_1 := F15.cell x2_1
  rw [show decide ((putO x1 x2).getD [] = (putO x1 x2).getD []) = true from decide_eq_true rfl]
  go_wp2_with fail
  refine (heldVersionS_mk Lm _ 1 _ om (by omega) (by omega)).mono ?_
  rintro e w' ⟨rfl, rfl⟩
  go_wp2
  go_ret
  exact ⟨rfl, E15⟩

set_option maxRecDepth 100000 in
theorem lifted (os : Os) (started : os.Started) (H : Type) (enc : TypeId × Value → H) :
    ReturnsInHanded {} Try.checked os 3 .any (Rows.fnExactPutVersionSpec.pre6 enc Try.prog Try.f3 Rows.fnExactPutVersionRow.domain false) (Rows.fnExactPutVersionSpec.post enc Try.prog Try.f3 false true false false) := by
  refine returnsInHanded_of_change (C := Try.checked) own started (by kernel_rfl) Try.func3
    (ChangeSpec.witness6 (enc := enc) (C := Try.checked) false ⟨#[], #[.slice none 0 0, .agg #[.int .i64 0, .slice none 0 0]], []⟩ 8 (by kernel_rfl) (by kernel_rfl) (by kernel_rfl) (by kernel_rfl)) ?_
  intro W base args ds gs before hval0 hW hcnd _
  have hval : ∀ (j : Nat) t v, Try.f3.params[j]? = some t → args[j]? = some v → Value.okWide Try.prog W .any base t v := hval0
  have hW' := hW
  obtain ⟨p, q, hA0, hV, rfl, hfz, hnd⟩ := hW
  have hA : DataW.TrodAll enc Try.prog W 0 (fun _ => true) true Try.f3.params.toList args.toList ds p := hA0
  rw [Try.params3] at hA hval
  obtain ⟨v1, vs1, d1, ds1, p1, q1, hargs, rfl, rfl, h1, r1⟩ := trodAll_cons hA
  obtain ⟨v2, vs2, d2, ds2, p2, q2, rfl, rfl, rfl, h2, r2⟩ := trodAll_cons r1
  obtain ⟨rfl, rfl, rfl⟩ := trodAll_nil r2
  obtain rfl : args = #[v1, v2] := by cases args; simp_all
  obtain ⟨rfl, rfl⟩ := trodVars_none hV
  have s1 := okWide_slice Try.underlying22 (hval 0 22 v1 rfl rfl)
  have k1 := h1
  have lt1 : ∀ x ∈ p1, x.block < W.heap.size := by obtain ⟨m, hm⟩ := k1; exact DataW.trod_lt m _ _ _ hm
  obtain ⟨x1, y1, m1, mm1⟩ := openVersionS s1 h1
  have s2 := okWide_struct Try.underlying25 (hval 1 25 v2 rfl rfl)
  have k2 := h2
  have lt2 : ∀ x ∈ p2, x.block < W.heap.size := by obtain ⟨m, hm⟩ := k2; exact DataW.trod_lt m _ _ _ hm
  obtain ⟨x2, sv2, rfl, y2, m2⟩ := openVersion s2 h2
  clear hA0 hval0
  refine (walk x1 v1 x2 sv2 W y1 m1 mm1 y2 m2).mono fun e W' ⟨he, bel⟩ => ?_
  subst he
  exact ⟨_, rfl, _, _, _, [], _, [], hW', trodAll_mk1 (shut_bool Try.underlying4 _), (trodAll_cons_mk (Below.trod laidOut (by kernel_rfl) (of_decide_eq_true (by kernel_rfl)) k1 bel lt1) (trodAll_cons_mk (Below.trod laidOut (by kernel_rfl) (of_decide_eq_true (by kernel_rfl)) k2 bel lt2) trodAll_mk0)), rfl, bel.frame _, fun h => by cases h⟩

theorem over : Rows.fnExactPutVersionRow.holds Try.pinned (OpenSpec.ofChange Rows.fnExactPutVersionSpec) :=
  OpenClaim.holds_of_wide 3 Try.f3 rfl rfl rfl rfl rfl rfl rfl ⟨rfl, rfl, rfl, rfl, rfl⟩ rfl rfl rfl rfl rfl (by kernel_rfl) Try.func3 (by kernel_rfl)
    (of_decide_eq_true (by kernel_rfl)) (by unfold Func.isWrapper; first | (rw [if_pos (by decide +kernel)]; kernel_rfl) | (rw [if_neg (by decide +kernel)]; exact ⟨rfl, rfl⟩))
    (fun os started H enc _ => lifted os started H enc)


theorem proved : Rows.FnExactPutVersionSaid :=
  over
#print axioms proved
end Go.Proofs.Ytankodjcccnjlaa.fnExactPutVersion
