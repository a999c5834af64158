/- For all arguments the law FnExactLostRecords returns true, and its arguments read as they did; no condition. -/
import Derived.Test.YtefabcnifbnehaaDoorRows
import Derived.Test.YtefabcnifbnehaaDoorLaid
import Derived.Test.YtefabcnifbnehaaDoorTie
import Derived.Test.YtefabcnifbnehaaDoorCards
import Derived.Test.YtefabcnifbnehaaDoorOpenS
import Derived.Test.YtefabcnifbnehaaDoorOpenF
import Derived.Test.YtefabcnifbnehaaDoorNestFormat
import Derived.Test.YtefabcnifbnehaaDoorLost
import Derived.Test.YtefabcnifbnehaaDoorFlatCopy
import Derived.SevenTiedAt
import Derived.ProofKit
import Derived.OpenShut
import Derived.ShutString
import Derived.ChangeOld
namespace Go.Proofs.YtefabcnifbnehaaDoor.fnExactLostRecords
open Go.ChangeShapes Go.WideShapes Go.ChangeAt Go.RowKit Go.Sort Go.Rd
set_option linter.unusedVariables false

theorem laidOut : laidOutB Tryd.prog = true := by kernel_rfl

set_option maxRecDepth 4000 in
set_option maxHeartbeats 4000000 in
theorem walk (x1 : List Fmt) (v1 : Value) (x2 : List Cpy) (v2 : Value) (x3 : Int) (w : World) (h1 : Fmt.Rd w v1 x1) (m1 : x1.length ≤ maxLen) (mm1 : ∀ r ∈ x1, r.na.length ≤ maxLen ∧ r.rd.length ≤ maxLen) (h2 : Reads w 4 v2 x2.length (x2.flatMap Cpy.enc)) (m2 : x2.length ≤ maxLen) :
    Calls Tryd.prog 12 #[v1, v2, .int .i64 x3] w fun e w' => e = .returned (.bool true) ∧ Ext w w' := by
  obtain ⟨a1, c1, rfl⟩ := h1.shape
  obtain ⟨a2, c2, rfl⟩ := h2.shape
  by_cases l1 : (((x1.length + Fmt.wt x1) : Nat) : Int) ≤ 1048576
  case neg =>
    have r1 := Lib.hid (szL_gt l1)
    go_enter Tryd.func12, Tryd.ntmps12
    go_wp2_with fail
    refine (szFormatS_rd x1 _ (1048576) _ h1 m1 mm1 (by omega) (by omega)).mono ?_
    rintro e wz1 ⟨rfl, Fz1⟩
    have Ez1 := Fz1
    rw [r1.out]
    have zz1 := Fz1.size
    go_wp2
    go_ret
    exact ⟨rfl, Ez1⟩
  have r1 : Hid (szL (1048576) (x1.length + Fmt.wt x1) = 1048576 - ((x1.length : Int) + (Fmt.wt x1 : Int))) := Lib.hid (by rw [szL_le l1]; omega)
  have p1 : (0 : Int) ≤ 1048576 - ((x1.length : Int) + (Fmt.wt x1 : Int)) := by omega
  by_cases l2 : ((x2.length : Nat) : Int) ≤ 1048576 - ((x1.length : Int) + (Fmt.wt x1 : Int))
  case neg =>
    have r2 := Lib.hid (szL_gt l2)
    go_enter Tryd.func12, Tryd.ntmps12
    go_wp2_with fail
    refine (szFormatS_rd x1 _ (1048576) _ h1 m1 mm1 (by omega) (by omega)).mono ?_
    rintro e wz1 ⟨rfl, Fz1⟩
    have Ez1 := Fz1
    rw [r1.out]
    have zz1 := Fz1.size
    go_wp2_with fail
    refine (szCopyS_ok _ _ _ _ _ m2 (by omega) (by omega)).mono ?_
    rintro e w' ⟨rfl, rfl⟩
    rw [r2.out]
    go_wp2
    go_ret
    exact ⟨rfl, Ez1⟩
  have r2 := Lib.hid (szL_le l2)
  have p2 : (0 : Int) ≤ 1048576 - ((x1.length : Int) + (Fmt.wt x1 : Int)) - ((x2.length : Nat) : Int) := by omega
  have n1 : x1.length ≤ 1048576 := by omega
  have nm1 : ∀ r ∈ x1, r.na.length ≤ maxLen := fun r hr => (mm1 r hr).1
  have nn1 : ∀ r ∈ x1, r.rd.length ≤ 1048576 := fun r hr => by have := Fmt.le_wt hr; omega
  have n2 : x2.length ≤ 1048576 := by omega
  go_enter Tryd.func12, Tryd.ntmps12
  go_wp2_with fail
  refine (szFormatS_rd x1 _ (1048576) _ h1 m1 mm1 (by omega) (by omega)).mono ?_
  rintro e wz1 ⟨rfl, Fz1⟩
  have Ez1 := Fz1
  rw [r1.out]
  have zz1 := Fz1.size
  go_wp2_with fail
  refine (szCopyS_ok _ _ _ _ _ m2 (by omega) (by omega)).mono ?_
  rintro e w' ⟨rfl, rfl⟩
  rw [r2.out]
  go_wp2_with fail
  refine (toFormatS_rd x1 _ _ (Fmt.Rd.mono Ez1 h1) n1 nn1).mono ?_
  rintro e w1 ⟨u_oa1, rfl, oa1, F1⟩
  have z1 := F1.size
  have E1 := Ext.trans Ez1 F1
  go_wp2_with fail
  refine (toCopyS_ok x2 _ _ (Reads.mono E1 h2) n2).mono ?_
  rintro e w2 ⟨u_oa2, rfl, oa2, F2⟩
  have z2 := F2.size
  have E2 := Ext.trans E1 F2
  replace oa1 := Fmt.Own.ext F2 oa1
  go_wp2_with fail
  refine (specLostRecords_ok x1 x2 x3 _ _ _ (Fmt.Own.rd oa1) (Reads.of_owns oa2) n1 nn1 nm1 n2).mono ?_
  rintro e w3 ⟨vs, rfl, RS, F3⟩
  have z3 := F3.size
  have E3 := Ext.trans E2 F3
  replace oa1 := Fmt.Own.ext F3 oa1
  replace oa2 := Ext.owns F3 oa2
  have CS : Ext w3 w3 := Ext.refl _
  have hlen : (lostL x1 x2 x3).length ≤ 1048576 := Nat.le_trans (lostL_length x1 x2 x3) n2
  go_wp2_with fail
  refine (toFormatS_rd x1 _ _ (Fmt.Rd.mono E3 h1) n1 nn1).mono ?_
  rintro e w4 ⟨u_ox1, rfl, ox1, F4⟩
  have z4 := F4.size
  have E4 := Ext.trans E3 F4
  replace CS := Ext.trans CS F4
  go_wp2_with fail
  refine (toCopyS_ok x2 _ _ (Reads.mono E4 h2) n2).mono ?_
  rintro e w5 ⟨u_ox2, rfl, ox2, F5⟩
  have z5 := F5.size
  have E5 := Ext.trans E4 F5
  replace ox1 := Fmt.Own.ext F5 ox1
  replace CS := Ext.trans CS F5
  have qx2 : ∀ j, Value.ownBlock u_ox2 = some j → j < w5.heap.size := fun j hj => (World.ownsRow.lt ox2 j hj).2
  go_wp2_with fail
  refine (lostRecords_ok x1 x2 x3 _ _ _ (Fmt.Own.rd ox1) (Reads.of_owns ox2) (Fmt.Own.room ox1) n1 nn1 nm1 n2).mono ?_
  rintro e w6 ⟨vg, rfl, og, F6⟩
  have z6 := F6.size
  have E6 := Ext.trans E5 F6
  replace ox1 := Fmt.Own.ext F6 ox1
  replace ox2 := Ext.owns F6 ox2
  replace CS := Ext.trans CS F6
  have qg : ∀ j, Value.ownBlock vg = some j → j < w6.heap.size := fun j hj => (World.ownsRow.lt og j hj).2
  go_wp2_with fail
  refine (eqIntS_ok (lostL x1 x2 x3) (lostL x1 x2 x3) _ _ _ (Reads.of_owns og) (Reads.mono CS RS) (hlen)).mono ?_
  rintro e w7 ⟨rfl, F7⟩
  have z7 := F7.size
  have E7 := Ext.trans E6 F7
  replace ox1 := Fmt.Own.ext F7 ox1
  replace ox2 := Ext.owns F7 ox2
  replace og := Ext.owns F7 og
  replace CS := Ext.trans CS F7
  rw [show decide (lostL x1 x2 x3 = lostL x1 x2 x3) = true from decide_eq_true rfl]
  go_wp2_with fail
  refine (toFormatS_rd x1 _ _ (Fmt.Rd.mono E7 h1) n1 nn1).mono ?_
  rintro e w8 ⟨u_oy1, rfl, oy1, F8⟩
  have z8 := F8.size
  have E8 := Ext.trans E7 F8
  replace ox1 := Fmt.Own.ext F8 ox1
  replace ox2 := Ext.owns F8 ox2
  replace og := Ext.owns F8 og
  replace CS := Ext.trans CS F8
  go_wp2_with fail
  refine (eqFormatS_rd x1 x1 _ _ _ (Fmt.Own.rd ox1) (Fmt.Own.rd oy1) n1 nn1).mono ?_
  rintro e w9 ⟨rfl, F9⟩
  have z9 := F9.size
  have E9 := Ext.trans E8 F9
  replace ox1 := Fmt.Own.ext F9 ox1
  replace ox2 := Ext.owns F9 ox2
  replace og := Ext.owns F9 og
  replace oy1 := Fmt.Own.ext F9 oy1
  replace CS := Ext.trans CS F9
  rw [show decide (x1 = x1) = true from decide_eq_true rfl]
  go_wp2_with fail
  refine (toCopyS_ok x2 _ _ (Reads.mono E9 h2) n2).mono ?_
  rintro e w10 ⟨u_oy2, rfl, oy2, F10⟩
  have z10 := F10.size
  have E10 := Ext.trans E9 F10
  replace ox1 := Fmt.Own.ext F10 ox1
  replace ox2 := Ext.owns F10 ox2
  replace og := Ext.owns F10 og
  replace CS := Ext.trans CS F10
  go_wp2_with fail
  refine (eqCopyS_ok x2 x2 _ _ _ (Reads.of_owns ox2) (Reads.of_owns oy2) n2).mono ?_
  rintro e w11 ⟨rfl, F11⟩
  have z11 := F11.size
  have E11 := Ext.trans E10 F11
  replace ox1 := Fmt.Own.ext F11 ox1
  replace ox2 := Ext.owns F11 ox2
  replace og := Ext.owns F11 og
  replace oy2 := Ext.owns F11 oy2
  replace CS := Ext.trans CS F11
  rw [show decide (x2 = x2) = true from decide_eq_true rfl]
  go_wp2_with fail
  refine (markFormatS_rd w3.heap.size w4.heap.size _ _ (1) _ ox1 (by omega) (by omega) (by omega)).mono ?_
  rintro e w12 ⟨kk1, rfl, ka1, kb1, T12⟩
  have z12 := T12.size
  have E12 := Turned.below' T12 E11 (by omega)
  replace ox2 := owns_above T12 ox2 (by omega)
  replace og := owns_above T12 og (by omega)
  replace CS := Turned.below' T12 CS (by omega)
  go_wp2_with fail
  refine (markCopyS_ok w4.heap.size w5.heap.size _ _ _ (kk1) _ ox2 qx2 n2 (by omega) (by omega)).mono ?_
  rintro e w13 ⟨rfl, om2, T13⟩
  have z13 := T13.size
  have E13 := Turned.below' T13 E12 (by omega)
  replace og := owns_above T13 og (by omega)
  replace CS := Turned.below' T13 CS (by omega)
  have kpos : ¬ (kk1 + ((x2.length * 4 : Nat) : Int)) < 0 := by omega
  go_wp2_with fail
  refine (eqIntS_ok (lostL x1 x2 x3) (lostL x1 x2 x3) _ _ _ (Reads.of_owns og) (Reads.mono CS RS) (hlen)).mono ?_
  rintro e w14 ⟨rfl, F14⟩
  have z14 := F14.size
  have E14 := Ext.trans E13 F14
  replace og := Ext.owns F14 og
  replace CS := Ext.trans CS F14
  rw [show decide (lostL x1 x2 x3 = lostL x1 x2 x3) = true from decide_eq_true rfl]
  go_wp2_with fail
  refine (markIntS_ok w5.heap.size w6.heap.size _ _ _ 1 _ og qg hlen (by omega) (by omega)).mono ?_
  rintro e w15 ⟨rfl, om, T15⟩
  have z15 := T15.size
  have E15 := Turned.below' T15 E14 (by omega)
  replace CS := Turned.below' T15 CS (by omega)
  go_wp2_with fail
  refine (heldIntS_ok _ _ 1 _ (Reads.of_owns om) hlen (by omega) (by omega)).mono ?_
  rintro e w' ⟨rfl, rfl⟩
  go_wp2_with fail
  refine (toFormatS_rd x1 _ _ (Fmt.Rd.mono E15 h1) n1 nn1).mono ?_
  rintro e w16 ⟨u_ob1, rfl, ob1, F16⟩
  have z16 := F16.size
  have E16 := Ext.trans E15 F16
  replace om := Ext.owns F16 om
  replace CS := Ext.trans CS F16
  go_wp2_with fail
  refine (toCopyS_ok x2 _ _ (Reads.mono E16 h2) n2).mono ?_
  rintro e w17 ⟨u_ob2, rfl, ob2, F17⟩
  have z17 := F17.size
  have E17 := Ext.trans E16 F17
  replace om := Ext.owns F17 om
  replace ob1 := Fmt.Own.ext F17 ob1
  replace CS := Ext.trans CS F17
  go_wp2_with fail
  refine (lostRecords_ok x1 x2 x3 _ _ _ (Fmt.Own.rd ob1) (Reads.of_owns ob2) (Fmt.Own.room ob1) n1 nn1 nm1 n2).mono ?_
  rintro e w18 ⟨vh, rfl, oh, F18⟩
  have z18 := F18.size
  have E18 := Ext.trans E17 F18
  replace om := Ext.owns F18 om
  replace ob1 := Fmt.Own.ext F18 ob1
  replace ob2 := Ext.owns F18 ob2
  replace CS := Ext.trans CS F18
  go_wp2_with fail
  refine (eqIntS_ok (lostL x1 x2 x3) (lostL x1 x2 x3) _ _ _ (Reads.of_owns oh) (Reads.mono CS RS) (hlen)).mono ?_
  rintro e w19 ⟨rfl, F19⟩
  have z19 := F19.size
  have E19 := Ext.trans E18 F19
  replace om := Ext.owns F19 om
  replace oh := Ext.owns F19 oh
  replace CS := Ext.trans CS F19
  rw [show decide (lostL x1 x2 x3 = lostL x1 x2 x3) = true from decide_eq_true rfl]
  go_wp2_with fail
  refine (heldIntS_ok _ _ 1 _ (Reads.of_owns om) hlen (by omega) (by omega)).mono ?_
  rintro e w' ⟨rfl, rfl⟩
  go_wp2
  go_ret
  exact ⟨rfl, E19⟩

set_option maxRecDepth 100000 in
theorem lifted (os : Os) (started : os.Started) (H : Type) (enc : TypeId × Value → H) :
    ReturnsInHanded {} Tryd.checked os 12 .any (fun w args => (Rows.fnExactLostRecordsSpec.pre enc Tryd.prog Tryd.f12 [] false w args ∧ laidMetH Tryd.prog laidList w) ∧ sizedMet enc Tryd.prog Tryd.f12 (OpenSpec.ofChange Rows.fnExactLostRecordsSpec) false w args) (Rows.fnExactLostRecordsSpec.post enc Tryd.prog Tryd.f12 false true false false) := by
  refine returnsInHanded_of_change_and (C := Tryd.checked) (X := fun w _ => laidMetH Tryd.prog laidList w) (fun _ _ _ hh h => h.of_heap hh) ownK started (by kernel_rfl) Tryd.func12
    (ChangeSpec.witness_at (enc := enc) (C := Tryd.checked) (os := os) (X := fun w _ => laidMetH Tryd.prog laidList w) false (laidWorld os) #[.slice none 0 0, .slice none 0 0, .int .i64 0] 8 rfl (by kernel_rfl) (by kernel_rfl) (by kernel_rfl) (by kernel_rfl) (by kernel_rfl) (laid_met os _)) ?_
  intro W base args ds gs before hval0 hW hcnd _ _ _
  have hval : ∀ (j : Nat) t v, Tryd.f12.params[j]? = some t → args[j]? = some v → Value.okWide Tryd.prog W .any base t v := hval0
  have hW' := hW
  obtain ⟨p, q, hA0, hV, rfl, hfz, hnd⟩ := hW
  have hA : DataW.TrodAll enc Tryd.prog W 0 (fun _ => true) true Tryd.f12.params.toList args.toList ds p := hA0
  rw [Tryd.params12] at hA hval
  obtain ⟨v1, vs1, d1, ds1, p1, q1, hargs, rfl, rfl, h1, r1⟩ := trodAll_cons hA
  obtain ⟨v2, vs2, d2, ds2, p2, q2, rfl, rfl, rfl, h2, r2⟩ := trodAll_cons r1
  obtain ⟨v3, vs3, d3, ds3, p3, q3, rfl, rfl, rfl, h3, r3⟩ := trodAll_cons r2
  obtain ⟨rfl, rfl, rfl⟩ := trodAll_nil r3
  obtain rfl : args = #[v1, v2, v3] := by cases args; simp_all
  obtain ⟨rfl, rfl⟩ := trodVars_none hV
  have s1 := okWide_slice Tryd.underlying22 (hval 0 22 v1 rfl rfl)
  have k1 := h1
  have lt1 : ∀ x ∈ p1, x.block < W.heap.size := by obtain ⟨m, hm⟩ := k1; exact DataW.trod_lt m _ _ _ hm
  obtain ⟨x1, y1, m1, mm1⟩ := openFormatS s1 h1
  have s2 := okWide_slice Tryd.underlying42 (hval 1 42 v2 rfl rfl)
  have k2 := h2
  have lt2 : ∀ x ∈ p2, x.block < W.heap.size := by obtain ⟨m, hm⟩ := k2; exact DataW.trod_lt m _ _ _ hm
  obtain ⟨x2, y2, m2⟩ := openCopyS s2 h2
  obtain ⟨x3, rfl, rfl, rfl, wf3⟩ := open_int Tryd.underlying3 (hval 2 3 v3 rfl rfl) h3
  clear hA0 hval0
  refine (walk x1 v1 x2 v2 x3 W y1 m1 mm1 y2 m2).mono fun e W' ⟨he, bel⟩ => ?_
  subst he
  exact ⟨_, rfl, _, _, _, [], _, [], hW', trodAll_mk1 (shut_bool Tryd.underlying4 _), (trodAll_cons_mk (Below.trod laidOut (by kernel_rfl) (of_decide_eq_true (by kernel_rfl)) k1 bel lt1) (trodAll_cons_mk (Below.trod laidOut (by kernel_rfl) (of_decide_eq_true (by kernel_rfl)) k2 bel lt2) (trodAll_cons_mk (shut_int Tryd.underlying3 wf3) trodAll_mk0))), rfl, bel.frame _, fun h => by cases h⟩

theorem over : Rows.fnExactLostRecordsRow.holds Tryd.pinned (OpenSpec.ofChange Rows.fnExactLostRecordsSpec) :=
  OpenClaim.holds_of_wide 12 Tryd.f12 rfl rfl rfl rfl rfl rfl rfl ⟨rfl, rfl, rfl, rfl, rfl⟩ rfl rfl rfl rfl rfl (by kernel_rfl) Tryd.func12 (by kernel_rfl)
    (of_decide_eq_true (by kernel_rfl)) (by unfold Func.isWrapper; first | (rw [if_pos (by decide +kernel)]; kernel_rfl) | (rw [if_neg (by decide +kernel)]; exact ⟨rfl, rfl⟩))
    (fun os started H enc _ => lifted os started H enc)


theorem proved : Rows.FnExactLostRecordsCardSaid :=
  Claim7.holds_tied_plain_at .later [] [.data, .pinned] true Rows.fnExactLostRecordsCard.stood.harness false
    over (fun _ h => by cases h) (by kernel_rfl) (fun _ h => by cases h) fnExactLostRecords_row_tie rfl ⟨rfl, rfl⟩ (by kernel_rfl) rfl
    (fun f fn hf hfn => by
      obtain rfl : f = 12 := Option.some.inj ((show Tryd.prog.funcNamed Rows.fnExactLostRecordsRow.func = some 12 by kernel_rfl).symm.trans hf) |>.symm
      obtain rfl : fn = Tryd.f12 := (Option.some.inj (Tryd.func12.symm.trans hfn)).symm
      exact ⟨by kernel_rfl, fun j t ht => by
        have hall : ∀ t ∈ Tryd.f12.params, Tryd.prog.wantsStandIn t = false := by
          rw [Tryd.params12]
          intro t h
          simp only [List.mem_toArray, List.mem_cons, List.not_mem_nil, or_false] at h
          rcases h with rfl | rfl | rfl <;> kernel_rfl
        exact hall t (Array.mem_of_getElem? ht)⟩)
    (by kernel_rfl)
#print axioms proved
end Go.Proofs.YtefabcnifbnehaaDoor.fnExactLostRecords
