/- For all arguments the law FnExactShortestPath returns true, and its arguments read as they did; no condition. -/
import Derived.Test.YtefabcnifbnehaaDoorRows
import Derived.Test.YtefabcnifbnehaaDoorLaid
import Derived.Test.YtefabcnifbnehaaDoorTie
import Derived.Test.YtefabcnifbnehaaDoorCards
import Derived.Test.YtefabcnifbnehaaDoorOpenS
import Derived.Test.YtefabcnifbnehaaDoorOpenF
import Derived.Test.YtefabcnifbnehaaDoorNestFormat
import Derived.Test.YtefabcnifbnehaaDoorPathLen
import Derived.SevenTiedAt
import Derived.ProofKit
import Derived.OpenShut
import Derived.ShutString
import Derived.ChangeOld
namespace Go.Proofs.YtefabcnifbnehaaDoor.fnExactShortestPath
open Go.ChangeShapes Go.WideShapes Go.ChangeAt Go.RowKit Go.Sort Go.Rd
set_option linter.unusedVariables false

theorem laidOut : laidOutB Tryd.prog = true := by kernel_rfl

set_option maxRecDepth 4000 in
set_option maxHeartbeats 4000000 in
theorem walk (x1 : List Fmt) (v1 : Value) (x2 : Int) (x3 : Int) (x4 : Int) (w : World) (h1 : Fmt.Rd w v1 x1) (m1 : x1.length ≤ maxLen) (mm1 : ∀ r ∈ x1, r.na.length ≤ maxLen ∧ r.rd.length ≤ maxLen) :
    Calls Tryd.prog 9 #[v1, .int .i64 x2, .int .i64 x3, .int .i64 x4] w fun e w' => e = .returned (.bool true) ∧ Ext w w' := by
  obtain ⟨a1, c1, rfl⟩ := h1.shape
  by_cases l1 : (((x1.length + Fmt.wt x1) : Nat) : Int) ≤ 1048576
  case neg =>
    have r1 := Lib.hid (szL_gt l1)
    go_enter Tryd.func9, Tryd.ntmps9
    go_wp2_with fail
    refine (szFormatS_rd x1 _ (1048576) _ h1 m1 mm1 (by omega) (by omega)).mono ?_
    rintro e wz1 ⟨rfl, Fz1⟩
    have Ez1 := Fz1
    rw [r1.out]
    have zz1 := Fz1.size
    go_wp2
    go_ret
    exact ⟨rfl, Ez1⟩
  have r1 : Hid (szL (1048576) (x1.length + Fmt.wt x1) = 1048576 - ((x1.length : Int) + (Fmt.wt x1 : Int))) := Lib.hid (by rw [szL_le l1]; omega)
  have p1 : (0 : Int) ≤ 1048576 - ((x1.length : Int) + (Fmt.wt x1 : Int)) := by omega
  have n1 : x1.length ≤ 1048576 := by omega
  have nm1 : ∀ r ∈ x1, r.na.length ≤ maxLen := fun r hr => (mm1 r hr).1
  have nn1 : ∀ r ∈ x1, r.rd.length ≤ 1048576 := fun r hr => by have := Fmt.le_wt hr; omega
  go_enter Tryd.func9, Tryd.ntmps9
  go_wp2_with fail
  refine (szFormatS_rd x1 _ (1048576) _ h1 m1 mm1 (by omega) (by omega)).mono ?_
  rintro e wz1 ⟨rfl, Fz1⟩
  have Ez1 := Fz1
  rw [r1.out]
  have zz1 := Fz1.size
  go_wp2_with fail
  refine (toFormatS_rd x1 _ _ (Fmt.Rd.mono Ez1 h1) n1 nn1).mono ?_
  rintro e w1 ⟨u_oa1, rfl, oa1, F1⟩
  have z1 := F1.size
  have E1 := Ext.trans Ez1 F1
  go_wp2_with fail
  refine (specShortestPath_ok x1 x2 x3 x4 _ _ (Fmt.Own.rd oa1) n1 nn1 nm1).mono ?_
  rintro e w2 ⟨vs, rfl, RS, F2⟩
  have z2 := F2.size
  have E2 := Ext.trans E1 F2
  replace oa1 := Fmt.Own.ext F2 oa1
  have CS : Ext w2 w2 := Ext.refl _
  have hlen : ((pathR x1 x2 x3 x4).getD []).length ≤ 1048576 := Nat.le_trans (pathR_len x1 x2 x3 x4) n1
  go_wp2_with fail
  refine (toFormatS_rd x1 _ _ (Fmt.Rd.mono E2 h1) n1 nn1).mono ?_
  rintro e w3 ⟨u_ox1, rfl, ox1, F3⟩
  have z3 := F3.size
  have E3 := Ext.trans E2 F3
  replace CS := Ext.trans CS F3
  go_wp2_with fail
  refine (shortestPath_ok x1 x2 x3 x4 _ _ (Fmt.Own.rd ox1) (Fmt.Own.room ox1) n1 nn1 nm1).mono ?_
  rintro e w4 ⟨vg, rfl, og, F4⟩
  have z4 := F4.size
  have E4 := Ext.trans E3 F4
  replace ox1 := Fmt.Own.ext F4 ox1
  replace CS := Ext.trans CS F4
  have qg : ∀ j, Value.ownBlock vg = some j → j < w4.heap.size := fun j hj => (World.ownsRow.lt og j hj).2
  go_wp2_with fail
  refine (eqIntS_ok ((pathR x1 x2 x3 x4).getD []) ((pathR x1 x2 x3 x4).getD []) _ _ _ (Reads.of_owns og) (Reads.mono CS RS) (hlen)).mono ?_
  rintro e w5 ⟨rfl, F5⟩
  have z5 := F5.size
  have E5 := Ext.trans E4 F5
  replace ox1 := Fmt.Own.ext F5 ox1
  replace og := Ext.owns F5 og
  replace CS := Ext.trans CS F5
  rw [show decide ((pathR x1 x2 x3 x4).getD [] = (pathR x1 x2 x3 x4).getD []) = true from decide_eq_true rfl]
  go_wp2_with fail
  refine (toFormatS_rd x1 _ _ (Fmt.Rd.mono E5 h1) n1 nn1).mono ?_
  rintro e w6 ⟨u_oy1, rfl, oy1, F6⟩
  have z6 := F6.size
  have E6 := Ext.trans E5 F6
  replace ox1 := Fmt.Own.ext F6 ox1
  replace og := Ext.owns F6 og
  replace CS := Ext.trans CS F6
  go_wp2_with fail
  refine (eqFormatS_rd x1 x1 _ _ _ (Fmt.Own.rd ox1) (Fmt.Own.rd oy1) n1 nn1).mono ?_
  rintro e w7 ⟨rfl, F7⟩
  have z7 := F7.size
  have E7 := Ext.trans E6 F7
  replace ox1 := Fmt.Own.ext F7 ox1
  replace og := Ext.owns F7 og
  replace oy1 := Fmt.Own.ext F7 oy1
  replace CS := Ext.trans CS F7
  rw [show decide (x1 = x1) = true from decide_eq_true rfl]
  go_wp2_with fail
  refine (markFormatS_rd w2.heap.size w3.heap.size _ _ (1) _ ox1 (by omega) (by omega) (by omega)).mono ?_
  rintro e w8 ⟨kk1, rfl, ka1, kb1, T8⟩
  have z8 := T8.size
  have E8 := Turned.below' T8 E7 (by omega)
  replace og := owns_above T8 og (by omega)
  replace CS := Turned.below' T8 CS (by omega)
  have kpos : ¬ (kk1) < 0 := by omega
  go_wp2_with fail
  refine (eqIntS_ok ((pathR x1 x2 x3 x4).getD []) ((pathR x1 x2 x3 x4).getD []) _ _ _ (Reads.of_owns og) (Reads.mono CS RS) (hlen)).mono ?_
  rintro e w9 ⟨rfl, F9⟩
  have z9 := F9.size
  have E9 := Ext.trans E8 F9
  replace og := Ext.owns F9 og
  replace CS := Ext.trans CS F9
  rw [show decide ((pathR x1 x2 x3 x4).getD [] = (pathR x1 x2 x3 x4).getD []) = true from decide_eq_true rfl]
  go_wp2_with fail
  refine (markIntS_ok w3.heap.size w4.heap.size _ _ _ 1 _ og qg hlen (by omega) (by omega)).mono ?_
  rintro e w10 ⟨rfl, om, T10⟩
  have z10 := T10.size
  have E10 := Turned.below' T10 E9 (by omega)
  replace CS := Turned.below' T10 CS (by omega)
  go_wp2_with fail
  refine (heldIntS_ok _ _ 1 _ (Reads.of_owns om) hlen (by omega) (by omega)).mono ?_
  rintro e w' ⟨rfl, rfl⟩
  go_wp2_with fail
  refine (toFormatS_rd x1 _ _ (Fmt.Rd.mono E10 h1) n1 nn1).mono ?_
  rintro e w11 ⟨u_ob1, rfl, ob1, F11⟩
  have z11 := F11.size
  have E11 := Ext.trans E10 F11
  replace om := Ext.owns F11 om
  replace CS := Ext.trans CS F11
  go_wp2_with fail
  refine (shortestPath_ok x1 x2 x3 x4 _ _ (Fmt.Own.rd ob1) (Fmt.Own.room ob1) n1 nn1 nm1).mono ?_
  rintro e w12 ⟨vh, rfl, oh, F12⟩
  have z12 := F12.size
  have E12 := Ext.trans E11 F12
  replace om := Ext.owns F12 om
  replace ob1 := Fmt.Own.ext F12 ob1
  replace CS := Ext.trans CS F12
  go_wp2_with fail
  refine (eqIntS_ok ((pathR x1 x2 x3 x4).getD []) ((pathR x1 x2 x3 x4).getD []) _ _ _ (Reads.of_owns oh) (Reads.mono CS RS) (hlen)).mono ?_
  rintro e w13 ⟨rfl, F13⟩
  have z13 := F13.size
  have E13 := Ext.trans E12 F13
  replace om := Ext.owns F13 om
  replace oh := Ext.owns F13 oh
  replace CS := Ext.trans CS F13
  rw [show decide ((pathR x1 x2 x3 x4).getD [] = (pathR x1 x2 x3 x4).getD []) = true from decide_eq_true rfl]
  go_wp2_with fail
  refine (heldIntS_ok _ _ 1 _ (Reads.of_owns om) hlen (by omega) (by omega)).mono ?_
  rintro e w' ⟨rfl, rfl⟩
  go_wp2
  go_ret
  exact ⟨rfl, E13⟩

set_option maxRecDepth 100000 in
theorem lifted (os : Os) (started : os.Started) (H : Type) (enc : TypeId × Value → H) :
    ReturnsInHanded {} Tryd.checked os 9 .any (fun w args => (Rows.fnExactShortestPathSpec.pre enc Tryd.prog Tryd.f9 [] false w args ∧ laidMetH Tryd.prog laidList w) ∧ sizedMet enc Tryd.prog Tryd.f9 (OpenSpec.ofChange Rows.fnExactShortestPathSpec) false w args) (Rows.fnExactShortestPathSpec.post enc Tryd.prog Tryd.f9 false true false false) := by
  refine returnsInHanded_of_change_and (C := Tryd.checked) (X := fun w _ => laidMetH Tryd.prog laidList w) (fun _ _ _ hh h => h.of_heap hh) ownK started (by kernel_rfl) Tryd.func9
    (ChangeSpec.witness_at (enc := enc) (C := Tryd.checked) (os := os) (X := fun w _ => laidMetH Tryd.prog laidList w) false (laidWorld os) #[.slice none 0 0, .int .i64 0, .int .i64 0, .int .i64 0] 8 rfl (by kernel_rfl) (by kernel_rfl) (by kernel_rfl) (by kernel_rfl) (by kernel_rfl) (laid_met os _)) ?_
  intro W base args ds gs before hval0 hW hcnd _ _ _
  have hval : ∀ (j : Nat) t v, Tryd.f9.params[j]? = some t → args[j]? = some v → Value.okWide Tryd.prog W .any base t v := hval0
  have hW' := hW
  obtain ⟨p, q, hA0, hV, rfl, hfz, hnd⟩ := hW
  have hA : DataW.TrodAll enc Tryd.prog W 0 (fun _ => true) true Tryd.f9.params.toList args.toList ds p := hA0
  rw [Tryd.params9] at hA hval
  obtain ⟨v1, vs1, d1, ds1, p1, q1, hargs, rfl, rfl, h1, r1⟩ := trodAll_cons hA
  obtain ⟨v2, vs2, d2, ds2, p2, q2, rfl, rfl, rfl, h2, r2⟩ := trodAll_cons r1
  obtain ⟨v3, vs3, d3, ds3, p3, q3, rfl, rfl, rfl, h3, r3⟩ := trodAll_cons r2
  obtain ⟨v4, vs4, d4, ds4, p4, q4, rfl, rfl, rfl, h4, r4⟩ := trodAll_cons r3
  obtain ⟨rfl, rfl, rfl⟩ := trodAll_nil r4
  obtain rfl : args = #[v1, v2, v3, v4] := by cases args; simp_all
  obtain ⟨rfl, rfl⟩ := trodVars_none hV
  have s1 := okWide_slice Tryd.underlying22 (hval 0 22 v1 rfl rfl)
  have k1 := h1
  have lt1 : ∀ x ∈ p1, x.block < W.heap.size := by obtain ⟨m, hm⟩ := k1; exact DataW.trod_lt m _ _ _ hm
  obtain ⟨x1, y1, m1, mm1⟩ := openFormatS s1 h1
  obtain ⟨x2, rfl, rfl, rfl, wf2⟩ := open_int Tryd.underlying3 (hval 1 3 v2 rfl rfl) h2
  obtain ⟨x3, rfl, rfl, rfl, wf3⟩ := open_int Tryd.underlying3 (hval 2 3 v3 rfl rfl) h3
  obtain ⟨x4, rfl, rfl, rfl, wf4⟩ := open_int Tryd.underlying3 (hval 3 3 v4 rfl rfl) h4
  clear hA0 hval0
  refine (walk x1 v1 x2 x3 x4 W y1 m1 mm1).mono fun e W' ⟨he, bel⟩ => ?_
  subst he
  exact ⟨_, rfl, _, _, _, [], _, [], hW', trodAll_mk1 (shut_bool Tryd.underlying4 _), (trodAll_cons_mk (Below.trod laidOut (by kernel_rfl) (of_decide_eq_true (by kernel_rfl)) k1 bel lt1) (trodAll_cons_mk (shut_int Tryd.underlying3 wf2) (trodAll_cons_mk (shut_int Tryd.underlying3 wf3) (trodAll_cons_mk (shut_int Tryd.underlying3 wf4) trodAll_mk0)))), rfl, bel.frame _, fun h => by cases h⟩

theorem over : Rows.fnExactShortestPathRow.holds Tryd.pinned (OpenSpec.ofChange Rows.fnExactShortestPathSpec) :=
  OpenClaim.holds_of_wide 9 Tryd.f9 rfl rfl rfl rfl rfl rfl rfl ⟨rfl, rfl, rfl, rfl, rfl⟩ rfl rfl rfl rfl rfl (by kernel_rfl) Tryd.func9 (by kernel_rfl)
    (of_decide_eq_true (by kernel_rfl)) (by unfold Func.isWrapper; first | (rw [if_pos (by decide +kernel)]; kernel_rfl) | (rw [if_neg (by decide +kernel)]; exact ⟨rfl, rfl⟩))
    (fun os started H enc _ => lifted os started H enc)


theorem proved : Rows.FnExactShortestPathCardSaid :=
  Claim7.holds_tied_plain_at .later [] [.data, .pinned] true Rows.fnExactShortestPathCard.stood.harness false
    over (fun _ h => by cases h) (by kernel_rfl) (fun _ h => by cases h) fnExactShortestPath_row_tie rfl ⟨rfl, rfl⟩ (by kernel_rfl) rfl
    (fun f fn hf hfn => by
      obtain rfl : f = 9 := Option.some.inj ((show Tryd.prog.funcNamed Rows.fnExactShortestPathRow.func = some 9 by kernel_rfl).symm.trans hf) |>.symm
      obtain rfl : fn = Tryd.f9 := (Option.some.inj (Tryd.func9.symm.trans hfn)).symm
      exact ⟨by kernel_rfl, fun j t ht => by
        have hall : ∀ t ∈ Tryd.f9.params, Tryd.prog.wantsStandIn t = false := by
          rw [Tryd.params9]
          intro t h
          simp only [List.mem_toArray, List.mem_cons, List.not_mem_nil, or_false] at h
          rcases h with rfl | rfl | rfl | rfl <;> kernel_rfl
        exact hall t (Array.mem_of_getElem? ht)⟩)
    (by kernel_rfl)
#print axioms proved
end Go.Proofs.YtefabcnifbnehaaDoor.fnExactShortestPath
