/- For all arguments the law FnExactIsClerk returns true, and its arguments read as they did; no condition. -/
import Derived.Test.YtlablieekijgoaaDoorRows
import Derived.Test.YtlablieekijgoaaDoorLaid
import Derived.Test.YtlablieekijgoaaDoorTie
import Derived.Test.YtlablieekijgoaaDoorCards
import Derived.Test.YtlablieekijgoaaDoorFlatClerk
import Derived.Test.YtlablieekijgoaaDoorOpenC
import Derived.Test.YtlablieekijgoaaDoorOpenS
import Derived.Test.YtlablieekijgoaaDoorClks
import Derived.SevenTiedAt
import Derived.ProofKit
import Derived.OpenShut
import Derived.ShutString
import Derived.ChangeOld
namespace Go.Proofs.YtlablieekijgoaaDoor.fnExactIsClerk
open Go.ChangeShapes Go.WideShapes Go.ChangeAt Go.RowKit Go.Sort Go.Rd
set_option linter.unusedVariables false

theorem laidOut : laidOutB Tryd.prog = true := by kernel_rfl

set_option maxRecDepth 4000 in
set_option maxHeartbeats 4000000 in
theorem walk (x1 : Clk) (w : World) (m1 : x1.na.length ≤ maxLen) :
    Calls Tryd.prog 3 #[.agg #[.int .i64 x1.id, .string ⟨x1.na.toArray⟩, .int .i64 x1.ri, .int .i64 x1.fr, .int .i64 x1.un, .int .i64 x1.st]] w fun e w' => e = .returned (.bool true) ∧ Ext w w' := by
  obtain ⟨wB, hwB⟩ : ∃ wB, wB = (w.alloc (.cells #[.int .i64 x1.id, .string ⟨x1.na.toArray⟩, .int .i64 x1.ri, .int .i64 x1.fr, .int .i64 x1.un, .int .i64 x1.st] 23)) := ⟨_, rfl⟩
  have zB : wB.heap.size = w.heap.size + 1 := by rw [hwB]; simp
  have EzB : Ext w wB := by rw [hwB]; exact (Ext.refl w).alloc _
  have b1_0 : wB.cell? ⟨w.heap.size, 0, none⟩ = some (.int .i64 x1.id) := by rw [hwB]; simp
  have b1_1 : wB.cell? ⟨w.heap.size, 1, none⟩ = some (.string ⟨x1.na.toArray⟩) := by rw [hwB]; simp
  have b1_2 : wB.cell? ⟨w.heap.size, 2, none⟩ = some (.int .i64 x1.ri) := by rw [hwB]; simp
  have b1_3 : wB.cell? ⟨w.heap.size, 3, none⟩ = some (.int .i64 x1.fr) := by rw [hwB]; simp
  have b1_4 : wB.cell? ⟨w.heap.size, 4, none⟩ = some (.int .i64 x1.un) := by rw [hwB]; simp
  have b1_5 : wB.cell? ⟨w.heap.size, 5, none⟩ = some (.int .i64 x1.st) := by rw [hwB]; simp
  by_cases l1 : ((x1.na.length : Nat) : Int) ≤ 1048576
  case neg =>
    have r1 := Lib.hid (szL_gt l1)
    go_enter Tryd.func3, Tryd.ntmps3
    go_wp2_with fail
    rw [← hwB]; clear hwB
    refine (szClerk_ok x1 (1048576) _ m1 (by omega) (by omega)).mono ?_
    rintro e wz1 ⟨rfl, Fz1⟩
    have Ez1 := Ext.trans EzB Fz1
    rw [r1.out]
    have zz1 := Fz1.size
    replace b1_0 := Fz1.cell b1_0
    replace b1_1 := Fz1.cell b1_1
    replace b1_2 := Fz1.cell b1_2
    replace b1_3 := Fz1.cell b1_3
    replace b1_4 := Fz1.cell b1_4
    replace b1_5 := Fz1.cell b1_5
    go_wp2
    go_ret
    exact ⟨rfl, Ez1⟩
  have r1 := Lib.hid (szL_le l1)
  have p1 : (0 : Int) ≤ 1048576 - ((x1.na.length : Nat) : Int) := by omega
  have n1 : x1.na.length ≤ 1048576 := by omega
  go_enter Tryd.func3, Tryd.ntmps3
  go_wp2_with fail
  rw [← hwB]; clear hwB
  refine (szClerk_ok x1 (1048576) _ m1 (by omega) (by omega)).mono ?_
  rintro e wz1 ⟨rfl, Fz1⟩
  have Ez1 := Ext.trans EzB Fz1
  rw [r1.out]
  have zz1 := Fz1.size
  replace b1_0 := Fz1.cell b1_0
  replace b1_1 := Fz1.cell b1_1
  replace b1_2 := Fz1.cell b1_2
  replace b1_3 := Fz1.cell b1_3
  replace b1_4 := Fz1.cell b1_4
  replace b1_5 := Fz1.cell b1_5
  go_wp2_with fail
  refine (toClerk_ok _ _ _ _ _ _ _).mono ?_
  rintro e w1 ⟨rfl, F1⟩
  have z1 := F1.size
  have E1 := Ext.trans Ez1 F1
  replace b1_0 := F1.cell b1_0
  replace b1_1 := F1.cell b1_1
  replace b1_2 := F1.cell b1_2
  replace b1_3 := F1.cell b1_3
  replace b1_4 := F1.cell b1_4
  replace b1_5 := F1.cell b1_5
  go_wp2_with fail
  refine (specIsClerk_ok x1  _  m1).mono ?_
  rintro e w2 ⟨rfl, F2⟩
  have z2 := F2.size
  have E2 := Ext.trans E1 F2
  replace b1_0 := F2.cell b1_0
  replace b1_1 := F2.cell b1_1
  replace b1_2 := F2.cell b1_2
  replace b1_3 := F2.cell b1_3
  replace b1_4 := F2.cell b1_4
  replace b1_5 := F2.cell b1_5
  go_wp2_with fail
  refine (toClerk_ok _ _ _ _ _ _ _).mono ?_
  rintro e w3 ⟨rfl, F3⟩
  have z3 := F3.size
  have E3 := Ext.trans E2 F3
  replace b1_0 := F3.cell b1_0
  replace b1_1 := F3.cell b1_1
  replace b1_2 := F3.cell b1_2
  replace b1_3 := F3.cell b1_3
  replace b1_4 := F3.cell b1_4
  replace b1_5 := F3.cell b1_5
  go_wp2_with fail
  refine (isClerk_ok x1  _  m1).mono ?_
  rintro e w4 ⟨rfl, F4⟩
  have z4 := F4.size
  have E4 := Ext.trans E3 F4
  replace b1_0 := F4.cell b1_0
  replace b1_1 := F4.cell b1_1
  replace b1_2 := F4.cell b1_2
  replace b1_3 := F4.cell b1_3
  replace b1_4 := F4.cell b1_4
  replace b1_5 := F4.cell b1_5
  go_wp2
  go_ret
  exact ⟨rfl, E4⟩

set_option maxRecDepth 100000 in
theorem lifted (os : Os) (started : os.Started) (H : Type) (enc : TypeId × Value → H) :
    ReturnsInHanded {} Tryd.checked os 3 .any (fun w args => (Rows.fnExactIsClerkSpec.pre enc Tryd.prog Tryd.f3 [] false w args ∧ laidMetH Tryd.prog laidList w) ∧ sizedMet enc Tryd.prog Tryd.f3 (OpenSpec.ofChange Rows.fnExactIsClerkSpec) false w args) (Rows.fnExactIsClerkSpec.post enc Tryd.prog Tryd.f3 false true false false) := by
  refine returnsInHanded_of_change_and (C := Tryd.checked) (X := fun w _ => laidMetH Tryd.prog laidList w) (fun _ _ _ hh h => h.of_heap hh) ownK started (by kernel_rfl) Tryd.func3
    (ChangeSpec.witness_at (enc := enc) (C := Tryd.checked) (os := os) (X := fun w _ => laidMetH Tryd.prog laidList w) false (laidWorld os) #[.agg #[.int .i64 0, .string ⟨#[]⟩, .int .i64 0, .int .i64 0, .int .i64 0, .int .i64 0]] 8 rfl (by kernel_rfl) (by kernel_rfl) (by kernel_rfl) (by kernel_rfl) (by kernel_rfl) (laid_met os _)) ?_
  intro W base args ds gs before hval0 hW hcnd _ _ _
  have hval : ∀ (j : Nat) t v, Tryd.f3.params[j]? = some t → args[j]? = some v → Value.okWide Tryd.prog W .any base t v := hval0
  have hW' := hW
  obtain ⟨p, q, hA0, hV, rfl, hfz, hnd⟩ := hW
  have hA : DataW.TrodAll enc Tryd.prog W 0 (fun _ => true) true Tryd.f3.params.toList args.toList ds p := hA0
  rw [Tryd.params3] at hA hval
  obtain ⟨v1, vs1, d1, ds1, p1, q1, hargs, rfl, rfl, h1, r1⟩ := trodAll_cons hA
  obtain ⟨rfl, rfl, rfl⟩ := trodAll_nil r1
  obtain rfl : args = #[v1] := by cases args; simp_all
  obtain ⟨rfl, rfl⟩ := trodVars_none hV
  have s1 := okWide_struct Tryd.underlying23 (hval 0 23 v1 rfl rfl)
  have k1 := h1
  have lt1 : ∀ x ∈ p1, x.block < W.heap.size := by obtain ⟨m, hm⟩ := k1; exact DataW.trod_lt m _ _ _ hm
  obtain ⟨x1, rfl, m1⟩ := openClerk s1 h1
  clear hA0 hval0
  refine (walk x1 W m1).mono fun e W' ⟨he, bel⟩ => ?_
  subst he
  exact ⟨_, rfl, _, _, _, [], _, [], hW', trodAll_mk1 (shut_bool Tryd.underlying4 _), (trodAll_cons_mk (Below.trod laidOut (by kernel_rfl) (of_decide_eq_true (by kernel_rfl)) k1 bel lt1) trodAll_mk0), rfl, bel.frame _, fun h => by cases h⟩

theorem over : Rows.fnExactIsClerkRow.holds Tryd.pinned (OpenSpec.ofChange Rows.fnExactIsClerkSpec) :=
  OpenClaim.holds_of_wide 3 Tryd.f3 rfl rfl rfl rfl rfl rfl rfl ⟨rfl, rfl, rfl, rfl, rfl⟩ rfl rfl rfl rfl rfl (by kernel_rfl) Tryd.func3 (by kernel_rfl)
    (of_decide_eq_true (by kernel_rfl)) (by unfold Func.isWrapper; first | (rw [if_pos (by decide +kernel)]; kernel_rfl) | (rw [if_neg (by decide +kernel)]; exact ⟨rfl, rfl⟩))
    (fun os started H enc _ => lifted os started H enc)


theorem proved : Rows.FnExactIsClerkCardSaid :=
  Claim7.holds_tied_plain_at .later [] [.data, .pinned] true Rows.fnExactIsClerkCard.stood.harness false
    over (fun _ h => by cases h) (by kernel_rfl) (fun _ h => by cases h) fnExactIsClerk_row_tie rfl ⟨rfl, rfl⟩ (by kernel_rfl) rfl
    (fun f fn hf hfn => by
      obtain rfl : f = 3 := Option.some.inj ((show Tryd.prog.funcNamed Rows.fnExactIsClerkRow.func = some 3 by kernel_rfl).symm.trans hf) |>.symm
      obtain rfl : fn = Tryd.f3 := (Option.some.inj (Tryd.func3.symm.trans hfn)).symm
      exact ⟨by kernel_rfl, fun j t ht => by
        have hall : ∀ t ∈ Tryd.f3.params, Tryd.prog.wantsStandIn t = false := by
          rw [Tryd.params3]
          intro t h
          simp only [List.mem_toArray, List.mem_cons, List.not_mem_nil, or_false] at h
          rcases h with rfl <;> kernel_rfl
        exact hall t (Array.mem_of_getElem? ht)⟩)
    (by kernel_rfl)
#print axioms proved
end Go.Proofs.YtlablieekijgoaaDoor.fnExactIsClerk
