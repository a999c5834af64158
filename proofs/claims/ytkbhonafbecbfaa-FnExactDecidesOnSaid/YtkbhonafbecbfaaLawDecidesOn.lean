/- For all arguments the law FnExactDecidesOn returns true, and its arguments read as they did; no condition. -/
import Derived.Test.YtkbhonafbecbfaaRows
import Derived.Test.YtkbhonafbecbfaaOpenS
import Derived.Test.YtkbhonafbecbfaaOpenN
import Derived.Test.YtkbhonafbecbfaaNestRecord
import Derived.Test.YtkbhonafbecbfaaNestVersion
import Derived.Test.YtkbhonafbecbfaaDecides
import Derived.Test.YtkbhonafbecbfaaFlatRule
import Derived.Test.YtkbhonafbecbfaaBoxL
import Derived.Deep.RegionWith
import Derived.ProofKit
import Derived.OpenShut
import Derived.ShutString
import Derived.ChangeOld
namespace Go.Proofs.Ytkbhonafbecbfaa.fnExactDecidesOn
open Go.ChangeShapes Go.WideShapes Go.ChangeAt Go.RowKit Go.Sort Go.Rd
set_option linter.unusedVariables false

theorem own : ownKnob Try.prog.godebug = none := by kernel_rfl
theorem laidOut : laidOutB Try.prog = true := by kernel_rfl

set_option maxRecDepth 4000 in
set_option maxHeartbeats 4000000 in
theorem walk (x1 : List Ver) (v1 : Value) (x2 : Rec) (s2 : Value) (x3 : Int) (w : World) (h1 : Ver.Rd w v1 x1) (m1 : x1.length ≤ maxLen) (mm1 : ∀ r ∈ x1, r.rs.length ≤ maxLen) (h2 : Rec.At w (x2, s2)) (m2 : x2.evs.length ≤ maxLen) :
    Calls Try.prog 4 #[v1, .agg #[.int .i64 x2.id, .int .i64 x2.se, .int .i64 x2.ma, s2], .int .i64 x3] w fun e w' => e = .returned (.bool true) ∧ Ext w w' := by
  obtain ⟨a1, c1, rfl⟩ := h1.shape
  obtain ⟨a2, c2, hs2⟩ := Reads.shape h2
  simp only at hs2
  subst hs2
  obtain ⟨⟨⟨D1, D2, D3, D4⟩, D5⟩, hD⟩ : ∃ D, decV x1 x2 x3 = D := ⟨_, rfl⟩
  have HD := Lib.hid hD
  clear hD
  obtain ⟨wB, hwB⟩ : ∃ wB, wB = (w.alloc (.cells #[.int .i64 x2.id, .int .i64 x2.se, .int .i64 x2.ma, .slice a2 x2.evs.length c2] 34)) := ⟨_, rfl⟩
  have zB : wB.heap.size = w.heap.size + 1 := by rw [hwB]; simp
  have EzB : Ext w wB := by rw [hwB]; exact (Ext.refl w).alloc _
  have b2_0 : wB.cell? ⟨w.heap.size, 0, none⟩ = some (.int .i64 x2.id) := by rw [hwB]; simp
  have b2_1 : wB.cell? ⟨w.heap.size, 1, none⟩ = some (.int .i64 x2.se) := by rw [hwB]; simp
  have b2_2 : wB.cell? ⟨w.heap.size, 2, none⟩ = some (.int .i64 x2.ma) := by rw [hwB]; simp
  have b2_3 : wB.cell? ⟨w.heap.size, 3, none⟩ = some (.slice a2 x2.evs.length c2) := by rw [hwB]; simp
  by_cases l1 : (((x1.length + Ver.wt x1) : Nat) : Int) ≤ 1048576
  case neg =>
    have r1 := Lib.hid (szL_gt l1)
    go_enter Try.func4, Try.ntmps4
    go_wp2_with fail
    rw [← hwB]; clear hwB
    refine (szVersionS_rd x1 _ (1048576) _ (Ver.Rd.mono EzB h1) m1 mm1 (by omega) (by omega)).mono ?_
    rintro e wz1 ⟨rfl, Fz1⟩
    have Ez1 := Ext.trans EzB Fz1
    rw [r1.out]
    have zz1 := Fz1.size
    replace b2_0 := Fz1.cell b2_0
    replace b2_1 := Fz1.cell b2_1
    replace b2_2 := Fz1.cell b2_2
    replace b2_3 := Fz1.cell b2_3
    go_wp2
    go_ret
    exact ⟨rfl, Ez1⟩
  have r1 : Hid (szL (1048576) (x1.length + Ver.wt x1) = 1048576 - ((x1.length : Int) + (Ver.wt x1 : Int))) := Lib.hid (by rw [szL_le l1]; omega)
  have p1 : (0 : Int) ≤ 1048576 - ((x1.length : Int) + (Ver.wt x1 : Int)) := by omega
  by_cases l2 : ((x2.evs.length : Nat) : Int) ≤ 1048576 - ((x1.length : Int) + (Ver.wt x1 : Int))
  case neg =>
    have r2 := Lib.hid (szL_gt l2)
    go_enter Try.func4, Try.ntmps4
    go_wp2_with fail
    rw [← hwB]; clear hwB
    refine (szVersionS_rd x1 _ (1048576) _ (Ver.Rd.mono EzB h1) m1 mm1 (by omega) (by omega)).mono ?_
    rintro e wz1 ⟨rfl, Fz1⟩
    have Ez1 := Ext.trans EzB Fz1
    rw [r1.out]
    have zz1 := Fz1.size
    replace b2_0 := Fz1.cell b2_0
    replace b2_1 := Fz1.cell b2_1
    replace b2_2 := Fz1.cell b2_2
    replace b2_3 := Fz1.cell b2_3
    go_wp2_with fail
    refine (szRecord_ok x2 _ (1048576 - ((x1.length : Int) + (Ver.wt x1 : Int))) _ (Reads.mono Ez1 h2) m2 (by omega) (by omega)).mono ?_
    rintro e wz2 ⟨rfl, Fz2⟩
    have Ez2 := Ext.trans Ez1 Fz2
    rw [r2.out]
    have zz2 := Fz2.size
    replace b2_0 := Fz2.cell b2_0
    replace b2_1 := Fz2.cell b2_1
    replace b2_2 := Fz2.cell b2_2
    replace b2_3 := Fz2.cell b2_3
    go_wp2
    go_ret
    exact ⟨rfl, Ez2⟩
  have r2 := Lib.hid (szL_le l2)
  have p2 : (0 : Int) ≤ 1048576 - ((x1.length : Int) + (Ver.wt x1 : Int)) - ((x2.evs.length : Nat) : Int) := by omega
  have n1 : x1.length ≤ 1048576 := by omega
  have nn1 : ∀ r ∈ x1, r.rs.length ≤ 1048576 := fun r hr => by have := Ver.le_wt hr; omega
  have n2 : x2.evs.length ≤ 1048576 := by omega
  go_enter Try.func4, Try.ntmps4
  go_wp2_with fail
  rw [← hwB]; clear hwB
  refine (szVersionS_rd x1 _ (1048576) _ (Ver.Rd.mono EzB h1) m1 mm1 (by omega) (by omega)).mono ?_
  rintro e wz1 ⟨rfl, Fz1⟩
  have Ez1 := Ext.trans EzB Fz1
  rw [r1.out]
  have zz1 := Fz1.size
  replace b2_0 := Fz1.cell b2_0
  replace b2_1 := Fz1.cell b2_1
  replace b2_2 := Fz1.cell b2_2
  replace b2_3 := Fz1.cell b2_3
  go_wp2_with fail
  refine (szRecord_ok x2 _ (1048576 - ((x1.length : Int) + (Ver.wt x1 : Int))) _ (Reads.mono Ez1 h2) m2 (by omega) (by omega)).mono ?_
  rintro e wz2 ⟨rfl, Fz2⟩
  have Ez2 := Ext.trans Ez1 Fz2
  rw [r2.out]
  have zz2 := Fz2.size
  replace b2_0 := Fz2.cell b2_0
  replace b2_1 := Fz2.cell b2_1
  replace b2_2 := Fz2.cell b2_2
  replace b2_3 := Fz2.cell b2_3
  go_upto_region 8 with fail
  go_cut [8, 9] (fun c0 c1 wx => ∃ g : Nat, c0 = .pointer (some ⟨g, 0, none⟩) ∧ c1 = .bool (decide (0 ≤ D5)) ∧ wx.cell? ⟨g, 0, none⟩ = some (.int .i64 D1) ∧ wx.cell? ⟨g, 1, none⟩ = some (.int .i64 D2) ∧ wx.cell? ⟨g, 2, none⟩ = some (.int .i64 D3) ∧ wx.cell? ⟨g, 3, none⟩ = some (.int .i64 D4) ∧ Ext wz2 wx)
  case first =>
    have HS : Hid (∀ w', Ext wz2 w' → (w'.cell? ⟨w.heap.size, 0, none⟩ = some (.int .i64 x2.id) ∧ w'.cell? ⟨w.heap.size, 1, none⟩ = some (.int .i64 x2.se) ∧ w'.cell? ⟨w.heap.size, 2, none⟩ = some (.int .i64 x2.ma) ∧ w'.cell? ⟨w.heap.size, 3, none⟩ = some (.slice a2 x2.evs.length c2))) := Lib.hid fun w' hE => ⟨hE.cell b2_0, hE.cell b2_1, hE.cell b2_2, hE.cell b2_3⟩
    go_region_held3 (fun w' => w'.cell? ⟨w.heap.size, 0, none⟩ = some (.int .i64 x2.id) ∧ w'.cell? ⟨w.heap.size, 1, none⟩ = some (.int .i64 x2.se) ∧ w'.cell? ⟨w.heap.size, 2, none⟩ = some (.int .i64 x2.ma) ∧ w'.cell? ⟨w.heap.size, 3, none⟩ = some (.slice a2 x2.evs.length c2)) (exact HS.out _ (by repeat' (first | exact Ext.refl _ | assumption | refine Ext.drew ?_ | refine Ext.alloc ?_ _ | refine Ext.setCell ?_ (by first | exact Nat.le_refl _ | exact Gq1.size | exact Gq2.size | exact Gq3.size) _))) (first
      | (go_at_call 19; refine (toVersionS_rd x1 _ _ ?_ n1 nn1).mono ?_; exact Ver.Rd.mono (Ext.trans Ez2 (show Ext wz2 _ from (by repeat' (first | exact Ext.refl _ | assumption | refine Ext.drew ?_ | refine Ext.alloc ?_ _ | refine Ext.setCell ?_ (by first | exact Nat.le_refl _ | exact Gq1.size | exact Gq2.size | exact Gq3.size) _)))) h1; rintro e wq1 ⟨uq1, rfl, oq1, Fq0⟩; have Fq1 : Ext wz2 wq1 := (by first | exact Fq0 | exact Ext.trans ((Ext.refl _).alloc _) Fq0 | exact Ext.trans ((Ext.refl _).drew) Fq0 | exact Ext.trans (((Ext.refl _).alloc _).drew) Fq0); have Gq1 : Ext wz2 wq1 := Fq1; (try have bx1 : Box wq1 wz2.heap.size 38 [.int .i64 0, .int .i64 0, .int .i64 0, .int .i64 0] := Box.ext Fq0 (Box.new (wz2.drew) 38 [.int .i64 0, .int .i64 0, .int .i64 0, .int .i64 0])))
      | (go_at_call 20; refine (toRecord_ok x2 _ _ ?_ n2).mono ?_; exact Reads.mono (Ext.trans Ez2 (show Ext wz2 _ from (by repeat' (first | exact Ext.refl _ | assumption | refine Ext.drew ?_ | refine Ext.alloc ?_ _ | refine Ext.setCell ?_ (by first | exact Nat.le_refl _ | exact Gq1.size | exact Gq2.size | exact Gq3.size) _)))) h2; rintro e wq2 ⟨uq2, rfl, oq2, Fq0⟩; have Fq2 : Ext wq1 wq2 := (by first | exact Fq0 | exact Ext.trans ((Ext.refl _).alloc _) Fq0 | exact Ext.trans ((Ext.refl _).drew) Fq0 | exact Ext.trans (((Ext.refl _).alloc _).drew) Fq0); have Gq2 : Ext wz2 wq2 := Ext.trans Gq1 Fq2; (first | (have bx2 : Box wq2 wz2.heap.size 38 [.int .i64 0, .int .i64 0, .int .i64 0, .int .i64 0] := Box.ext Fq0 bx1) | (have bx2 : Box wq2 wq1.heap.size 38 [.int .i64 0, .int .i64 0, .int .i64 0, .int .i64 0] := Box.ext Fq0 (Box.new wq1 38 [.int .i64 0, .int .i64 0, .int .i64 0, .int .i64 0])) | skip))
      | (go_at_call 18; refine (specDecidesOn_ok x1 x2 x3 _ _ _ ?_ ?_ n1 nn1 n2).mono ?_; (first | exact Ver.Own.rd (Ver.Own.ext Fq2 oq1) | exact Ver.Rd.mono ((Ext.refl _).alloc _) (Ver.Own.rd (Ver.Own.ext Fq2 oq1))); (first | exact Reads.of_owns oq2 | exact Reads.mono ((Ext.refl _).alloc _) (Reads.of_owns oq2)); rw [HD.out]; rintro e wq3 ⟨rfl, Fq0⟩; have Gq3 : Ext wz2 wq3 := Ext.trans Gq2 (by first | exact Fq0 | exact Ext.trans ((Ext.refl _).alloc _) Fq0); (first | (have bx : Box wq3 wz2.heap.size 38 [.int .i64 0, .int .i64 0, .int .i64 0, .int .i64 0] := Box.ext Fq0 bx2; have e0 := bx.cell 0 rfl; have e1 := bx.cell 1 rfl; have e2 := bx.cell 2 rfl; have e3 := bx.cell 3 rfl; have f0 := bx.frozen 0; have f1 := bx.frozen 1; have f2 := bx.frozen 2; have f3 := bx.frozen 3) | (have bx : Box wq3 wq1.heap.size 38 [.int .i64 0, .int .i64 0, .int .i64 0, .int .i64 0] := Box.ext Fq0 bx2; have e0 := bx.cell 0 rfl; have e1 := bx.cell 1 rfl; have e2 := bx.cell 2 rfl; have e3 := bx.cell 3 rfl; have f0 := bx.frozen 0; have f1 := bx.frozen 1; have f2 := bx.frozen 2; have f3 := bx.frozen 3) | (have bx : Box wq3 wq2.heap.size 38 [.int .i64 0, .int .i64 0, .int .i64 0, .int .i64 0] := Box.ext Fq0 (Box.new wq2 38 [.int .i64 0, .int .i64 0, .int .i64 0, .int .i64 0]); have e0 := bx.cell 0 rfl; have e1 := bx.cell 1 rfl; have e2 := bx.cell 2 rfl; have e3 := bx.cell 3 rfl; have f0 := bx.frozen 0; have f1 := bx.frozen 1; have f2 := bx.frozen 2; have f3 := bx.frozen 3) | skip)))
    all_goals (try go_wp2)
    all_goals go_meet
    all_goals first
      | exact ⟨_, rfl, rfl, by simp, by simp, by simp, by simp, (by repeat' (first | exact Ext.refl _ | assumption | refine Ext.drew ?_ | refine Ext.alloc ?_ _ | refine Ext.setCell ?_ (by first | exact Nat.le_refl _ | exact Gq1.size | exact Gq2.size | exact Gq3.size) _))⟩
      | (have bz := (((bx.set 0 (.int .i64 D1)).set 1 (.int .i64 D2)).set 2 (.int .i64 D3)).set 3 (.int .i64 D4); exact ⟨_, rfl, rfl, bz.cell 0 rfl, bz.cell 1 rfl, bz.cell 2 rfl, bz.cell 3 rfl, (by repeat' (first | exact Ext.refl _ | assumption | refine Ext.drew ?_ | refine Ext.alloc ?_ _ | refine Ext.setCell ?_ (by first | exact Nat.le_refl _ | exact Gq1.size | exact Gq2.size | exact Gq3.size) _))⟩)
  case rest =>
  obtain ⟨w1, hw1⟩ : ∃ w', w' = wc := ⟨_, rfl⟩
  subst hw1
  obtain ⟨gq, rfl, rfl, dq0, dq1, dq2, dq3, F1⟩ := hcut
  have z1 := F1.size
  have E1 := Ext.trans Ez2 F1
  replace b2_0 := F1.cell b2_0
  replace b2_1 := F1.cell b2_1
  replace b2_2 := F1.cell b2_2
  replace b2_3 := F1.cell b2_3
  go_wp2_with fail
  refine (toVersionS_rd x1 _ _ (Ver.Rd.mono E1 h1) n1 nn1).mono ?_
  rintro e w2 ⟨u_ox1, rfl, ox1, F2⟩
  have z2 := F2.size
  have E2 := Ext.trans E1 F2
  replace b2_0 := F2.cell b2_0
  replace b2_1 := F2.cell b2_1
  replace b2_2 := F2.cell b2_2
  replace b2_3 := F2.cell b2_3
  replace dq0 := F2.cell dq0
  replace dq1 := F2.cell dq1
  replace dq2 := F2.cell dq2
  replace dq3 := F2.cell dq3
  go_wp2_with fail
  refine (toRecord_ok x2 _ _ (Reads.mono E2 h2) n2).mono ?_
  rintro e w3 ⟨u_ox2, rfl, ox2, F3⟩
  have z3 := F3.size
  have E3 := Ext.trans E2 F3
  replace ox1 := Ver.Own.ext F3 ox1
  replace b2_0 := F3.cell b2_0
  replace b2_1 := F3.cell b2_1
  replace b2_2 := F3.cell b2_2
  replace b2_3 := F3.cell b2_3
  replace dq0 := F3.cell dq0
  replace dq1 := F3.cell dq1
  replace dq2 := F3.cell dq2
  replace dq3 := F3.cell dq3
  obtain ⟨ca2, cc2, hsu2⟩ := (Reads.of_owns ox2).shape
  subst hsu2
  have qx2 : ∀ j, Value.ownBlock (.slice ca2 x2.evs.length cc2) = some j → j < w3.heap.size := fun j hj => (World.ownsRow.lt ox2 j hj).2
  obtain ⟨w4, hw4⟩ : ∃ w', w' = w3.alloc (.cells #[.int .i64 x2.id, .int .i64 x2.se, .int .i64 x2.ma, .slice ca2 x2.evs.length cc2] 45) := ⟨_, rfl⟩
  have F4 : Ext w3 w4 := by rw [hw4]; exact (Ext.refl _).alloc _
  have zz4 : w4.heap.size = w3.heap.size + 1 := by rw [hw4]; simp
  have z4 := F4.size
  have E4 := Ext.trans E3 F4
  replace ox1 := Ver.Own.ext F4 ox1
  replace ox2 := Ext.owns F4 ox2
  replace b2_0 := F4.cell b2_0
  replace b2_1 := F4.cell b2_1
  replace b2_2 := F4.cell b2_2
  replace b2_3 := F4.cell b2_3
  replace dq0 := F4.cell dq0
  replace dq1 := F4.cell dq1
  replace dq2 := F4.cell dq2
  replace dq3 := F4.cell dq3
  have x2_0 : w4.cell? ⟨w3.heap.size, 0, none⟩ = some (.int .i64 x2.id) := by rw [hw4]; simp
  have x2_1 : w4.cell? ⟨w3.heap.size, 1, none⟩ = some (.int .i64 x2.se) := by rw [hw4]; simp
  have x2_2 : w4.cell? ⟨w3.heap.size, 2, none⟩ = some (.int .i64 x2.ma) := by rw [hw4]; simp
  have x2_3 : w4.cell? ⟨w3.heap.size, 3, none⟩ = some (.slice ca2 x2.evs.length cc2) := by rw [hw4]; simp
  go_wp2_with fail
  rw [← hw4]; clear hw4
  refine (decidesOn_ok x1 x2 x3 _ _ _ (Ver.Own.rd ox1) (Reads.of_owns ox2)  n1 nn1 n2).mono ?_
  rw [HD.out]
  rintro e w5 ⟨rfl, F5⟩
  have z5 := F5.size
  have E5 := Ext.trans E4 F5
  replace ox1 := Ver.Own.ext F5 ox1
  replace ox2 := Ext.owns F5 ox2
  replace b2_0 := F5.cell b2_0
  replace b2_1 := F5.cell b2_1
  replace b2_2 := F5.cell b2_2
  replace b2_3 := F5.cell b2_3
  replace dq0 := F5.cell dq0
  replace dq1 := F5.cell dq1
  replace dq2 := F5.cell dq2
  replace dq3 := F5.cell dq3
  replace x2_0 := F5.cell x2_0
  replace x2_1 := F5.cell x2_1
  replace x2_2 := F5.cell x2_2
  replace x2_3 := F5.cell x2_3
  obtain ⟨w6, hw6⟩ : ∃ w', w' = w5.alloc (.cells #[.int .i64 D1, .int .i64 D2, .int .i64 D3, .int .i64 D4] 38) := ⟨_, rfl⟩
  have F6 : Ext w5 w6 := by rw [hw6]; exact (Ext.refl _).alloc _
  have aq0 := cell_alloc dq0
  have aq1 := cell_alloc dq1
  have aq2 := cell_alloc dq2
  have aq3 := cell_alloc dq3
  have xr_0 : w6.cell? ⟨w5.heap.size, 0, none⟩ = some (.int .i64 D1) := by rw [hw6]; simp
  have xr_1 : w6.cell? ⟨w5.heap.size, 1, none⟩ = some (.int .i64 D2) := by rw [hw6]; simp
  have xr_2 : w6.cell? ⟨w5.heap.size, 2, none⟩ = some (.int .i64 D3) := by rw [hw6]; simp
  have xr_3 : w6.cell? ⟨w5.heap.size, 3, none⟩ = some (.int .i64 D4) := by rw [hw6]; simp
  have z6 := F6.size
  have E6 := Ext.trans E5 F6
  replace ox1 := Ver.Own.ext F6 ox1
  replace ox2 := Ext.owns F6 ox2
  replace b2_0 := F6.cell b2_0
  replace b2_1 := F6.cell b2_1
  replace b2_2 := F6.cell b2_2
  replace b2_3 := F6.cell b2_3
  replace dq0 := F6.cell dq0
  replace dq1 := F6.cell dq1
  replace dq2 := F6.cell dq2
  replace dq3 := F6.cell dq3
  replace x2_0 := F6.cell x2_0
  replace x2_1 := F6.cell x2_1
  replace x2_2 := F6.cell x2_2
  replace x2_3 := F6.cell x2_3
  go_wp2_with fail
  rw [← hw6]; clear hw6
  refine (eqRule_ok D1 D2 D3 D4 D1 D2 D3 D4 _).mono ?_
  rintro e w7 ⟨rfl, F7⟩
  have z7 := F7.size
  have E7 := Ext.trans E6 F7
  replace ox1 := Ver.Own.ext F7 ox1
  replace ox2 := Ext.owns F7 ox2
  replace b2_0 := F7.cell b2_0
  replace b2_1 := F7.cell b2_1
  replace b2_2 := F7.cell b2_2
  replace b2_3 := F7.cell b2_3
  replace dq0 := F7.cell dq0
  replace dq1 := F7.cell dq1
  replace dq2 := F7.cell dq2
  replace dq3 := F7.cell dq3
  replace x2_0 := F7.cell x2_0
  replace x2_1 := F7.cell x2_1
  replace x2_2 := F7.cell x2_2
  replace x2_3 := F7.cell x2_3
  rw [show decide ((⟨D1, D2, D3, D4⟩ : Rul) = ⟨D1, D2, D3, D4⟩) = true from decide_eq_true rfl]
  go_wp2_with fail
  refine (toVersionS_rd x1 _ _ (Ver.Rd.mono E7 h1) n1 nn1).mono ?_
  rintro e w8 ⟨u_oy1, rfl, oy1, F8⟩
  have z8 := F8.size
  have E8 := Ext.trans E7 F8
  replace ox1 := Ver.Own.ext F8 ox1
  replace ox2 := Ext.owns F8 ox2
  replace b2_0 := F8.cell b2_0
  replace b2_1 := F8.cell b2_1
  replace b2_2 := F8.cell b2_2
  replace b2_3 := F8.cell b2_3
  replace x2_0 := F8.cell x2_0
  replace x2_1 := F8.cell x2_1
  replace x2_2 := F8.cell x2_2
  replace x2_3 := F8.cell x2_3
  go_wp2_with fail
  refine (eqVersionS_rd x1 x1 _ _ _ (Ver.Own.rd ox1) (Ver.Own.rd oy1) n1 nn1).mono ?_
  rintro e w9 ⟨rfl, F9⟩
  have z9 := F9.size
  have E9 := Ext.trans E8 F9
  replace ox1 := Ver.Own.ext F9 ox1
  replace ox2 := Ext.owns F9 ox2
  replace oy1 := Ver.Own.ext F9 oy1
  replace b2_0 := F9.cell b2_0
  replace b2_1 := F9.cell b2_1
  replace b2_2 := F9.cell b2_2
  replace b2_3 := F9.cell b2_3
  replace x2_0 := F9.cell x2_0
  replace x2_1 := F9.cell x2_1
  replace x2_2 := F9.cell x2_2
  replace x2_3 := F9.cell x2_3
  rw [show decide (x1 = x1) = true from decide_eq_true rfl]
  go_upto_region 16 with fail
  go_cut [62] (fun c wx => c = .bool false ∧ Ext w9 wx)
  case first =>
    go_region_with (first
      | (go_at_call 20; refine (toRecord_ok x2 _ _ ?_ n2).mono ?_; (first | exact Reads.mono E9 h2 | exact Reads.mono E9.drew h2); rintro e wq ⟨uq, rfl, oq, Fq0⟩; have Fq : Ext w9 wq := (by first | exact Fq0 | exact Ext.trans ((Ext.refl w9).drew) Fq0); obtain ⟨caq, ccq, hsq⟩ := (Reads.of_owns oq).shape; subst hsq; have j0 := Fq.cell x2_0; have j1 := Fq.cell x2_1; have j2 := Fq.cell x2_2; have j3 := Fq.cell x2_3)
      | (go_at_call 24; refine (eqRecord_ok x2 x2 _ _ _ ?_ ?_ n2).mono ?_; exact Reads.of_owns (Ext.owns Fq ox2); exact Reads.of_owns oq; rintro e wr ⟨rfl, Fr⟩; rw [show decide (x2 = x2) = true from decide_eq_true rfl]))
    all_goals (try go_wp2)
    all_goals go_meet
    all_goals exact ⟨rfl, Ext.trans Fq Fr⟩
  case rest =>
  obtain ⟨w10, hw10⟩ : ∃ w', w' = wc := ⟨_, rfl⟩
  subst hw10
  obtain ⟨rfl, F10⟩ := hcut
  have z10 := F10.size
  have E10 := Ext.trans E9 F10
  replace ox1 := Ver.Own.ext F10 ox1
  replace ox2 := Ext.owns F10 ox2
  replace b2_0 := F10.cell b2_0
  replace b2_1 := F10.cell b2_1
  replace b2_2 := F10.cell b2_2
  replace b2_3 := F10.cell b2_3
  replace x2_0 := F10.cell x2_0
  replace x2_1 := F10.cell x2_1
  replace x2_2 := F10.cell x2_2
  replace x2_3 := F10.cell x2_3
  go_wp2
  go_ret
  exact ⟨rfl, E10⟩

set_option maxRecDepth 100000 in
theorem lifted (os : Os) (started : os.Started) (H : Type) (enc : TypeId × Value → H) :
    ReturnsInHanded {} Try.checked os 4 .any (Rows.fnExactDecidesOnSpec.pre6 enc Try.prog Try.f4 Rows.fnExactDecidesOnRow.domain false) (Rows.fnExactDecidesOnSpec.post enc Try.prog Try.f4 false true false false) := by
  refine returnsInHanded_of_change (C := Try.checked) own started (by kernel_rfl) Try.func4
    (ChangeSpec.witness6 (enc := enc) (C := Try.checked) false ⟨#[], #[.slice none 0 0, .agg #[.int .i64 0, .int .i64 0, .int .i64 0, .slice none 0 0], .int .i64 0], []⟩ 8 (by kernel_rfl) (by kernel_rfl) (by kernel_rfl) (by kernel_rfl)) ?_
  intro W base args ds gs before hval0 hW hcnd _
  have hval : ∀ (j : Nat) t v, Try.f4.params[j]? = some t → args[j]? = some v → Value.okWide Try.prog W .any base t v := hval0
  have hW' := hW
  obtain ⟨p, q, hA0, hV, rfl, hfz, hnd⟩ := hW
  have hA : DataW.TrodAll enc Try.prog W 0 (fun _ => true) true Try.f4.params.toList args.toList ds p := hA0
  rw [Try.params4] at hA hval
  obtain ⟨v1, vs1, d1, ds1, p1, q1, hargs, rfl, rfl, h1, r1⟩ := trodAll_cons hA
  obtain ⟨v2, vs2, d2, ds2, p2, q2, rfl, rfl, rfl, h2, r2⟩ := trodAll_cons r1
  obtain ⟨v3, vs3, d3, ds3, p3, q3, rfl, rfl, rfl, h3, r3⟩ := trodAll_cons r2
  obtain ⟨rfl, rfl, rfl⟩ := trodAll_nil r3
  obtain rfl : args = #[v1, v2, v3] := by cases args; simp_all
  obtain ⟨rfl, rfl⟩ := trodVars_none hV
  have s1 := okWide_slice Try.underlying31 (hval 0 31 v1 rfl rfl)
  have k1 := h1
  have lt1 : ∀ x ∈ p1, x.block < W.heap.size := by obtain ⟨m, hm⟩ := k1; exact DataW.trod_lt m _ _ _ hm
  obtain ⟨x1, y1, m1, mm1⟩ := openVersionS s1 h1
  have s2 := okWide_struct Try.underlying34 (hval 1 34 v2 rfl rfl)
  have k2 := h2
  have lt2 : ∀ x ∈ p2, x.block < W.heap.size := by obtain ⟨m, hm⟩ := k2; exact DataW.trod_lt m _ _ _ hm
  obtain ⟨x2, sv2, rfl, y2, m2⟩ := openRecord s2 h2
  obtain ⟨x3, rfl, rfl, rfl, wf3⟩ := open_int Try.underlying3 (hval 2 3 v3 rfl rfl) h3
  clear hA0 hval0
  refine (walk x1 v1 x2 sv2 x3 W y1 m1 mm1 y2 m2).mono fun e W' ⟨he, bel⟩ => ?_
  subst he
  exact ⟨_, rfl, _, _, _, [], _, [], hW', trodAll_mk1 (shut_bool Try.underlying4 _), (trodAll_cons_mk (Below.trod laidOut (by kernel_rfl) (of_decide_eq_true (by kernel_rfl)) k1 bel lt1) (trodAll_cons_mk (Below.trod laidOut (by kernel_rfl) (of_decide_eq_true (by kernel_rfl)) k2 bel lt2) (trodAll_cons_mk (shut_int Try.underlying3 wf3) trodAll_mk0))), rfl, bel.frame _, fun h => by cases h⟩

theorem over : Rows.fnExactDecidesOnRow.holds Try.pinned (OpenSpec.ofChange Rows.fnExactDecidesOnSpec) :=
  OpenClaim.holds_of_wide 4 Try.f4 rfl rfl rfl rfl rfl rfl rfl ⟨rfl, rfl, rfl, rfl, rfl⟩ rfl rfl rfl rfl rfl (by kernel_rfl) Try.func4 (by kernel_rfl)
    (of_decide_eq_true (by kernel_rfl)) (by unfold Func.isWrapper; first | (rw [if_pos (by decide +kernel)]; kernel_rfl) | (rw [if_neg (by decide +kernel)]; exact ⟨rfl, rfl⟩))
    (fun os started H enc _ => lifted os started H enc)


theorem proved : Rows.FnExactDecidesOnSaid :=
  over
#print axioms proved
end Go.Proofs.Ytkbhonafbecbfaa.fnExactDecidesOn
