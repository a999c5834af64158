/- What the tests of one clerk compute; the one condition is that the name is not longer than Go allows. -/
import Derived.Test.YtlablieekijgoaaDoorClkData
import Derived.Test.YtlablieekijgoaaDoorWord
import Derived.Test.YtlablieekijgoaaDoorDays
namespace Go.Proofs.YtlablieekijgoaaDoor
open Go.RowKit Go.Sort Go.Rd
theorem bits_and (x y : Int) : bits .and .i64 x y = bAnd x y := rfl
theorem okClk_impl (x : Clk) : okClk x = (inB x.id 1 99 && (okW x.na && ((inB x.ri 0 15 && !bothR x.ri) && ((inB x.fr 0 20000 && inB x.un x.fr 20000) && (inB x.st 0 99 && decide (x.st ≠ x.id)))))) := by
  have h : (inB x.fr 0 20000 && inB x.un x.fr 20000) = (inB x.un 0 20000 && inB x.fr 0 x.un) := by
    unfold inB; rw [← Bool.decide_and, ← Bool.decide_and]; exact decide_eq_decide.2 (by omega)
  rw [h]; unfold okClk; simp only [Bool.and_assoc]
theorem bits_or (x y : Int) : bits .or .i64 x y = bOr x y := rfl
theorem l11Both_ok (x : Int) (w : World) : Calls Tryd.prog 71 #[.int .i64 x] w fun e w' => e = .returned (.bool (bothR x)) ∧ w = w' := by
  obtain ⟨q, hq⟩ : ∃ q, bits .and .i64 x 10 = q := ⟨_, rfl⟩
  have HQ := Lib.hid (show bothR x = decide (q = 10) by rw [← hq]; rfl)
  go_enter Tryd.func71, Tryd.ntmps71
  go_wp2
  go_ret
  rw [HQ.out]
  exact ⟨rfl, rfl⟩
theorem areRights_ok (x : Int) (w : World) : Calls Tryd.prog 46 #[.int .i64 x] w fun e w' => e = .returned (.bool (inB x 0 15 && !bothR x)) ∧ w = w' := by
  obtain ⟨q, hq⟩ : ∃ q, bits .and .i64 x 10 = q := ⟨_, rfl⟩
  have HQ := Lib.hid (show (!bothR x) = !decide (q = 10) by rw [← hq]; rfl)
  obtain ⟨res, hres⟩ : ∃ b, (inB x 0 15 && !bothR x) = b := ⟨_, rfl⟩
  have HR := Lib.hid hres
  rw [hres]
  clear hres
  go_enter Tryd.func46, Tryd.ntmps46
  go_wp2_with fail
  refine (within_ok x 0 15 _).mono ?_
  rintro e w' ⟨rfl, rfl⟩
  cases t1 : inB x 0 15
  case false =>
    have HF : Hid (res = false) := Lib.hid (by rw [← HR.out, t1]; rfl)
    go_wp2
    go_ret
    exact ⟨ret_bool HF.out.symm, rfl⟩
  go_wp2
  go_ret
  rw [← HR.out, t1, Bool.true_and, HQ.out]
  exact ⟨rfl, rfl⟩

set_option maxHeartbeats 2000000 in
theorem l11One_ok (x : Clk) (w : World) (hn : x.na.length ≤ maxLen) : Calls Tryd.prog 43 #[.agg #[.int .i64 x.id, .string ⟨x.na.toArray⟩, .int .i64 x.ri, .int .i64 x.fr, .int .i64 x.un, .int .i64 x.st]] w fun e w' => e = .returned (.bool (okClk x)) ∧ Ext w w' := by
  obtain ⟨res, hres⟩ : ∃ b, okClk x = b := ⟨_, rfl⟩
  have HR := Lib.hid (hres.symm.trans (okClk.eq_1 x))
  rw [hres]
  clear hres
  obtain ⟨w2, hw2⟩ : ∃ w2, w2 = w.alloc (.cells #[.int .i64 x.id, .string ⟨x.na.toArray⟩, .int .i64 x.ri, .int .i64 x.fr, .int .i64 x.un, .int .i64 x.st] 26) := ⟨_, rfl⟩
  have E2 : Ext w w2 := by rw [hw2]; exact (Ext.refl w).alloc _
  have k0 : w2.cell? ⟨w.heap.size, 0, none⟩ = some (.int .i64 x.id) := by rw [hw2]; simp
  have k1 : w2.cell? ⟨w.heap.size, 1, none⟩ = some (.string ⟨x.na.toArray⟩) := by rw [hw2]; simp
  have k2 : w2.cell? ⟨w.heap.size, 2, none⟩ = some (.int .i64 x.ri) := by rw [hw2]; simp
  have k3 : w2.cell? ⟨w.heap.size, 3, none⟩ = some (.int .i64 x.fr) := by rw [hw2]; simp
  have k4 : w2.cell? ⟨w.heap.size, 4, none⟩ = some (.int .i64 x.un) := by rw [hw2]; simp
  have k5 : w2.cell? ⟨w.heap.size, 5, none⟩ = some (.int .i64 x.st) := by rw [hw2]; simp
  go_enter Tryd.func43, Tryd.ntmps43
  go_wp2_with fail
  rw [← hw2]; clear hw2
  refine (l1In_ok x.id 1 99 _).mono ?_
  rintro e w' ⟨rfl, rfl⟩
  cases t1 : inB x.id 1 99
  case false =>
    have HF : Hid (res = false) := Lib.hid (by rw [HR.out, t1]; rfl)
    go_wp2
    go_ret
    exact ⟨ret_bool HF.out.symm, E2⟩
  go_wp2_with fail
  refine (l2Word_ok x.na _ hn).mono ?_
  rintro e w3 ⟨rfl, F3⟩
  have E3 := Ext.trans E2 F3
  replace k0 := F3.cell k0
  replace k1 := F3.cell k1
  replace k2 := F3.cell k2
  replace k3 := F3.cell k3
  replace k4 := F3.cell k4
  replace k5 := F3.cell k5
  cases t2 : okW x.na
  case false =>
    have HF : Hid (res = false) := Lib.hid (by rw [HR.out, t1, t2]; rfl)
    go_wp2
    go_ret
    exact ⟨ret_bool HF.out.symm, E3⟩
  go_wp2_with fail
  refine (l1In_ok x.ri 0 15 _).mono ?_
  rintro e w' ⟨rfl, rfl⟩
  cases t3 : inB x.ri 0 15
  case false =>
    have HF : Hid (res = false) := Lib.hid (by rw [HR.out, t1, t2, t3]; rfl)
    go_wp2
    go_ret
    exact ⟨ret_bool HF.out.symm, E3⟩
  go_wp2_with fail
  refine (l11Both_ok x.ri _).mono ?_
  rintro e w' ⟨rfl, rfl⟩
  cases t4 : bothR x.ri
  case true =>
    have HF : Hid (res = false) := Lib.hid (by rw [HR.out, t1, t2, t3, t4]; rfl)
    go_wp2
    go_ret
    exact ⟨ret_bool HF.out.symm, E3⟩
  go_wp2_with fail
  refine (l2Day_ok x.un _).mono ?_
  rintro e w' ⟨rfl, rfl⟩
  cases t5 : inB x.un 0 20000
  case false =>
    have HF : Hid (res = false) := Lib.hid (by rw [HR.out, t1, t2, t3, t4, t5]; rfl)
    go_wp2
    go_ret
    exact ⟨ret_bool HF.out.symm, E3⟩
  go_wp2_with fail
  refine (l1In_ok x.fr 0 x.un _).mono ?_
  rintro e w' ⟨rfl, rfl⟩
  cases t6 : inB x.fr 0 x.un
  case false =>
    have HF : Hid (res = false) := Lib.hid (by rw [HR.out, t1, t2, t3, t4, t5, t6]; rfl)
    go_wp2
    go_ret
    exact ⟨ret_bool HF.out.symm, E3⟩
  go_wp2_with fail
  refine (l1In_ok x.st 0 99 _).mono ?_
  rintro e w' ⟨rfl, rfl⟩
  cases t7 : inB x.st 0 99
  case false =>
    have HF : Hid (res = false) := Lib.hid (by rw [HR.out, t1, t2, t3, t4, t5, t6, t7]; rfl)
    go_wp2
    go_ret
    exact ⟨ret_bool HF.out.symm, E3⟩
  have HF : Hid (res = decide (x.st ≠ x.id)) := Lib.hid (by rw [HR.out, t1, t2, t3, t4, t5, t6, t7]; rfl)
  by_cases hl : x.st = x.id
  case pos =>
    rw [hl] at k5
    have HG : Hid (res = false) := Lib.hid (by rw [HF.out, hl]; simp)
    go_wp2
    go_ret
    exact ⟨ret_bool HG.out.symm, E3⟩
  have HG : Hid (res = true) := Lib.hid (by rw [HF.out]; simp [hl])
  have hl2 : (x.st != x.id) = true := by simp [hl]
  go_wp2
  go_ret
  exact ⟨ret_bool HG.out.symm, E3⟩
set_option maxHeartbeats 2000000 in
theorem isClerk_ok (x : Clk) (w : World) (hn : x.na.length ≤ maxLen) : Calls Tryd.prog 16 #[.agg #[.int .i64 x.id, .string ⟨x.na.toArray⟩, .int .i64 x.ri, .int .i64 x.fr, .int .i64 x.un, .int .i64 x.st]] w fun e w' => e = .returned (.bool (okClk x)) ∧ Ext w w' := by
  obtain ⟨res, hres⟩ : ∃ b, okClk x = b := ⟨_, rfl⟩
  have HR := Lib.hid (hres.symm.trans (okClk_impl x))
  rw [hres]
  clear hres
  obtain ⟨w2, hw2⟩ : ∃ w2, w2 = w.alloc (.cells #[.int .i64 x.id, .string ⟨x.na.toArray⟩, .int .i64 x.ri, .int .i64 x.fr, .int .i64 x.un, .int .i64 x.st] 26) := ⟨_, rfl⟩
  have E2 : Ext w w2 := by rw [hw2]; exact (Ext.refl w).alloc _
  have k0 : w2.cell? ⟨w.heap.size, 0, none⟩ = some (.int .i64 x.id) := by rw [hw2]; simp
  have k1 : w2.cell? ⟨w.heap.size, 1, none⟩ = some (.string ⟨x.na.toArray⟩) := by rw [hw2]; simp
  have k2 : w2.cell? ⟨w.heap.size, 2, none⟩ = some (.int .i64 x.ri) := by rw [hw2]; simp
  have k3 : w2.cell? ⟨w.heap.size, 3, none⟩ = some (.int .i64 x.fr) := by rw [hw2]; simp
  have k4 : w2.cell? ⟨w.heap.size, 4, none⟩ = some (.int .i64 x.un) := by rw [hw2]; simp
  have k5 : w2.cell? ⟨w.heap.size, 5, none⟩ = some (.int .i64 x.st) := by rw [hw2]; simp
  go_enter Tryd.func16, Tryd.ntmps16
  go_wp2_with fail
  rw [← hw2]; clear hw2
  refine (isId_ok x.id _).mono ?_
  rintro e w' ⟨rfl, rfl⟩
  cases t1 : inB x.id 1 99
  case false =>
    have HF : Hid (res = false) := Lib.hid (by rw [HR.out, t1]; rfl)
    go_wp2
    go_ret
    exact ⟨ret_bool HF.out.symm, E2⟩
  go_wp2_with fail
  refine (isWord_ok x.na _ hn).mono ?_
  rintro e w3 ⟨rfl, F3⟩
  have E3 := Ext.trans E2 F3
  replace k0 := F3.cell k0
  replace k1 := F3.cell k1
  replace k2 := F3.cell k2
  replace k3 := F3.cell k3
  replace k4 := F3.cell k4
  replace k5 := F3.cell k5
  cases t2 : okW x.na
  case false =>
    have HF : Hid (res = false) := Lib.hid (by rw [HR.out, t1, t2]; rfl)
    go_wp2
    go_ret
    exact ⟨ret_bool HF.out.symm, E3⟩
  go_wp2_with fail
  refine (areRights_ok x.ri _).mono ?_
  rintro e w' ⟨rfl, rfl⟩
  cases t3 : inB x.ri 0 15 && !bothR x.ri
  case false =>
    have HF : Hid (res = false) := Lib.hid (by rw [HR.out, t1, t2, t3]; rfl)
    go_wp2
    go_ret
    exact ⟨ret_bool HF.out.symm, E3⟩
  go_wp2_with fail
  refine (areDays_ok x.fr x.un _).mono ?_
  rintro e w' ⟨rfl, rfl⟩
  cases t4 : inB x.fr 0 20000 && inB x.un x.fr 20000
  case false =>
    have HF : Hid (res = false) := Lib.hid (by rw [HR.out, t1, t2, t3, t4]; rfl)
    go_wp2
    go_ret
    exact ⟨ret_bool HF.out.symm, E3⟩
  go_wp2_with fail
  refine (within_ok x.st 0 99 _).mono ?_
  rintro e w' ⟨rfl, rfl⟩
  cases t5 : inB x.st 0 99
  case false =>
    have HF : Hid (res = false) := Lib.hid (by rw [HR.out, t1, t2, t3, t4, t5]; rfl)
    go_wp2
    go_ret
    exact ⟨ret_bool HF.out.symm, E3⟩
  have HF : Hid (res = decide (x.st ≠ x.id)) := Lib.hid (by rw [HR.out, t1, t2, t3, t4, t5]; rfl)
  by_cases hl : x.st = x.id
  case pos =>
    rw [hl] at k5
    have HG : Hid (res = false) := Lib.hid (by rw [HF.out, hl]; simp)
    go_wp2
    go_ret
    exact ⟨ret_bool HG.out.symm, E3⟩
  have HG : Hid (res = true) := Lib.hid (by rw [HF.out]; simp [hl])
  have hl2 : (x.st != x.id) = true := by simp [hl]
  go_wp2
  go_ret
  exact ⟨ret_bool HG.out.symm, E3⟩
theorem specIsClerk_ok (x : Clk) (w : World) (hn : x.na.length ≤ maxLen) : Calls Tryd.prog 14 #[.agg #[.int .i64 x.id, .string ⟨x.na.toArray⟩, .int .i64 x.ri, .int .i64 x.fr, .int .i64 x.un, .int .i64 x.st]] w fun e w' => e = .returned (.bool (okClk x)) ∧ Ext w w' := by
  go_enter Tryd.func14, Tryd.ntmps14
  go_wp2_with fail
  refine (l11One_ok x _ hn).mono ?_
  rintro e w' ⟨rfl, E⟩
  go_wp2
  go_ret
  exact ⟨rfl, Ext.trans ((Ext.refl w).alloc _) E⟩
end Go.Proofs.YtlablieekijgoaaDoor
