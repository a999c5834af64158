/- What the functions on holds that cover a record compute; no condition beyond the lengths and lists that are named. -/
import Derived.Test.YtkbhonafbecbfaaHoldsL
import Derived.Test.YtkbhonafbecbfaaNestEl
import Derived.Test.YtkbhonafbecbfaaAppR
namespace Go.Proofs.Ytkbhonafbecbfaa
open Go.RowKit Go.Sort Go.Rd
set_option maxHeartbeats 4000000 in
theorem l9Covers_ok (h : Hld) (r : Rec) (day : Int) (sh sv : Value) (w : World) (hh : Hld.At w (h, sh)) (hv : Rec.At w (r, sv)) (hl : h.ss.length ≤ 1048576) :
    Calls Try.prog 124 #[.agg #[.int .i64 h.id, .int .i64 h.fr, .int .i64 h.un, sh, .int .i64 h.fi, .int .i64 h.la], .agg #[.int .i64 r.id, .int .i64 r.se, .int .i64 r.ma, sv], .int .i64 day] w fun e w' => e = .returned (.bool (cov h r day)) ∧ Ext w w' := by
  obtain ⟨a, cap, hs⟩ := Reads.shape hh
  simp only at hs
  subst hs
  obtain ⟨a2, cap2, hs⟩ := Reads.shape hv
  simp only at hs
  subst hs
  obtain ⟨w1, hw1⟩ : ∃ w1, w1 = w.alloc (.cells #[.int .i64 h.id, .int .i64 h.fr, .int .i64 h.un, .slice a h.ss.length cap, .int .i64 h.fi, .int .i64 h.la] 93) := ⟨_, rfl⟩
  have z1 : w1.heap.size = w.heap.size + 1 := by rw [hw1]; simp
  obtain ⟨w2, hw2⟩ : ∃ w2, w2 = w1.alloc (.cells #[.int .i64 r.id, .int .i64 r.se, .int .i64 r.ma, .slice a2 r.evs.length cap2] 45) := ⟨_, rfl⟩
  have E1 : Ext w w1 := by rw [hw1]; exact (Ext.refl w).alloc _
  have E12 : Ext w1 w2 := by rw [hw2]; exact (Ext.refl _).alloc _
  have E2 := Ext.trans E1 E12
  have b1 : w2.cell? ⟨w.heap.size, 1, none⟩ = some (.int .i64 h.fr) := E12.cell (by rw [hw1]; simp)
  have b2 : w2.cell? ⟨w.heap.size, 2, none⟩ = some (.int .i64 h.un) := E12.cell (by rw [hw1]; simp)
  have b3 : w2.cell? ⟨w.heap.size, 3, none⟩ = some (.slice a h.ss.length cap) := E12.cell (by rw [hw1]; simp)
  have b4 : w2.cell? ⟨w.heap.size, 4, none⟩ = some (.int .i64 h.fi) := E12.cell (by rw [hw1]; simp)
  have b5 : w2.cell? ⟨w.heap.size, 5, none⟩ = some (.int .i64 h.la) := E12.cell (by rw [hw1]; simp)
  have d1 : w2.cell? ⟨w.heap.size + 1, 1, none⟩ = some (.int .i64 r.se) := by rw [hw2, ← z1]; simp
  have d2 : w2.cell? ⟨w.heap.size + 1, 2, none⟩ = some (.int .i64 r.ma) := by rw [hw2, ← z1]; simp
  have hw : w2 = (w.alloc (.cells #[.int .i64 h.id, .int .i64 h.fr, .int .i64 h.un, .slice a h.ss.length cap, .int .i64 h.fi, .int .i64 h.la] 93)).alloc (.cells #[.int .i64 r.id, .int .i64 r.se, .int .i64 r.ma, .slice a2 r.evs.length cap2] 45) := by rw [hw2, hw1]
  have HX := l1Has_ok h.ss r.se _ w2 (Reads.mono E2 hh) hl
  obtain ⟨res, hres⟩ : ∃ b, cov h r day = b := ⟨_, rfl⟩
  rw [hres]
  have HR := Lib.hid hres
  clear hres hw1 hw2 E12 z1
  go_enter Try.func124, Try.ntmps124
  go_upto_region 1 with fail
  rw [← hw]
  clear hw
  go_cut [7] (fun c wx => c = .bool (decide (h.fr ≤ day) && (h.un == -1 || decide (day < h.un))) ∧ wx = w2)
  case first =>
    cases t1 : decide (h.fr ≤ day) <;> cases t2 : (h.un == -1) <;> cases t3 : decide (day < h.un)
    all_goals
      go_wp2
      go_meet
      exact ⟨congrArg Value.bool (by first | rfl | (simp only [t1, t2, t3]; done) | (simp only [t1, t2, t3]; rfl)), rfl⟩
  case rest =>
  obtain ⟨rfl, rfl⟩ := hcut
  cases t1 : (decide (h.fr ≤ day) && (h.un == -1 || decide (day < h.un)))
  case false =>
    have HF : Hid (res = false) := Lib.hid (by rw [← HR.out, cov, t1]; rfl)
    go_wp2
    go_ret
    exact ⟨ret_bool HF.out.symm, E2⟩
  have HS : Hid (res = ((decide (h.ss.length = 0) || h.ss.contains r.se) && inB r.ma h.fi h.la)) := Lib.hid (by rw [← HR.out, cov, t1, Bool.true_and])
  by_cases t2 : h.ss.length = 0
  case pos =>
    have hz : ((h.ss.length : Int) == 0) = true := beq_iff_eq.2 (by omega)
    have HF : Hid (res = inB r.ma h.fi h.la) := Lib.hid (by rw [HS.out, decide_eq_true t2]; rfl)
    go_wp2_with fail
    refine (l1In_ok r.ma h.fi h.la _).mono ?_
    rintro e w' ⟨rfl, rfl⟩
    go_wp2
    go_ret
    exact ⟨ret_bool HF.out.symm, E2⟩
  have hz : ((h.ss.length : Int) == 0) = false := beq_eq_false_iff_ne.2 (by omega)
  go_wp2_with fail
  refine HX.mono ?_
  rintro e w' ⟨rfl, rfl⟩
  cases t3 : h.ss.contains r.se
  case false =>
    have HF : Hid (res = false) := Lib.hid (by rw [HS.out, decide_eq_false t2, t3]; rfl)
    go_wp2
    go_ret
    exact ⟨ret_bool HF.out.symm, E2⟩
  have HF : Hid (res = inB r.ma h.fi h.la) := Lib.hid (by rw [HS.out, t3, Bool.or_true, Bool.true_and])
  go_wp2_with fail
  refine (l1In_ok r.ma h.fi h.la _).mono ?_
  rintro e w' ⟨rfl, rfl⟩
  go_wp2
  go_ret
  exact ⟨ret_bool HF.out.symm, E2⟩
set_option maxHeartbeats 4000000 in
theorem covers_ok (h : Hld) (r : Rec) (day : Int) (sh sv : Value) (w : World) (hok : okH h = true) (hh : Hld.At w (h, sh)) (hv : Rec.At w (r, sv)) (hl : h.ss.length ≤ 1048576) :
    Calls Try.prog 126 #[.agg #[.int .i64 h.id, .int .i64 h.fr, .int .i64 h.un, sh, .int .i64 h.fi, .int .i64 h.la], .agg #[.int .i64 r.id, .int .i64 r.se, .int .i64 r.ma, sv], .int .i64 day] w fun e w' => e = .returned (.bool (cov h r day)) ∧ Ext w w' := by
  have HU : Hid ((h.un == -1) = decide (h.un < 0)) := Lib.hid (by have := (okH_parts hok).2.1; have := (okH_parts hok).2.2.1; rw [Bool.eq_iff_iff]; simp; omega)
  obtain ⟨a, cap, hs⟩ := Reads.shape hh
  simp only at hs
  subst hs
  obtain ⟨a2, cap2, hs⟩ := Reads.shape hv
  simp only at hs
  subst hs
  obtain ⟨w1, hw1⟩ : ∃ w1, w1 = w.alloc (.cells #[.int .i64 h.id, .int .i64 h.fr, .int .i64 h.un, .slice a h.ss.length cap, .int .i64 h.fi, .int .i64 h.la] 93) := ⟨_, rfl⟩
  have z1 : w1.heap.size = w.heap.size + 1 := by rw [hw1]; simp
  obtain ⟨w2, hw2⟩ : ∃ w2, w2 = w1.alloc (.cells #[.int .i64 r.id, .int .i64 r.se, .int .i64 r.ma, .slice a2 r.evs.length cap2] 45) := ⟨_, rfl⟩
  have E1 : Ext w w1 := by rw [hw1]; exact (Ext.refl w).alloc _
  have E12 : Ext w1 w2 := by rw [hw2]; exact (Ext.refl _).alloc _
  have E2 := Ext.trans E1 E12
  have b1 : w2.cell? ⟨w.heap.size, 1, none⟩ = some (.int .i64 h.fr) := E12.cell (by rw [hw1]; simp)
  have b2 : w2.cell? ⟨w.heap.size, 2, none⟩ = some (.int .i64 h.un) := E12.cell (by rw [hw1]; simp)
  have b3 : w2.cell? ⟨w.heap.size, 3, none⟩ = some (.slice a h.ss.length cap) := E12.cell (by rw [hw1]; simp)
  have b4 : w2.cell? ⟨w.heap.size, 4, none⟩ = some (.int .i64 h.fi) := E12.cell (by rw [hw1]; simp)
  have b5 : w2.cell? ⟨w.heap.size, 5, none⟩ = some (.int .i64 h.la) := E12.cell (by rw [hw1]; simp)
  have d1 : w2.cell? ⟨w.heap.size + 1, 1, none⟩ = some (.int .i64 r.se) := by rw [hw2, ← z1]; simp
  have d2 : w2.cell? ⟨w.heap.size + 1, 2, none⟩ = some (.int .i64 r.ma) := by rw [hw2, ← z1]; simp
  have hw : w2 = (w.alloc (.cells #[.int .i64 h.id, .int .i64 h.fr, .int .i64 h.un, .slice a h.ss.length cap, .int .i64 h.fi, .int .i64 h.la] 93)).alloc (.cells #[.int .i64 r.id, .int .i64 r.se, .int .i64 r.ma, .slice a2 r.evs.length cap2] 45) := by rw [hw2, hw1]
  have HX := containsInt_ok h.ss r.se _ w2 (Reads.mono E2 hh) hl
  obtain ⟨cb, hcb⟩ : ∃ b, h.ss.contains r.se = b := ⟨_, rfl⟩
  rw [hcb] at HX
  have HCB := Lib.hid hcb
  clear hcb
  obtain ⟨res, hres⟩ : ∃ b, cov h r day = b := ⟨_, rfl⟩
  rw [hres]
  have HR := Lib.hid hres
  clear hres hw1 hw2 E12 z1
  go_enter Try.func126, Try.ntmps126
  go_upto_region 1 with fail
  rw [← hw]
  clear hw
  go_cut [7] (fun c wx => c = .bool (decide (h.fr ≤ day) && (decide (h.un < 0) || decide (day < h.un))) ∧ wx = w2)
  case first =>
    cases t1 : decide (h.fr ≤ day) <;> cases t2 : decide (h.un < 0) <;> cases t3 : decide (day < h.un)
    all_goals
      go_wp2
      go_meet
      exact ⟨congrArg Value.bool (by first | rfl | (simp only [t1, t2, t3]; done) | (simp only [t1, t2, t3]; rfl)), rfl⟩
  case rest =>
  obtain ⟨rfl, rfl⟩ := hcut
  cases t1 : (decide (h.fr ≤ day) && (decide (h.un < 0) || decide (day < h.un)))
  case false =>
    have HF : Hid (res = false) := Lib.hid (by rw [← HR.out, cov, HU.out, t1]; rfl)
    go_wp2
    go_ret
    exact ⟨ret_bool HF.out.symm, E2⟩
  have HS : Hid (res = ((decide (h.ss.length = 0) || h.ss.contains r.se) && inB r.ma h.fi h.la)) := Lib.hid (by rw [← HR.out, cov, HU.out, t1, Bool.true_and])
  go_wp2_with fail
  refine (within_ok r.ma h.fi h.la _).mono ?_
  rintro e w' ⟨rfl, rfl⟩
  cases t4 : inB r.ma h.fi h.la
  case false =>
    have HF : Hid (res = false) := Lib.hid (by rw [HS.out, t4, Bool.and_false])
    go_wp2
    go_ret
    exact ⟨ret_bool HF.out.symm, E2⟩
  by_cases t2 : h.ss.length = 0
  case pos =>
    have hz : ((h.ss.length : Int) == 0) = true := beq_iff_eq.2 (by omega)
    have HF : Hid (res = true) := Lib.hid (by rw [HS.out, t4, decide_eq_true t2]; rfl)
    go_wp2
    go_ret
    exact ⟨ret_bool HF.out.symm, E2⟩
  have hz : ((h.ss.length : Int) == 0) = false := beq_eq_false_iff_ne.2 (by omega)
  have HF : Hid (res = cb) := Lib.hid (by rw [HS.out, t4, decide_eq_false t2, Bool.and_true, Bool.false_or, HCB.out])
  go_wp2_with fail
  refine HX.mono ?_
  rintro e w' ⟨rfl, rfl⟩
  go_wp2
  go_ret
  exact ⟨ret_bool HF.out.symm, E2⟩
end Go.Proofs.Ytkbhonafbecbfaa
