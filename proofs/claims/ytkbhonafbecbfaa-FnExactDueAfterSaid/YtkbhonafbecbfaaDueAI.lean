/- What the program's DueDay and DueAfter compute; no condition beyond the lengths and the room that are named. -/
import Derived.Test.YtkbhonafbecbfaaAddI
import Derived.Test.YtkbhonafbecbfaaDecide
import Derived.Test.YtkbhonafbecbfaaRules
namespace Go.Rd
open Go.Sort Go.RowKit
/-- The slice beside the record reads as its events, and its length lies within its room. -/
def Rec.AtR (w : World) (p : Rec × Value) : Prop := Rec.At w p ∧ Room p.2
end Go.Rd
namespace Go.Proofs.Ytkbhonafbecbfaa
open Go.RowKit Go.Sort Go.Rd
set_option maxHeartbeats 4000000 in
theorem dueDay_ok (r : Rec) (sch : List Rul) (sv vs : Value) (w : World) (hr : Rec.At w (r, sv)) (hvs : Reads w 4 vs sch.length (sch.flatMap Rul.enc)) (hl : r.evs.length ≤ 1048576) (hls : sch.length ≤ 1048576) :
    Calls Try.prog 96 #[.agg #[.int .i64 r.id, .int .i64 r.se, .int .i64 r.ma, sv], vs] w fun e w' => e = .returned (.tuple #[.int .i64 (if bothOk r sch = true then max (decD r sch).2 0 else 0), .bool (bothOk r sch && decide (0 ≤ (decD r sch).2))]) ∧ Ext w w' := by
  obtain ⟨a2, cap2, hs⟩ := Reads.shape hr
  simp only at hs
  subst hs
  obtain ⟨w2, hw2⟩ : ∃ w2, w2 = w.alloc (.cells #[.int .i64 r.id, .int .i64 r.se, .int .i64 r.ma, .slice a2 r.evs.length cap2] 45) := ⟨_, rfl⟩
  have E2 : Ext w w2 := by rw [hw2]; exact (Ext.refl w).alloc _
  have k0 : w2.cell? ⟨w.heap.size, 0, none⟩ = some (.int .i64 r.id) := by rw [hw2]; simp
  have k1 : w2.cell? ⟨w.heap.size, 1, none⟩ = some (.int .i64 r.se) := by rw [hw2]; simp
  have k2 : w2.cell? ⟨w.heap.size, 2, none⟩ = some (.int .i64 r.ma) := by rw [hw2]; simp
  have k3 : w2.cell? ⟨w.heap.size, 3, none⟩ = some (.slice a2 r.evs.length cap2) := by rw [hw2]; simp
  obtain ⟨X, hX⟩ : ∃ X, (if bothOk r sch = true then max (decD r sch).2 0 else 0) = X := ⟨_, rfl⟩
  obtain ⟨Y, hY⟩ : ∃ Y, (bothOk r sch && decide (0 ≤ (decD r sch).2)) = Y := ⟨_, rfl⟩
  have HX := Lib.hid hX
  have HY := Lib.hid hY
  rw [hX, hY]
  clear hX hY
  go_enter Try.func96, Try.ntmps96
  go_wp2_with fail
  rw [← hw2]
  clear hw2
  refine (areBoth_ok r _ sch _ _ (Rec.At.mono E2 hr) hl (hvs.mono E2) hls).mono ?_
  rintro e w3 ⟨rfl, E3⟩
  have E3' := Ext.trans E2 E3
  have k0 := E3.cell k0
  have k1 := E3.cell k1
  have k2 := E3.cell k2
  have k3 := E3.cell k3
  cases h1 : bothOk r sch
  case false =>
    obtain rfl : X = 0 := by rw [← HX.out, h1]; rfl
    obtain rfl : Y = false := by rw [← HY.out, h1]; rfl
    go_wp2
    go_ret2
    exact ⟨rfl, E3'⟩
  have HC := deciding_ok r sch _ vs w3 (by simp only [bothOk, Bool.and_eq_true] at h1; exact h1.1) (by simp only [bothOk, Bool.and_eq_true] at h1; exact h1.2) (Rec.At.mono E3' hr) (hvs.mono E3') hl hls
  obtain ⟨⟨⟨D1, D2, D3, D4⟩, D5⟩, hD⟩ : ∃ D, decD r sch = D := ⟨_, rfl⟩
  rw [hD] at HC
  obtain rfl : X = max D5 0 := by rw [← HX.out, h1, hD]; rfl
  obtain rfl : Y = decide (0 ≤ D5) := by rw [← HY.out, h1, hD]; rfl
  have HH := Lib.hid HC
  clear HC hD HX HY h1
  go_wp2_with fail
  refine HH.out.mono ?_
  rintro e w4 ⟨rfl, E4⟩
  have E4' := Ext.trans E3' E4
  obtain ⟨M, hM⟩ : ∃ M, max D5 0 = M := ⟨_, rfl⟩
  obtain ⟨C, hC⟩ : ∃ C, decide (0 ≤ D5) = C := ⟨_, rfl⟩
  rw [hM, hC]
  have HM := Lib.hid hM
  have HC2 := Lib.hid hC
  clear hM hC HH
  go_wp2
  go_ret2
  exact ⟨by rw [HM.out, HC2.out]; rfl, E4'.alloc _⟩
set_option maxHeartbeats 4000000 in
theorem dueAfter_ok (r : Rec) (sch : List Rul) (e : Evt) (sv vs : Value) (w : World) (hr' : Rec.AtR w (r, sv)) (hvs : Reads w 4 vs sch.length (sch.flatMap Rul.enc)) (hl : r.evs.length ≤ 1048576) (hls : sch.length ≤ 1048576) :
    Calls Try.prog 46 #[.agg #[.int .i64 r.id, .int .i64 r.se, .int .i64 r.ma, sv], vs, .agg #[.int .i64 e.ki, .int .i64 e.dy]] w fun en w' => en = .returned (.tuple #[.int .i64 ((dueAO r sch e).getD 0), .bool (dueAO r sch e).isSome]) ∧ Ext w w' := by
  obtain ⟨hr, hrm⟩ := hr'
  simp only at hrm
  obtain ⟨a, cap, hs⟩ := Reads.shape hr
  simp only at hs
  subst hs
  obtain ⟨w2, hw2⟩ : ∃ x, x = (w.alloc (.cells #[.int .i64 r.id, .int .i64 r.se, .int .i64 r.ma, .slice a r.evs.length cap] 45)).alloc (.cells #[.int .i64 e.ki, .int .i64 e.dy] 83) := ⟨_, rfl⟩
  have E2 : Ext w w2 := by rw [hw2]; exact ((Ext.refl w).alloc _).alloc _
  obtain ⟨X, hX⟩ : ∃ X, (dueAO r sch e).getD 0 = X := ⟨_, rfl⟩
  obtain ⟨Y, hY⟩ : ∃ Y, (dueAO r sch e).isSome = Y := ⟨_, rfl⟩
  have HX := Lib.hid hX
  have HY := Lib.hid hY
  rw [hX, hY]
  clear hX hY
  go_enter Try.func46, Try.ntmps46
  go_wp2_with fail
  rw [← hw2]
  clear hw2
  refine (addEvent_ok r e _ _ (Rec.At.mono E2 hr) hrm hl).mono ?_
  rintro en w3 ⟨i, s, m, a3, n3, c3, rfl, H3, E3⟩
  have E3' := Ext.trans E2 E3
  cases h1 : addOk r e
  case false =>
    have h2 : dueAOk r sch e = false := by rw [dueAOk, h1]; rfl
    obtain rfl : X = 0 := by rw [← HX.out, dueAO_no h2]; rfl
    obtain rfl : Y = false := by rw [← HY.out, dueAO_no h2]; rfl
    clear H3
    go_wp2
    go_ret2
    exact ⟨rfl, E3'.alloc _⟩
  obtain ⟨rfl, rfl, rfl, hN⟩ := H3 h1
  obtain ⟨_, _, hs3⟩ := Reads.shape hN
  have hn3 : n3 = (addR r e).evs.length := by simp only [Value.slice.injEq] at hs3; exact hs3.2.1
  clear hs3
  subst hn3
  obtain ⟨w4, hw4⟩ : ∃ x, x = w3.alloc (.cells #[.int .i64 r.id, .int .i64 r.se, .int .i64 r.ma, .slice a3 (addR r e).evs.length c3] 45) := ⟨_, rfl⟩
  have E4 : Ext w3 w4 := by rw [hw4]; exact (Ext.refl w3).alloc _
  have E4' := Ext.trans E3' E4
  have hlN : (addR r e).evs.length ≤ 1048576 := by
    have h5 : okRec (addR r e) = true := by simp only [addOk, Bool.and_eq_true] at h1; exact h1.2.2
    have := (okRec_parts h5).2.2.2.1
    omega
  have HC := dueDay_ok (addR r e) sch _ vs w4 (Rec.At.mono E4 hN) (hvs.mono E4') hlN hls
  have hb : bothOk (addR r e) sch = goodR sch := by
    simp only [addOk, Bool.and_eq_true] at h1
    rw [bothOk, h1.2.2]; rfl
  have e1 : (if bothOk (addR r e) sch = true then max (decD (addR r e) sch).2 0 else 0) = X := by
    rw [← HX.out, hb]
    cases hg : goodR sch
    case false => rw [dueAO_no (by rw [dueAOk, h1, hg]; rfl)]; rfl
    case true =>
      by_cases h0 : 0 ≤ (decD (addR r e) sch).2
      · rw [dueAO_yes (by rw [dueAOk, h1, hg, decide_eq_true h0]; rfl), if_pos rfl]; show max _ _ = _; rw [Int.max_eq_left h0]; rfl
      · rw [dueAO_no (by rw [dueAOk, h1, hg, decide_eq_false h0]; rfl), if_pos rfl, Int.max_eq_right (by omega)]; rfl
  have e2 : (bothOk (addR r e) sch && decide (0 ≤ (decD (addR r e) sch).2)) = Y := by
    rw [← HY.out, hb]
    cases hg : (goodR sch && decide (0 ≤ (decD (addR r e) sch).2))
    case false => rw [dueAO_no (by rw [dueAOk, h1, hg]; rfl)]; rfl
    case true => rw [dueAO_yes (by rw [dueAOk, h1, hg]; rfl)]; rfl
  rw [e1, e2] at HC
  have HH := Lib.hid HC
  clear HC e1 e2 hb HX HY H3 h1 hlN
  go_wp2_with fail
  rw [← hw4]
  clear hw4
  refine HH.out.mono ?_
  rintro en w5 ⟨rfl, E5⟩
  clear HH
  go_wp2
  go_ret2
  exact ⟨rfl, Ext.trans E4' E5⟩
end Go.Proofs.Ytkbhonafbecbfaa
