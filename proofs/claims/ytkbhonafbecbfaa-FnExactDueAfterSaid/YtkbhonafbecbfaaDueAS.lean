/- What the reference's DueAfter computes; no condition beyond the lengths and the room that are named. -/
import Derived.Test.YtkbhonafbecbfaaAddS
import Derived.Test.YtkbhonafbecbfaaDueAI
import Derived.Test.YtkbhonafbecbfaaDecide
import Derived.Test.YtkbhonafbecbfaaRules
namespace Go.Proofs.Ytkbhonafbecbfaa
open Go.RowKit Go.Sort Go.Rd
set_option maxHeartbeats 4000000 in
theorem specDueAfter_ok (r : Rec) (sch : List Rul) (e : Evt) (sv vs : Value) (w : World) (hr' : Rec.AtR w (r, sv)) (hvs : Reads w 4 vs sch.length (sch.flatMap Rul.enc)) (hl : r.evs.length ≤ 1048576) (hls : sch.length ≤ 1048576) :
    Calls Try.prog 43 #[.agg #[.int .i64 r.id, .int .i64 r.se, .int .i64 r.ma, sv], vs, .agg #[.int .i64 e.ki, .int .i64 e.dy]] w fun en w' => en = .returned (.tuple #[.int .i64 ((dueAO r sch e).getD 0), .bool (dueAO r sch e).isSome]) ∧ Ext w w' := by
  obtain ⟨hr, hrm⟩ := hr'
  simp only at hrm
  obtain ⟨a, cap, hs⟩ := Reads.shape hr
  simp only at hs
  subst hs
  obtain ⟨w2, hw2⟩ : ∃ x, x = (w.alloc (.cells #[.int .i64 r.id, .int .i64 r.se, .int .i64 r.ma, .slice a r.evs.length cap] 45)).alloc (.cells #[.int .i64 e.ki, .int .i64 e.dy] 83) := ⟨_, rfl⟩
  have E2 : Ext w w2 := by rw [hw2]; exact ((Ext.refl w).alloc _).alloc _
  obtain ⟨X, hX⟩ : ∃ X, (dueAO r sch e).getD 0 = X := ⟨_, rfl⟩
  obtain ⟨Y, hY⟩ : ∃ Y, (dueAO r sch e).isSome = Y := ⟨_, rfl⟩
  have HX := Lib.hid hX
  have HY := Lib.hid hY
  rw [hX, hY]
  clear hX hY
  go_enter Try.func43, Try.ntmps43
  go_wp2_with fail
  rw [← hw2]
  clear hw2
  refine (specAddEvent_ok r e _ _ (Rec.At.mono E2 hr) hrm hl).mono ?_
  rintro en w3 ⟨i, s, m, a3, n3, c3, rfl, H3, E3⟩
  have E3' := Ext.trans E2 E3
  cases h1 : addOk r e
  case false =>
    have h2 : dueAOk r sch e = false := by rw [dueAOk, h1]; rfl
    obtain rfl : X = 0 := by rw [← HX.out, dueAO_no h2]; rfl
    obtain rfl : Y = false := by rw [← HY.out, dueAO_no h2]; rfl
    clear H3
    go_wp2
    go_ret2
    exact ⟨rfl, E3'.alloc _⟩
  obtain ⟨rfl, rfl, rfl, hN⟩ := H3 h1
  obtain ⟨_, _, hs3⟩ := Reads.shape hN
  have hn3 : n3 = (addR r e).evs.length := by simp only [Value.slice.injEq] at hs3; exact hs3.2.1
  clear hs3
  subst hn3
  obtain ⟨w4, hw4⟩ : ∃ x, x = w3.alloc (.cells #[.int .i64 r.id, .int .i64 r.se, .int .i64 r.ma, .slice a3 (addR r e).evs.length c3] 45) := ⟨_, rfl⟩
  have E4 : Ext w3 w4 := by rw [hw4]; exact (Ext.refl w3).alloc _
  have k0 : w4.cell? ⟨w3.heap.size, 0, none⟩ = some (.int .i64 r.id) := by rw [hw4]; simp
  have k1 : w4.cell? ⟨w3.heap.size, 1, none⟩ = some (.int .i64 r.se) := by rw [hw4]; simp
  have k2 : w4.cell? ⟨w3.heap.size, 2, none⟩ = some (.int .i64 r.ma) := by rw [hw4]; simp
  have k3 : w4.cell? ⟨w3.heap.size, 3, none⟩ = some (.slice a3 (addR r e).evs.length c3) := by rw [hw4]; simp
  have E4' := Ext.trans E3' E4
  have hlN : (addR r e).evs.length ≤ 1048576 := by
    have h5 : okRec (addR r e) = true := by simp only [addOk, Bool.and_eq_true] at h1; exact h1.2.2
    have := (okRec_parts h5).2.2.2.1
    omega
  have h5 : okRec (addR r e) = true := by simp only [addOk, Bool.and_eq_true] at h1; exact h1.2.2
  go_wp2_with fail
  rw [← hw4]
  clear hw4
  refine (l4Good_ok sch _ _ (hvs.mono E4') hls).mono ?_
  rintro en w5 ⟨rfl, E5⟩
  have E5' := Ext.trans E4' E5
  have k0 := E5.cell k0
  have k1 := E5.cell k1
  have k2 := E5.cell k2
  have k3 := E5.cell k3
  cases h6 : goodR sch
  case false =>
    have h2 : dueAOk r sch e = false := by rw [dueAOk, h1, h6]; rfl
    obtain rfl : X = 0 := by rw [← HX.out, dueAO_no h2]; rfl
    obtain rfl : Y = false := by rw [← HY.out, dueAO_no h2]; rfl
    clear H3
    go_wp2
    go_ret2
    exact ⟨rfl, E5'⟩
  have HC := l6Deciding_ok (addR r e) sch _ vs w5 h5 h6 (Rec.At.mono (Ext.trans E4 E5) hN) (hvs.mono E5') hlN hls
  obtain ⟨⟨⟨D1, D2, D3, D4⟩, D5⟩, hD⟩ : ∃ D, decD (addR r e) sch = D := ⟨_, rfl⟩
  rw [hD] at HC
  have e1 : ∀ b, decide (0 ≤ D5) = b → dueAOk r sch e = b := fun b hb => by rw [dueAOk, h1, h6, hD, hb]; rfl
  have e2 : decide (0 ≤ D5) = true → dueAO r sch e = some D5 := fun hb => by rw [dueAO_yes (e1 true hb), hD]
  have e3 : decide (0 ≤ D5) = false → dueAO r sch e = none := fun hb => dueAO_no (e1 false hb)
  have HH := Lib.hid HC
  clear HC H3 h1 hlN h5 hD e1
  go_wp2_with fail
  refine HH.out.mono ?_
  rintro en w6 ⟨rfl, E6⟩
  have E6' := Ext.trans E5' E6
  clear HH
  by_cases h0 : 0 ≤ D5
  case pos =>
    have e4 := e2 (decide_eq_true h0)
    obtain rfl : X = D5 := by rw [← HX.out, e4]; rfl
    obtain rfl : Y = true := by rw [← HY.out, e4]; rfl
    clear e2 e3 e4 HX HY
    go_wp2
    go_ret2
    exact ⟨rfl, E6'.alloc _⟩
  have e4 := e3 (decide_eq_false h0)
  obtain rfl : X = 0 := by rw [← HX.out, e4]; rfl
  obtain rfl : Y = false := by rw [← HY.out, e4]; rfl
  clear e2 e3 e4 HX HY
  go_wp2
  go_ret2
  exact ⟨rfl, E6'.alloc _⟩
end Go.Proofs.Ytkbhonafbecbfaa
