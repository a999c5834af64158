/- What small functions on numbers compute; no condition. -/
import Derived.Test.YtankodjcccnjlaaRows
import Derived.Test.YtankodjcccnjlaaData
namespace Go.Proofs.Ytankodjcccnjlaa
open Go.RowKit Go.Sort Go.Rd

set_option maxHeartbeats 400000 in
theorem l1In_ok (x a b : Int) (w : World) : Calls Try.prog 39 #[.int .i64 x, .int .i64 a, .int .i64 b] w fun e w' => e = .returned (.bool (inB x a b)) ∧ w = w' := by
  by_cases h : a ≤ x <;> by_cases h2 : x ≤ b
  all_goals
    go_enter Try.func39, Try.ntmps39
    go_wp2
    go_ret
    exact ⟨ret_bool (by simp [inB, h, h2]), rfl⟩
set_option maxHeartbeats 400000 in
theorem within_ok (x a b : Int) (w : World) : Calls Try.prog 42 #[.int .i64 x, .int .i64 a, .int .i64 b] w fun e w' => e = .returned (.bool (inB x a b)) ∧ w = w' := by
  by_cases h : a ≤ x <;> by_cases h2 : x ≤ b
  all_goals
    go_enter Try.func42, Try.ntmps42
    go_wp2
    go_ret
    exact ⟨ret_bool (by simp [inB, h, h2]), rfl⟩

set_option maxHeartbeats 400000 in
theorem compare_ok (a b : Int) (w : World) : Calls Try.prog 24 #[.int .i64 a, .int .i64 b] w fun e w' => e = .returned (.int .i64 (cmpI a b)) ∧ w = w' := by
  have ha : (a != a) = false := by simp
  have hb : (b != b) = false := by simp
  by_cases h : a < b
  · have H := Lib.hid (cmpI_lt h)
    go_enter Try.func24, Try.ntmps24
    go_wp2
    go_ret
    exact ⟨ret_int H.out.symm, rfl⟩
  by_cases h2 : b < a
  · have H := Lib.hid (cmpI_gt h2)
    go_enter Try.func24, Try.ntmps24
    go_wp2
    go_ret
    exact ⟨ret_int H.out.symm, rfl⟩
  have H := Lib.hid (cmpI_eq (a := a) (b := b) (by omega))
  go_enter Try.func24, Try.ntmps24
  go_wp2
  go_ret
  exact ⟨ret_int H.out.symm, rfl⟩
set_option maxHeartbeats 400000 in
theorem or_ok (x y : Int) (g : Nat) (w : World) (h0 : w.cell? ⟨g, 0, none⟩ = some (.int .i64 x)) (h1 : w.cell? ⟨g, 1, none⟩ = some (.int .i64 y)) :
    Calls Try.prog 48 #[.slice (some ⟨g, 0, none⟩) 2 2] w fun e w' => e = .returned (.int .i64 (orI x y)) ∧ w = w' := by
  cases hx : (x != 0)
  case true =>
    have H := Lib.hid (orI_ne (x := x) (by simpa using hx) y)
    go_enter Try.func48, Try.ntmps48
    go_wp2
    go_loop [8] (fun i => i = .int .i64 0) (fun _ => 0)
    case atStart => rfl
    case round =>
      subst hrel
      go_wp2
      go_ret
      exact ⟨ret_int H.out.symm, rfl⟩
  have H := Lib.hid (show orI x y = y by rw [show x = 0 by simpa using hx, orI_zero])
  cases hy : (y != 0)
  · have H2 := Lib.hid (show y = 0 by simpa using hy)
    go_enter Try.func48, Try.ntmps48
    go_wp2
    go_loop [8] (fun i => ∃ k : Nat, k ≤ 2 ∧ i = .int .i64 k) (fun i => 2 - (intOf i).toNat)
    case atStart => exact ⟨0, by omega, rfl⟩
    case round =>
      obtain ⟨k, hk, rfl⟩ := hrel
      rcases (show k = 0 ∨ k = 1 ∨ k = 2 by omega) with rfl | rfl | rfl
      · go_wp2
        go_round
        case rel => exact ⟨1, by omega, by go_num⟩
        case measure => simp [intOf]
      · go_wp2
        go_round
        case rel => exact ⟨2, by omega, by go_num⟩
        case measure => simp [intOf]
      · go_wp2
        go_ret
        exact ⟨ret_int (by rw [H.out, H2.out]), rfl⟩
  · go_enter Try.func48, Try.ntmps48
    go_wp2
    go_loop [8] (fun i => ∃ k : Nat, k ≤ 1 ∧ i = .int .i64 k) (fun i => 2 - (intOf i).toNat)
    case atStart => exact ⟨0, by omega, rfl⟩
    case round =>
      obtain ⟨k, hk, rfl⟩ := hrel
      rcases (show k = 0 ∨ k = 1 by omega) with rfl | rfl
      · go_wp2
        go_round
        case rel => exact ⟨1, by omega, by go_num⟩
        case measure => simp [intOf]
      · go_wp2
        go_ret
        exact ⟨ret_int H.out.symm, rfl⟩
end Go.Proofs.Ytankodjcccnjlaa
