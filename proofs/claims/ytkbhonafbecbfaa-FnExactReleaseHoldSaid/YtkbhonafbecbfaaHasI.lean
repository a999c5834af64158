/- What the reference's l1Has computes; no condition beyond the lengths that are named. -/
import Derived.Test.YtkbhonafbecbfaaIntSl
namespace Go.Proofs.Ytkbhonafbecbfaa
open Go.RowKit Go.Sort Go.Rd

theorem hasI_step (x : Int) (l : List Int) (k : Nat) (y : Int) (h : l[k]? = some y) : ((l.take k).contains x || (x == y)) = (l.take (k + 1)).contains x := by
  rw [List.take_add_one, h]; simp [List.contains_eq_mem, List.mem_append]
  grind
theorem has_of_mem {l : List Int} {p x : Int} (h : p ∈ l) (hp : (p == x) = true) : l.contains x = true := by
  have : p = x := by simpa using hp
  rw [← this]; simpa using h
set_option maxHeartbeats 1000000 in
theorem l1Has_ok (l : List Int) (x : Int) (v : Value) (w : World) (hv : Reads w 1 v l.length (l.flatMap encI)) (hl : l.length ≤ 1048576) :
    Calls Try.prog 84 #[v, .int .i64 x] w fun e w' => e = .returned (.bool (l.contains x)) ∧ w = w' := by
  obtain ⟨a, cap, rfl⟩ := hv.shape
  obtain ⟨r, hr⟩ : ∃ r, l.contains x = r := ⟨_, rfl⟩
  rw [hr]
  have HQ := Lib.hid hr
  clear hr
  go_enter Try.func84, Try.ntmps84
  go_wp2
  go_loop [5] (fun i => ∃ k : Nat, k ≤ l.length ∧ i = .int .i64 k ∧ Hid ((l.take k).contains x = false)) (fun i => l.length - (intOf i).toNat)
  case atStart => exact ⟨0, Nat.zero_le _, rfl, Lib.hid (by simp)⟩
  case round =>
    obtain ⟨k, hk, rfl, HALL⟩ := hrel
    by_cases hlt : k < l.length
    · obtain ⟨b, off, rfl, hc⟩ := Reads.elems encI_len hv (by omega)
      obtain ⟨p, hx⟩ := get_of_lt hlt
      have c0 := hc k _ hx 0 _ rfl
      simp only [Nat.add_zero, Nat.mul_one] at c0
      have HS := Lib.hid (hasI_step x l k p hx)
      have HM := Lib.hid (List.mem_of_getElem? hx)
      clear hc hx hv
      cases hp : (p == x)
      case false =>
        have hp2 : Hid ((x == p) = false) := (by rw [Bool.beq_comm (a := x)]; exact hp : (x == p) = false)
        go_wp2
        go_round
        case rel => exact ⟨k + 1, by omega, by go_num, Lib.hid (by rw [← HS.out, HALL.out, hp2.out]; rfl)⟩
        case measure => simp [intOf]; omega
      case true =>
        have HR : Hid (r = true) := (HQ.out.symm.trans (has_of_mem HM.out hp) : r = true)
        go_wp2
        go_ret
        exact ⟨ret_bool HR.out.symm, rfl⟩
    · have HR : Hid (r = false) := (by rw [← HQ.out]; have h1 := HALL.out; rw [List.take_of_length_le (by omega)] at h1; exact h1 : r = false)
      go_wp2
      go_ret
      exact ⟨ret_bool HR.out.symm, rfl⟩
end Go.Proofs.Ytkbhonafbecbfaa
