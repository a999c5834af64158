/- What the library's Clone, Index and Contains compute on slices of integers; no condition beyond the lengths that are named. -/
import Derived.Test.YtpmjjkhikciokaaInts
import Derived.WalkSpells
import Derived.Lib.SliceRun
namespace Go.Proofs.Ytpmjjkhikciokaa
open Go.RowKit Go.Sort Go.Rd
set_option maxHeartbeats 1000000 in
theorem indexInt_ok (l : List Int) (x : Int) (v : Value) (w : World) (hv : Reads w 1 v l.length (l.flatMap encI)) (hl : l.length ≤ 1048576) :
    Calls Try.prog 107 #[v, .int .i64 x] w fun e w' => e = .returned (.int .i64 (idxOf (fun y => x == y) l)) ∧ w = w' := by
  obtain ⟨a, cap, rfl⟩ := hv.shape
  go_enter Try.func107, Try.ntmps107
  go_wp2
  go_loop [8] (fun i => ∃ k : Nat, k ≤ l.length ∧ i = .int .i64 k ∧ Hid (∀ j y, j < k → l[j]? = some y → (x == y) = false)) (fun i => l.length - (intOf i).toNat)
  case atStart => exact ⟨0, Nat.zero_le _, rfl, Lib.hid fun j x h => by omega⟩
  case round =>
    obtain ⟨k, hk, rfl, HALL⟩ := hrel
    by_cases hlt : k < l.length
    · obtain ⟨b, off, rfl, hc⟩ := Reads.elems encI_len hv (by omega)
      obtain ⟨p, hx⟩ := get_of_lt hlt
      have c0 := hc k _ hx 0 _ rfl
      simp only [Nat.add_zero, Nat.mul_one] at c0
      have HX := Lib.hid hx
      clear hc hx hv
      cases hp : (x == p)
      case false =>
        go_wp2
        go_round
        case rel =>
          refine ⟨k + 1, by omega, by go_num, Lib.hid fun j y hj hy => ?_⟩
          by_cases hjk : j < k
          · exact HALL.out j y hjk hy
          · have : j = k := by omega
            subst this
            have := hy.symm.trans HX.out
            simp only [Option.some.injEq] at this
            rw [this]; exact hp
        case measure => simp [intOf]; omega
      case true =>
        have HR := Lib.hid (idxOf_at (p := fun y => x == y) HX.out hp HALL.out)
        go_wp2
        go_ret
        exact ⟨ret_int HR.out.symm, rfl⟩
    · have HR := Lib.hid (idxOf_none (p := fun y => x == y) (l := l) fun j y hy => HALL.out j y (by have := (List.getElem?_eq_some_iff.1 hy).1; omega) hy)
      go_wp2
      go_ret
      exact ⟨ret_int HR.out.symm, rfl⟩
theorem any_contains (l : List Int) (x : Int) : (l.any fun y => x == y) = l.contains x := by
  induction l with
  | nil => rfl
  | cons y l ih => simp only [List.any_cons, List.contains_cons, ih]
set_option maxHeartbeats 1000000 in
theorem containsInt_ok (l : List Int) (x : Int) (v : Value) (w : World) (hv : Reads w 1 v l.length (l.flatMap encI)) (hl : l.length ≤ 1048576) :
    Calls Try.prog 93 #[v, .int .i64 x] w fun e w' => e = .returned (.bool (l.contains x)) ∧ w = w' := by
  have HB := Lib.hid ((idxOf_any (fun y => x == y) l).trans (any_contains l x))
  go_enter Try.func93, Try.ntmps93
  go_wp2_with fail
  refine (indexInt_ok l x v _ hv hl).mono ?_
  rintro e w' ⟨rfl, rfl⟩
  go_wp2
  go_ret
  exact ⟨ret_bool HB.out, rfl⟩
end Go.Proofs.Ytpmjjkhikciokaa
