/- What the library's Clone, Index and Contains compute on slices of integers; no condition beyond the lengths that are named. -/
import Derived.Test.YtkbhonafbecbfaaInts
import Derived.WalkSpells
import Derived.Lib.SliceRun
namespace Go.Proofs.Ytkbhonafbecbfaa
open Go.RowKit Go.Sort Go.Rd
set_option maxHeartbeats 1000000 in
theorem cloneInt_ok (l : List Int) (v : Value) (w : World) (hv : Reads w 1 v l.length (l.flatMap encI)) (hl : l.length ≤ 1048576) :
    Calls Try.prog 113 #[v] w (RetOwn w 3 1 l.length (l.flatMap encI)) := by
  obtain ⟨a, cap, rfl⟩ := hv.shape
  have heq := fun w' => Lib.run_eql_slice_nil (P := Try.prog) w' 67 3 a l.length cap 0 0 Try.underlying67
  cases a with
  | none =>
    have HL : Hid (l = []) := by
      obtain ⟨_, a', cap', h1, h2⟩ := hv
      simp only [Value.slice.injEq] at h1
      obtain ⟨rfl, _, rfl⟩ := h1
      rcases h2 with h2 | ⟨b, off, h2, _⟩
      · exact List.eq_nil_of_length_eq_zero h2
      · cases h2
    go_enter Try.func113, Try.ntmps113
    go_wp2
    go_ret
    rw [HL.out]
    exact ⟨_, rfl, World.ownsRow_nil w _ _ _, Ext.refl _⟩
  | some ad =>
    have hc : ∀ o, ∀ j u, (l.flatMap encI)[j]? = some u → (w.alloc o).cell? (ad.add j) = some u := by
      intro o j u hu
      have hj := (List.getElem?_eq_some_iff.1 hu).1
      have hlen := flat_length encI 1 encI_len l
      obtain ⟨_, b, off, ha, hc⟩ := hv.at (by omega)
      simp only [Option.some.injEq] at ha
      subst ha
      have := hc j (by omega)
      rw [hu] at this
      have hadd : (⟨b, off, none⟩ : Addr).add j = ⟨b, off + j, none⟩ := by unfold Addr.add; split <;> simp_all
      rw [hadd]
      exact ((Ext.refl w).alloc o).cell this
    have HC := Lib.hid hc
    clear hc
    go_enter Try.func113, Try.ntmps113
    go_wp2_with (at_builtin; refine wpl_appendN w (w.alloc (.cells #[] 3)) rfl _ _ 67 rfl 3 _ 1 8 Try.underlying67 Try.infoInt rfl (by decide) (by decide) _ 0 [] ?c0 (owns_empty w w.heap.size _ _ (Nat.le_refl _)) ad l.length cap (l.flatMap encI) rfl rfl ?c1 ?c2 ?c3 ?c4 ?_)
    case c0 => exact (Ext.refl w).alloc _
    case c1 => exact flat_length encI 1 encI_len l
    case c2 => exact HC.out _
    case c3 => exact flat_one encI_one l
    case c4 => omega
    intro v' w2 o2 E2
    go_wp2
    go_ret
    exact ⟨_, rfl, by simpa using o2, E2⟩
set_option maxHeartbeats 1000000 in
theorem indexInt_ok (l : List Int) (x : Int) (v : Value) (w : World) (hv : Reads w 1 v l.length (l.flatMap encI)) (hl : l.length ≤ 1048576) :
    Calls Try.prog 149 #[v, .int .i64 x] w fun e w' => e = .returned (.int .i64 (idxOf (fun y => x == y) l)) ∧ w = w' := by
  obtain ⟨a, cap, rfl⟩ := hv.shape
  go_enter Try.func149, Try.ntmps149
  go_wp2
  go_loop [8] (fun i => ∃ k : Nat, k ≤ l.length ∧ i = .int .i64 k ∧ Hid (∀ j y, j < k → l[j]? = some y → (x == y) = false)) (fun i => l.length - (intOf i).toNat)
  case atStart => exact ⟨0, Nat.zero_le _, rfl, Lib.hid fun j x h => by omega⟩
  case round =>
    obtain ⟨k, hk, rfl, HALL⟩ := hrel
    by_cases hlt : k < l.length
    · obtain ⟨b, off, rfl, hc⟩ := Reads.elems encI_len hv (by omega)
      obtain ⟨p, hx⟩ := get_of_lt hlt
      have c0 := hc k _ hx 0 _ rfl
      simp only [Nat.add_zero, Nat.mul_one] at c0
      have HX := Lib.hid hx
      clear hc hx hv
      cases hp : (x == p)
      case false =>
        go_wp2
        go_round
        case rel =>
          refine ⟨k + 1, by omega, by go_num, Lib.hid fun j y hj hy => ?_⟩
          by_cases hjk : j < k
          · exact HALL.out j y hjk hy
          · have : j = k := by omega
            subst this
            have := hy.symm.trans HX.out
            simp only [Option.some.injEq] at this
            rw [this]; exact hp
        case measure => simp [intOf]; omega
      case true =>
        have HR := Lib.hid (idxOf_at (p := fun y => x == y) HX.out hp HALL.out)
        go_wp2
        go_ret
        exact ⟨ret_int HR.out.symm, rfl⟩
    · have HR := Lib.hid (idxOf_none (p := fun y => x == y) (l := l) fun j y hy => HALL.out j y (by have := (List.getElem?_eq_some_iff.1 hy).1; omega) hy)
      go_wp2
      go_ret
      exact ⟨ret_int HR.out.symm, rfl⟩
theorem any_contains (l : List Int) (x : Int) : (l.any fun y => x == y) = l.contains x := by
  induction l with
  | nil => rfl
  | cons y l ih => simp only [List.any_cons, List.contains_cons, ih]
set_option maxHeartbeats 1000000 in
theorem containsInt_ok (l : List Int) (x : Int) (v : Value) (w : World) (hv : Reads w 1 v l.length (l.flatMap encI)) (hl : l.length ≤ 1048576) :
    Calls Try.prog 135 #[v, .int .i64 x] w fun e w' => e = .returned (.bool (l.contains x)) ∧ w = w' := by
  have HB := Lib.hid ((idxOf_any (fun y => x == y) l).trans (any_contains l x))
  go_enter Try.func135, Try.ntmps135
  go_wp2_with fail
  refine (indexInt_ok l x v _ hv hl).mono ?_
  rintro e w' ⟨rfl, rfl⟩
  go_wp2
  go_ret
  exact ⟨ret_bool HB.out, rfl⟩
end Go.Proofs.Ytkbhonafbecbfaa
