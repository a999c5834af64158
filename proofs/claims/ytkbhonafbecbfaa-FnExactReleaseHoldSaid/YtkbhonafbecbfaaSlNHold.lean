/- What slices.IndexFunc and slices.ContainsFunc compute on slices of Hold; no condition beyond the lengths that are named. -/
import Derived.Test.YtkbhonafbecbfaaRows
import Derived.Test.YtkbhonafbecbfaaData
import Derived.Test.YtkbhonafbecbfaaNestEl
import Derived.WalkSpells
import Derived.Lib.SliceRun
namespace Go.Proofs.Ytkbhonafbecbfaa
open Go.RowKit Go.Sort Go.Rd
set_option maxHeartbeats 1000000 in
theorem indexFuncHold_ok (f : FuncId) (caps : Array Value) (p : Hld → Bool) (l : List Hld) (v : Value) (w : World) (hent : ∀ args w, (callFunc f args).run Try.prog w = .ok (.enter f args) w)
    (hp : ∀ (x : Hld) (sv : Value) (w' : World), x ∈ l → Hld.At w' (x, sv) → Ext w w' → Calls Try.prog f (#[(.agg #[.int .i64 x.id, .int .i64 x.fr, .int .i64 x.un, sv, .int .i64 x.fi, .int .i64 x.la])] ++ caps) w' fun e w'' => e = .returned (.bool (p x)) ∧ Ext w' w'')
    (hv : Hld.Rd w v l) (hl : l.length ≤ 1048576) :
    Calls Try.prog 55 #[v, .func (.func f) #[] caps] w fun e w' => e = .returned (.int .i64 (idxOf p l)) ∧ Ext w w' := by
  obtain ⟨a, cap, rfl⟩ := hv.shape
  have HP := Lib.hid hp
  clear hp
  go_enter Try.func55, Try.ntmps55
  go_wp2
  go_loopw [8] (fun i wr => ∃ k : Nat, k ≤ l.length ∧ i = .int .i64 k ∧ Hid (∀ j x, j < k → l[j]? = some x → p x = false) ∧ Ext w wr) (fun i _ => l.length - (intOf i).toNat)
  case atStart => exact ⟨0, Nat.zero_le _, rfl, Lib.hid fun j x h => by omega, Ext.refl _⟩
  case round =>
    obtain ⟨k, hk, rfl, HALL, hE⟩ := hrel
    by_cases hlt : k < l.length
    · have hv1 := hv.mono hE
      obtain ⟨x, hx⟩ := get_of_lt hlt
      obtain ⟨b, off, rfl⟩ := Hld.Rd.addr hv1 (by omega)
      obtain ⟨ca, cc, c0, c1, c2, c3, c4, c5, hat⟩ := Hld.Rd.cells hv1 hx
      have HX := Lib.hid hx
      have HM := Lib.hid (List.mem_of_getElem? hx)
      have HC := Lib.hid (HP.out x _ _ HM.out hat hE)
      clear hx hv1 hat
      cases hpx : p x
      case false =>
        go_wp2_with fail
        refine HC.out.mono ?_
        rintro e w2 ⟨rfl, E2⟩
        have hE2 := hE.trans E2
        clear c0 c1 c2 c3 c4 c5
        rw [hpx]
        go_wp2
        go_roundw
        case rel =>
          refine ⟨k + 1, by omega, by go_num, Lib.hid fun j y hj hy => ?_, hE2⟩
          by_cases hjk : j < k
          · exact HALL.out j y hjk hy
          · have : j = k := by omega
            subst this
            have := hy.symm.trans HX.out
            simp only [Option.some.injEq] at this
            rw [this]; exact hpx
        case measure => simp [intOf]; omega
      case true =>
        have HR := Lib.hid (idxOf_at HX.out hpx HALL.out)
        go_wp2_with fail
        refine HC.out.mono ?_
        rintro e w2 ⟨rfl, E2⟩
        have hE2 := hE.trans E2
        clear c0 c1 c2 c3 c4 c5
        rw [hpx]
        go_wp2
        go_ret
        exact ⟨ret_int HR.out.symm, hE2⟩
    · have HR := Lib.hid (idxOf_none (p := p) (l := l) fun j x hx => HALL.out j x (by have := (List.getElem?_eq_some_iff.1 hx).1; omega) hx)
      go_wp2
      go_ret
      exact ⟨ret_int HR.out.symm, hE⟩
end Go.Proofs.Ytkbhonafbecbfaa
