/- What the library's small functions on slices of Event compute; no condition beyond the lengths that are named. -/
import Derived.Test.YtpggimkfdeommaaRows
import Derived.Test.YtpggimkfdeommaaData
import Derived.WalkSpells
import Derived.Lib.SliceRun
namespace Go.Proofs.Ytpggimkfdeommaa
open Go.RowKit Go.Sort Go.Rd

theorem Try.infoSEvent : (Try.prog.info? 107).map (fun i => (i.zero, i.size, i.bytes)) = some (some (.agg #[.int .i64 0, .int .i64 0]), 2, 16) := by kernel_rfl
set_option maxHeartbeats 1000000 in
theorem indexFuncEvent_ok (f : FuncId) (caps : Array Value) (p : Evt → Bool) (l : List Evt) (v : Value) (w : World) (hent : ∀ args w, (callFunc f args).run Try.prog w = .ok (.enter f args) w)
    (hp : ∀ (x : Evt) (w' : World), Ext w w' → Calls Try.prog f (#[(.agg #[.int .i64 x.ki, .int .i64 x.dy])] ++ caps) w' fun e w'' => e = .returned (.bool (p x)) ∧ Ext w' w'')
    (hv : Reads w 2 v l.length (l.flatMap Evt.enc)) (hl : l.length ≤ 1048576) :
    Calls Try.prog 134 #[v, .func (.func f) #[] caps] w fun e w' => e = .returned (.int .i64 (idxOf p l)) ∧ Ext w w' := by
  obtain ⟨a, cap, rfl⟩ := hv.shape
  have HP := Lib.hid hp
  clear hp
  go_enter Try.func134, Try.ntmps134
  go_wp2
  go_loopw [8] (fun i wr => ∃ k : Nat, k ≤ l.length ∧ i = .int .i64 k ∧ Hid (∀ j x, j < k → l[j]? = some x → p x = false) ∧ Ext w wr) (fun i _ => l.length - (intOf i).toNat)
  case atStart => exact ⟨0, Nat.zero_le _, rfl, Lib.hid fun j x h => by omega, Ext.refl _⟩
  case round =>
    obtain ⟨k, hk, rfl, HALL, hE⟩ := hrel
    by_cases hlt : k < l.length
    · have hv1 := hv.mono hE
      obtain ⟨b, off, rfl, hc⟩ := Reads.elems Evt.enc_len hv1 (by omega)
      obtain ⟨⟨p1, p2⟩, hx⟩ := get_of_lt hlt
      have c0 := hc k _ hx 0 _ rfl
      have c1 := hc k _ hx 1 _ rfl
      simp only [Nat.add_zero] at c0
      have HX := Lib.hid hx
      clear hc hx hv1
      cases hpx : p ⟨p1, p2⟩
      case false =>
        go_wp2_with fail
        refine (HP.out ⟨p1, p2⟩ _ hE).mono ?_
        rintro e w2 ⟨rfl, E2⟩
        have hE2 := hE.trans E2
        clear c0 c1
        go_wp2
        go_roundw
        case rel =>
          refine ⟨k + 1, by omega, by go_num, Lib.hid fun j x hj hx => ?_, hE2⟩
          by_cases hjk : j < k
          · exact HALL.out j x hjk hx
          · have : j = k := by omega
            subst this
            have := hx.symm.trans HX.out
            simp only [Option.some.injEq] at this
            rw [this]; exact hpx
        case measure => simp [intOf]; omega
      case true =>
        have HR := Lib.hid (idxOf_at HX.out hpx HALL.out)
        go_wp2_with fail
        refine (HP.out ⟨p1, p2⟩ _ hE).mono ?_
        rintro e w2 ⟨rfl, E2⟩
        have hE2 := hE.trans E2
        clear c0 c1
        go_wp2
        go_ret
        exact ⟨ret_int HR.out.symm, hE2⟩
    · have HR := Lib.hid (idxOf_none (p := p) (l := l) fun j x hx => HALL.out j x (by have := (List.getElem?_eq_some_iff.1 hx).1; omega) hx)
      go_wp2
      go_ret
      exact ⟨ret_int HR.out.symm, hE⟩
end Go.Proofs.Ytpggimkfdeommaa
