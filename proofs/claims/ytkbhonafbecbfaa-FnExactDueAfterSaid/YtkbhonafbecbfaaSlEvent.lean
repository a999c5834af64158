/- What the library's small functions on slices of Event compute; no condition beyond the lengths that are named. -/
import Derived.Test.YtkbhonafbecbfaaRows
import Derived.Test.YtkbhonafbecbfaaData
import Derived.WalkSpells
import Derived.Lib.SliceRun
namespace Go.Proofs.Ytkbhonafbecbfaa
open Go.RowKit Go.Sort Go.Rd

theorem Try.infoSEvent : (Try.prog.info? 83).map (fun i => (i.zero, i.size, i.bytes)) = some (some (.agg #[.int .i64 0, .int .i64 0]), 2, 16) := by kernel_rfl
set_option maxHeartbeats 1000000 in
theorem indexFuncEvent_ok (f : FuncId) (caps : Array Value) (p : Evt → Bool) (l : List Evt) (v : Value) (w : World) (hent : ∀ args w, (callFunc f args).run Try.prog w = .ok (.enter f args) w)
    (hp : ∀ (x : Evt) (w' : World), Ext w w' → Calls Try.prog f (#[(.agg #[.int .i64 x.ki, .int .i64 x.dy])] ++ caps) w' fun e w'' => e = .returned (.bool (p x)) ∧ Ext w' w'')
    (hv : Reads w 2 v l.length (l.flatMap Evt.enc)) (hl : l.length ≤ 1048576) :
    Calls Try.prog 171 #[v, .func (.func f) #[] caps] w fun e w' => e = .returned (.int .i64 (idxOf p l)) ∧ Ext w w' := by
  obtain ⟨a, cap, rfl⟩ := hv.shape
  have HP := Lib.hid hp
  clear hp
  go_enter Try.func171, Try.ntmps171
  go_wp2
  go_loopw [8] (fun i wr => ∃ k : Nat, k ≤ l.length ∧ i = .int .i64 k ∧ Hid (∀ j x, j < k → l[j]? = some x → p x = false) ∧ Ext w wr) (fun i _ => l.length - (intOf i).toNat)
  case atStart => exact ⟨0, Nat.zero_le _, rfl, Lib.hid fun j x h => by omega, Ext.refl _⟩
  case round =>
    obtain ⟨k, hk, rfl, HALL, hE⟩ := hrel
    by_cases hlt : k < l.length
    · have hv1 := hv.mono hE
      obtain ⟨b, off, rfl, hc⟩ := Reads.elems Evt.enc_len hv1 (by omega)
      obtain ⟨⟨p1, p2⟩, hx⟩ := get_of_lt hlt
      have c0 := hc k _ hx 0 _ rfl
      have c1 := hc k _ hx 1 _ rfl
      simp only [Nat.add_zero] at c0
      have HX := Lib.hid hx
      clear hc hx hv1
      cases hpx : p ⟨p1, p2⟩
      case false =>
        go_wp2_with fail
        refine (HP.out ⟨p1, p2⟩ _ hE).mono ?_
        rintro e w2 ⟨rfl, E2⟩
        have hE2 := hE.trans E2
        clear c0 c1
        go_wp2
        go_roundw
        case rel =>
          refine ⟨k + 1, by omega, by go_num, Lib.hid fun j x hj hx => ?_, hE2⟩
          by_cases hjk : j < k
          · exact HALL.out j x hjk hx
          · have : j = k := by omega
            subst this
            have := hx.symm.trans HX.out
            simp only [Option.some.injEq] at this
            rw [this]; exact hpx
        case measure => simp [intOf]; omega
      case true =>
        have HR := Lib.hid (idxOf_at HX.out hpx HALL.out)
        go_wp2_with fail
        refine (HP.out ⟨p1, p2⟩ _ hE).mono ?_
        rintro e w2 ⟨rfl, E2⟩
        have hE2 := hE.trans E2
        clear c0 c1
        go_wp2
        go_ret
        exact ⟨ret_int HR.out.symm, hE2⟩
    · have HR := Lib.hid (idxOf_none (p := p) (l := l) fun j x hx => HALL.out j x (by have := (List.getElem?_eq_some_iff.1 hx).1; omega) hx)
      go_wp2
      go_ret
      exact ⟨ret_int HR.out.symm, hE⟩
set_option maxHeartbeats 1000000 in
theorem cloneEvent_ok (l : List Evt) (v : Value) (w : World) (hv : Reads w 2 v l.length (l.flatMap Evt.enc)) (hl : l.length ≤ 1048576) :
    Calls Try.prog 133 #[v] w (RetOwn w 83 2 l.length (l.flatMap Evt.enc)) := by
  obtain ⟨a, cap, rfl⟩ := hv.shape
  have heq := fun w' => Lib.run_eql_slice_nil (P := Try.prog) w' 43 83 a l.length cap 0 0 Try.underlying43
  cases a with
  | none =>
    have HL : Hid (l = []) := by
      obtain ⟨_, a', cap', h1, h2⟩ := hv
      simp only [Value.slice.injEq] at h1
      obtain ⟨rfl, _, rfl⟩ := h1
      rcases h2 with h2 | ⟨b, off, h2, _⟩
      · exact List.eq_nil_of_length_eq_zero h2
      · cases h2
    go_enter Try.func133, Try.ntmps133
    go_wp2
    go_ret
    rw [HL.out]
    exact ⟨_, rfl, World.ownsRow_nil w _ _ _, Ext.refl _⟩
  | some ad =>
    have hc : ∀ o, ∀ j u, (l.flatMap Evt.enc)[j]? = some u → (w.alloc o).cell? (ad.add j) = some u := by
      intro o j u hu
      have hj := (List.getElem?_eq_some_iff.1 hu).1
      have hlen := flat_length Evt.enc 2 Evt.enc_len l
      obtain ⟨_, b, off, ha, hc⟩ := hv.at (by omega)
      simp only [Option.some.injEq] at ha
      subst ha
      have := hc j (by omega)
      rw [hu] at this
      have hadd : (⟨b, off, none⟩ : Addr).add j = ⟨b, off + j, none⟩ := by unfold Addr.add; split <;> simp_all
      rw [hadd]
      exact ((Ext.refl w).alloc o).cell this
    have HC := Lib.hid hc
    clear hc
    go_enter Try.func133, Try.ntmps133
    go_wp2_with (at_builtin; refine wpl_appendN w (w.alloc (.cells #[] 83)) rfl _ _ 43 rfl 83 _ 2 16 Try.underlying43 Try.infoSEvent rfl (by decide) (by decide) _ 0 [] ?c0 (owns_empty w w.heap.size _ _ (Nat.le_refl _)) ad l.length cap (l.flatMap Evt.enc) rfl rfl ?c1 ?c2 ?c3 ?c4 ?_)
    case c0 => exact (Ext.refl w).alloc _
    case c1 => exact flat_length Evt.enc 2 Evt.enc_len l
    case c2 => exact HC.out _
    case c3 => exact flat_one Evt.one l
    case c4 => omega
    intro v' w2 o2 E2
    go_wp2
    go_ret
    exact ⟨_, rfl, by simpa using o2, E2⟩
end Go.Proofs.Ytkbhonafbecbfaa
