/- What the library's small functions on slices of Rule compute; no condition beyond the lengths that are named. -/
import Derived.Test.YtankodjcccnjlaaRows
import Derived.Test.YtankodjcccnjlaaData
import Derived.WalkSpells
import Derived.Lib.SliceRun
namespace Go.Proofs.Ytankodjcccnjlaa
open Go.RowKit Go.Sort Go.Rd

theorem Try.infoSRule : (Try.prog.info? 48).map (fun i => (i.zero, i.size, i.bytes)) = some (some (.agg #[.int .i64 0, .int .i64 0, .int .i64 0, .int .i64 0]), 4, 32) := by kernel_rfl
set_option maxHeartbeats 1000000 in
theorem cloneRule_ok (l : List Rul) (v : Value) (w : World) (hv : Reads w 4 v l.length (l.flatMap Rul.enc)) (hl : l.length ≤ 1048576) :
    Calls Try.prog 21 #[v] w (RetOwn w 48 4 l.length (l.flatMap Rul.enc)) := by
  obtain ⟨a, cap, rfl⟩ := hv.shape
  have heq := fun w' => Lib.run_eql_slice_nil (P := Try.prog) w' 32 48 a l.length cap 0 0 Try.underlying32
  cases a with
  | none =>
    have HL : Hid (l = []) := by
      obtain ⟨_, a', cap', h1, h2⟩ := hv
      simp only [Value.slice.injEq] at h1
      obtain ⟨rfl, _, rfl⟩ := h1
      rcases h2 with h2 | ⟨b, off, h2, _⟩
      · exact List.eq_nil_of_length_eq_zero h2
      · cases h2
    go_enter Try.func21, Try.ntmps21
    go_wp2
    go_ret
    rw [HL.out]
    exact ⟨_, rfl, World.ownsRow_nil w _ _ _, Ext.refl _⟩
  | some ad =>
    have hc : ∀ o, ∀ j u, (l.flatMap Rul.enc)[j]? = some u → (w.alloc o).cell? (ad.add j) = some u := by
      intro o j u hu
      have hj := (List.getElem?_eq_some_iff.1 hu).1
      have hlen := flat_length Rul.enc 4 Rul.enc_len l
      obtain ⟨_, b, off, ha, hc⟩ := hv.at (by omega)
      simp only [Option.some.injEq] at ha
      subst ha
      have := hc j (by omega)
      rw [hu] at this
      have hadd : (⟨b, off, none⟩ : Addr).add j = ⟨b, off + j, none⟩ := by unfold Addr.add; split <;> simp_all
      rw [hadd]
      exact ((Ext.refl w).alloc o).cell this
    have HC := Lib.hid hc
    clear hc
    go_enter Try.func21, Try.ntmps21
    go_wp2_with (at_builtin; refine wpl_appendN w (w.alloc (.cells #[] 48)) rfl _ _ 32 rfl 48 _ 4 32 Try.underlying32 Try.infoSRule rfl (by decide) (by decide) _ 0 [] ?c0 (owns_empty w w.heap.size _ _ (Nat.le_refl _)) ad l.length cap (l.flatMap Rul.enc) rfl rfl ?c1 ?c2 ?c3 ?c4 ?_)
    case c0 => exact (Ext.refl w).alloc _
    case c1 => exact flat_length Rul.enc 4 Rul.enc_len l
    case c2 => exact HC.out _
    case c3 => exact flat_one Rul.one l
    case c4 => omega
    intro v' w2 o2 E2
    go_wp2
    go_ret
    exact ⟨_, rfl, by simpa using o2, E2⟩
end Go.Proofs.Ytankodjcccnjlaa
