/- l1Own: a list of numbers copied by append; l9Own: a list of holds copied one by one; no condition beyond the lengths that are named. -/
import Derived.Test.YtkbhonafbecbfaaOwnX
import Derived.Test.YtkbhonafbecbfaaInts
import Derived.Test.YtkbhonafbecbfaaNestHold
namespace Go.Proofs.Ytkbhonafbecbfaa
open Go.RowKit Go.Sort Go.Rd
set_option maxHeartbeats 1000000 in
theorem l1OwnX_ok (l : List Int) (v : Value) (w : World) (hv : Reads w 1 v l.length (l.flatMap encI)) (hl : l.length ≤ 1048576) :
    Calls Try.prog 108 #[v] w (RetOwn w 3 1 l.length (l.flatMap encI)) := by
  obtain ⟨a, cap, rfl⟩ := hv.shape
  cases a with
  | none =>
    have HL : Hid (l = []) := by
      obtain ⟨_, a', cap', h1, h2⟩ := hv
      simp only [Value.slice.injEq] at h1
      obtain ⟨rfl, _, rfl⟩ := h1
      rcases h2 with h2 | ⟨b, off, h2, _⟩
      · exact List.eq_nil_of_length_eq_zero h2
      · cases h2
    have hl0 : l = [] := HL.out
    subst hl0
    go_enter Try.func108, Try.ntmps108
    go_wp2_with (at_builtin; refine wpl_app0 w.heap.size (w.alloc (.cells #[] 3)) rfl _ _ 67 rfl 3 _ 1 8 Try.underlying67 Try.infoInt _ 0 [] rfl (owns_empty w w.heap.size _ _ (Nat.le_refl _)) cap rfl ?_)
    go_wp2
    go_ret
    exact ⟨_, rfl, owns_empty w w.heap.size _ _ (Nat.le_refl _), (Ext.refl w).alloc _⟩
  | some ad =>
    have hc : ∀ o, ∀ j u, (l.flatMap encI)[j]? = some u → (w.alloc o).cell? (ad.add j) = some u := by
      intro o j u hu
      have hj := (List.getElem?_eq_some_iff.1 hu).1
      have hlen := hv.1
      obtain ⟨_, b, off, ha, hc⟩ := hv.at (by omega)
      simp only [Option.some.injEq] at ha
      subst ha
      have := hc j (by omega)
      rw [hu] at this
      rw [add_addr]
      exact ((Ext.refl w).alloc o).cell this
    have HC := Lib.hid hc
    have HLN := Lib.hid hv.1
    clear hc
    go_enter Try.func108, Try.ntmps108
    go_wp2_with (at_builtin; refine wpl_appendN w (w.alloc (.cells #[] 3)) rfl _ _ 67 rfl 3 _ 1 8 Try.underlying67 Try.infoInt rfl (by decide) (by decide) _ 0 [] ?c0 (owns_empty w w.heap.size _ _ (Nat.le_refl _)) ad l.length cap (l.flatMap encI) rfl rfl ?c1 ?c2 ?c3 ?c4 ?_)
    case c0 => exact (Ext.refl w).alloc _
    case c1 => exact HLN.out
    case c2 => exact HC.out _
    case c3 => exact flat_one Go.Rd.encI_one l
    case c4 => omega
    intro v' w2 o2 E2
    go_wp2
    go_ret
    exact ⟨_, rfl, by simpa using o2, E2⟩
set_option maxHeartbeats 2000000 in
theorem l9Own_ok (pl0 : List (Hld × Value)) (v : Value) (w : World) (hv : Hld.All w v pl0) (hl : pl0.length ≤ 1048576) (hll : ∀ p ∈ pl0, p.1.ss.length ≤ 1048576) :
    Calls Try.prog 51 #[v] w fun e w' => ∃ v', e = .returned v' ∧ Hld.OwnX 93 3 w' w.heap.size (pl0.map Prod.fst) v' ∧ Ext w w' := by
  obtain ⟨hv, hat⟩ := hv
  have HAT := Lib.hid hat
  have HLL := Lib.hid hll
  obtain ⟨a, cap, rfl⟩ := hv.shape
  have HV := Lib.hid hv
  clear hat hll hv
  go_enter Try.func51, Try.ntmps51
  go_wp2
  go_loopw [3, 4] (fun o i wr => ∃ k : Nat, k ≤ pl0.length ∧ i = .int .i64 k ∧ Hid (Hld.OwnX 93 3 wr w.heap.size ((pl0.map Prod.fst).take k) o) ∧ Ext w wr) (fun _ i _ => pl0.length - (intOf i).toNat)
  case atStart => exact ⟨0, Nat.zero_le _, rfl, Lib.hid ⟨[], rfl, owns_empty w w.heap.size _ _ (Nat.le_refl _), fun p hp => by simp at hp, fun i j p q _ h => by simp [Hld.lens] at h⟩, (Ext.refl w).alloc _⟩
  case round =>
    obtain ⟨k, hk, rfl, HO, hE⟩ := hrel
    by_cases hlt : k < pl0.length
    · obtain ⟨b, off, hab, hc⟩ := Reads.elems Hld.enc_len (HV.out.mono hE) (by omega)
      subst hab
      obtain ⟨⟨⟨x0, x1, x2, la, x4, x5⟩, sv⟩, hx⟩ := get_of_lt hlt
      have hmem := List.mem_of_getElem? hx
      have hat := (HAT.out _ hmem).mono hE
      have hln := HLL.out _ hmem
      have c0 := hc k _ hx 0 _ rfl
      have c1 := hc k _ hx 1 _ rfl
      have c2 := hc k _ hx 2 _ rfl
      have c3 := hc k _ hx 3 _ rfl
      have c4 := hc k _ hx 4 _ rfl
      have c5 := hc k _ hx 5 _ rfl
      obtain ⟨sa, sc, hsv⟩ := Reads.shape hat
      simp only at hsv hln
      subst hsv
      obtain ⟨pl, hpl, h2, h3, h4⟩ := HO.out
      have hpk : pl.length = k := by have := congrArg List.length hpl; simp at this; omega
      have HT : Hid ((pl0.map Prod.fst).take (k + 1) = pl.map Prod.fst ++ [⟨x0, x1, x2, la, x4, x5⟩]) := Lib.hid (by rw [hpl, List.take_add_one, List.getElem?_map, hx]; rfl)
      obtain ⟨wB, hwB⟩ : ∃ x, x = wr.alloc (.cells #[.int .i64 x0, .int .i64 x1, .int .i64 x2, .slice sa la.length sc, .int .i64 x4, .int .i64 x5] 93) := ⟨_, rfl⟩
      have EB : Ext wr wB := by rw [hwB]; exact (Ext.refl wr).alloc _
      have HB : Hid (Box wB wr.heap.size 93 [.int .i64 x0, .int .i64 x1, .int .i64 x2, .slice sa la.length sc, .int .i64 x4, .int .i64 x5]) := Lib.hid (Box.of_new hwB rfl)
      have HC := Lib.hid (l1OwnX_ok la _ wB (Reads.mono EB hat) hln)
      have H2 := Lib.hid h2
      have H3 := Lib.hid h3
      have H4 := Lib.hid h4
      simp only [Nat.add_zero] at c0
      clear hc hx hmem hat hpl h2 h3 h4
      go_wp2_with fail
      rw [← hwB]
      clear hwB
      refine HC.out.mono ?_
      rintro e w2 ⟨v2, rfl, o2, E2⟩
      obtain ⟨a2, cap2, rfl⟩ := (Reads.of_owns o2).shape
      have B2 := Box.ext E2 HB.out
      have d3 := B2.cell 3 rfl
      have f3 := B2.frozen 3
      obtain ⟨w3, hw3⟩ : ∃ x, x = w2.setCell ⟨wr.heap.size, 3, none⟩ (.slice a2 la.length cap2) := ⟨_, rfl⟩
      have B3 : Box w3 wr.heap.size 93 [.int .i64 x0, .int .i64 x1, .int .i64 x2, .slice a2 la.length cap2, .int .i64 x4, .int .i64 x5] := by rw [hw3]; exact B2.set 3 _
      have o3 : w3.ownsRow w.heap.size 3 1 (.slice a2 la.length cap2) la.length (la.flatMap encI) := by rw [hw3]; exact owns_mono (owns_setCell o2 (p := ⟨wr.heap.size, 3, none⟩) HB.out.lt _) (Nat.le_trans hE.size EB.size)
      have hb2 : ∀ b, Value.ownBlock (.slice a2 la.length cap2) = some b → wr.heap.size ≤ b := fun b hb => Nat.le_trans EB.size (o2.lt b hb).1
      have E3 : Ext wr w3 := by rw [hw3]; exact (Ext.trans EB E2).setCell (Nat.le_refl _) _
      clear HC c0 c1 c2 c3 c4 c5
      go_upto_region 7 with fail
      rw [← hw3]
      clear hw3 B2 d3 f3
      have e0 := B3.cell 0 rfl
      have e1 := B3.cell 1 rfl
      have e2 := B3.cell 2 rfl
      have e3 := B3.cell 3 rfl
      have e4 := B3.cell 4 rfl
      have e5 := B3.cell 5 rfl
      have O3 := Lib.hid o3
      have HB2 := Lib.hid hb2
      clear o3 hb2 o2
      go_wp2_with (at_builtin; refine wpl_appG w (w3.alloc (.cells #[.int .i64 x0, .int .i64 x1, .int .i64 x2, .slice a2 la.length cap2, .int .i64 x4, .int .i64 x5] 93)) rfl _ _ 24 rfl 93 _ 6 64 Try.underlying24 Try.infoIHold rfl (by decide) (by decide) _ pl.length (pl.flatMap Hld.enc) ((Ext.trans hE E3).alloc _) (Ext.owns (E3.alloc _) H2.out) _ 1 1 [.int .i64 x0, .int .i64 x1, .int .i64 x2, .slice a2 la.length cap2, .int .i64 x4, .int .i64 x5] rfl rfl rfl (cells2_at Box.here) ?c1 ?c2 ?_)
      case c1 =>
        intro u hu
        simp only [List.mem_cons, List.not_mem_nil, or_false] at hu
        rcases hu with rfl | rfl | rfl | rfl | rfl | rfl <;> rfl
      case c2 => omega
      intro v' w4 o4 E4 G4
      have HP : Hid (Hld.OwnX 93 3 w4 w.heap.size ((pl0.map Prod.fst).take (k + 1)) v') := Lib.hid (by
        rw [HT.out]
        exact Hld.OwnX.push (by decide) H2.out H3.out H4.out (E3.alloc _) G4 (owns_under O3.out _) HB2.out (by rw [hpk]; exact o4))
      clear o4 G4 e0 e1 e2 e3 e4 e5
      go_wp2
      go_roundw
      case rel => exact ⟨k + 1, by omega, by go_num, HP, E4⟩
      case measure => simp [intOf]; omega
    · have hkn : (pl0.map Prod.fst).take k = pl0.map Prod.fst := List.take_of_length_le (by simp; omega)
      have HO2 : Hid (Hld.OwnX 93 3 wr w.heap.size (pl0.map Prod.fst) _) := Lib.hid (by have := HO.out; rw [hkn] at this; exact this)
      obtain ⟨ra, rc, hra⟩ := HO2.out.rd.shape
      subst hra
      have hkk : k = pl0.length := by omega
      subst hkk
      go_wp2
      go_ret
      exact ⟨_, rfl, HO2.out, hE⟩
end Go.Proofs.Ytkbhonafbecbfaa
