/- slices.Clone at Version, and the program's copy of a row of them; no condition beyond the lengths that are named. -/
import Derived.Test.YtankodjcccnjlaaOwnX
import Derived.Test.YtankodjcccnjlaaFlatRule
import Derived.Test.YtankodjcccnjlaaSlRule
import Derived.WalkSpells
import Derived.Lib.SliceRun
namespace Go.Proofs.Ytankodjcccnjlaa
open Go.RowKit Go.Sort Go.Rd
theorem Try.infoXVersion : (Try.prog.info? 34).map (fun i => (i.zero, i.size, i.bytes)) = some (some (.agg #[.int .i64 0, .slice none 0 0]), 2, 32) := by kernel_rfl
set_option maxHeartbeats 1000000 in
theorem cloneVersionN_ok (n : Nat) (cs : List Value) (v : Value) (w : World) (hv : Reads w 2 v n cs) (h1 : ∀ u ∈ cs, u.oneCell' = true) (hl : n ≤ 1048576) :
    Calls Try.prog 34 #[v] w (RetOwn w 34 2 n cs) := by
  obtain ⟨a, cap, rfl⟩ := hv.shape
  have heq := fun w' => Lib.run_eql_slice_nil (P := Try.prog) w' 28 34 a n cap 0 0 Try.underlying28
  cases a with
  | none =>
    have HL : Hid (n = 0) := by
      obtain ⟨_, a', cap', h1, h2⟩ := hv
      simp only [Value.slice.injEq] at h1
      obtain ⟨rfl, _, rfl⟩ := h1
      rcases h2 with h2 | ⟨b, off, h2, _⟩
      · exact h2
      · cases h2
    have HC : Hid (cs = []) := Lib.hid (List.eq_nil_of_length_eq_zero (by have := hv.1; rw [HL.out] at this; omega))
    go_enter Try.func34, Try.ntmps34
    go_wp2
    go_ret
    rw [HL.out, HC.out]
    exact ⟨_, rfl, World.ownsRow_nil w _ _ _, Ext.refl _⟩
  | some ad =>
    have hc : ∀ o, ∀ j u, cs[j]? = some u → (w.alloc o).cell? (ad.add j) = some u := by
      intro o j u hu
      have hj := (List.getElem?_eq_some_iff.1 hu).1
      have hlen := hv.1
      obtain ⟨_, b, off, ha, hc⟩ := hv.at (by omega)
      simp only [Option.some.injEq] at ha
      subst ha
      have := hc j (by omega)
      rw [hu] at this
      have hadd : (⟨b, off, none⟩ : Addr).add j = ⟨b, off + j, none⟩ := by unfold Addr.add; split <;> simp_all
      rw [hadd]
      exact ((Ext.refl w).alloc o).cell this
    have HC := Lib.hid hc
    have HLN := Lib.hid hv.1
    clear hc
    go_enter Try.func34, Try.ntmps34
    go_wp2_with (at_builtin; refine wpl_appendN w (w.alloc (.cells #[] 34)) rfl _ _ 28 rfl 34 _ 2 32 Try.underlying28 Try.infoXVersion rfl (by decide) (by decide) _ 0 [] ?c0 (owns_empty w w.heap.size _ _ (Nat.le_refl _)) ad n cap cs rfl rfl ?c1 ?c2 ?c3 ?c4 ?_)
    case c0 => exact (Ext.refl w).alloc _
    case c1 => exact HLN.out
    case c2 => exact HC.out _
    case c3 => exact h1
    case c4 => omega
    intro v' w2 o2 E2
    go_wp2
    go_ret
    exact ⟨_, rfl, by simpa using o2, E2⟩
set_option maxHeartbeats 1000000 in
theorem copyVersions_ok (pl : List (Ver × Value)) (v : Value) (w : World) (hv : Ver.All w v pl) (hl : pl.length ≤ 1048576) (hll : ∀ p ∈ pl, p.1.rs.length ≤ 1048576) :
    Calls Try.prog 20 #[v] w fun e w' => ∃ v', e = .returned v' ∧ Ver.OwnX 34 48 w' w.heap.size (pl.map Prod.fst) v' ∧ Ext w w' := by
  obtain ⟨hv, hat⟩ := hv
  have HAT := Lib.hid hat
  have HLL := Lib.hid hll
  have h1 : ∀ u ∈ pl.flatMap Ver.enc, u.oneCell' = true := by
    intro u hu
    obtain ⟨p, hp, hu⟩ := List.mem_flatMap.1 hu
    exact Ver.one (hat p hp) u hu
  have HC := cloneVersionN_ok pl.length _ v w hv h1 hl
  have HCH := Lib.hid HC
  clear hat hll h1 HC
  go_enter Try.func20, Try.ntmps20
  go_wp2_with fail
  refine HCH.out.mono ?_
  rintro e w1 ⟨v1, rfl, o1, E1⟩
  clear HCH
  rcases o1.2 with ⟨rfl, h0⟩ | ⟨g, cap, cur, rfl, hg, hcur, hnc, hcm, hcs, htake⟩
  · obtain rfl : pl = [] := List.eq_nil_of_length_eq_zero h0
    go_wp2
    go_loopw [9] (fun i wr => i = .int .i64 0 ∧ wr = w1) (fun _ _ => 0)
    case atStart => exact ⟨rfl, rfl⟩
    case round =>
      obtain ⟨rfl, rfl⟩ := hrel
      go_wp2
      go_ret
      exact ⟨_, rfl, Ver.OwnX.nil _ _ _ _, E1⟩
  have HH : Hid (Ver.Half 34 48 w1 w.heap.size g cap 0 pl) := Lib.hid (Ver.Half.start o1)
  have HCM := Lib.hid hcm
  have hgs := (o1.lt g rfl).2
  clear hcur hcs htake hcm o1
  go_wp2
  go_loopw [9] (fun i wr => ∃ k : Nat, k ≤ pl.length ∧ i = .int .i64 k ∧ Hid (Ver.Half 34 48 wr w.heap.size g cap k pl) ∧ Ext w wr) (fun i _ => pl.length - (intOf i).toNat)
  case atStart => exact ⟨0, Nat.zero_le _, rfl, HH, E1⟩
  case round =>
    obtain ⟨k, hk, rfl, HR, hE⟩ := hrel
    by_cases hlt : k < pl.length
    · obtain ⟨⟨r, sv⟩, hx⟩ := get_of_lt hlt
      obtain ⟨c3, f3⟩ := HR.out.at hx
      simp only at c3
      have hC := cloneRule_ok r.rs sv wr (Reads.mono hE (HAT.out _ (List.mem_of_getElem? hx))) (HLL.out _ (List.mem_of_getElem? hx))
      have HCC := Lib.hid hC
      have HX := Lib.hid hx
      clear hC hx
      go_wp2_with fail
      refine HCC.out.mono ?_
      rintro e w2 ⟨v2, rfl, o2, E2⟩
      obtain ⟨a2, cap2, rfl⟩ := (Reads.of_owns o2).shape
      have HR2 := Lib.hid (HR.out.put (by decide) hE.size E2 HX.out o2)
      obtain ⟨d3, g3⟩ := (HR.out.ext E2).at HX.out
      simp only at d3
      have E2' := (Ext.trans hE E2).setCell (p := ⟨g, k * 2 + 1, none⟩) hg (.slice a2 r.rs.length cap2)
      clear c3 f3 HCC o2
      go_wp2
      go_roundw
      case rel => exact ⟨k + 1, by omega, by go_num, HR2, E2'⟩
      case measure => simp [intOf]; omega
    · have hkn : k = pl.length := by omega
      subst hkn
      have HD := Lib.hid (HR.out.done hg hnc HCM.out)
      go_wp2
      go_ret
      exact ⟨_, rfl, HD.out, hE⟩
end Go.Proofs.Ytankodjcccnjlaa
