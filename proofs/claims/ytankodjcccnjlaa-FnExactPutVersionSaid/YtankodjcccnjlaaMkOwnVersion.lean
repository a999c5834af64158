/- Marks of a row of Version whose slices are its own, told of the list; no condition beyond the lengths that are named. -/
import Derived.Test.YtankodjcccnjlaaOwnX
import Derived.Test.YtankodjcccnjlaaMkVersion
namespace Go.Proofs.Ytankodjcccnjlaa
open Go.RowKit Go.Sort Go.Rd
/-- The row v is marked from c on, each slice too. -/
def MkXVersion (w : World) (base : Nat) (v : Value) (c : Int) (L : List (Nat × Value)) : Prop :=
  w.ownsRow base 34 2 v L.length (mkCells 1 0 4 c L) ∧ (∀ (i : Nat) (p : Nat × Value), L[i]? = some p → w.ownsRow base 48 4 p.2 p.1 (numCells (c + (mkTot 1 0 4 (L.take i) : Nat) + 1) (p.1 * 4))) ∧ L.length + (L.map Prod.fst).sum ≤ 1048576
theorem MkXVersion.ext {w w' : World} {base : Nat} {v : Value} {c : Int} {L : List (Nat × Value)} (h : Ext w w') (ho : MkXVersion w base v c L) : MkXVersion w' base v c L := ⟨h.owns ho.1, fun i p hp => h.owns (ho.2.1 i p hp), ho.2.2⟩
theorem markVersionS_own (base : Nat) (l : List Ver) (v : Value) (k0 : Int) (w : World) (ho : Ver.OwnX 34 48 w base l v) (hn : l.length + Ver.wt l ≤ 1048576) (hk0 : 0 ≤ k0) (hk1 : k0 ≤ 1048576 * 1048560) :
    Calls Try.prog 12 #[v, .int .i64 k0] w fun e w' => ∃ L, e = .returned (.int .i64 (k0 + (mkTot 1 0 4 L : Nat))) ∧ MkXVersion w' base v k0 L ∧ Turned base w.heap.size w w' := by
  obtain ⟨pl, rfl, h2, h3, h4⟩ := ho
  have hlen : (Ver.lens pl).length = pl.length := by unfold Ver.lens; simp
  have hs : (Ver.lens pl).length + ((Ver.lens pl).map Prod.fst).sum ≤ 1048576 := by rw [hlen, Ver.lens_sum]; simpa using hn
  refine (markVersionX_ok base w.heap.size (Ver.lens pl) (pl.flatMap Ver.enc) v k0 w (by rw [hlen]; exact h2) ?_ ?_ h4 (fun j hj => (h2.lt j hj).2) ?_ hs hk0 hk1).mono ?_
  · intro i q hq
    obtain ⟨p, hp, rfl⟩ := Ver.lens_get hq
    exact flat_some (enc := Ver.enc) Ver.enc_len hp (j := 1) (u := p.2) rfl
  · intro i q hq
    obtain ⟨p, hp, rfl⟩ := Ver.lens_get hq
    exact ⟨_, h3 p (List.mem_of_getElem? hp)⟩
  · intro q hq j hj
    unfold Ver.lens at hq
    obtain ⟨p, hp, rfl⟩ := List.mem_map.1 hq
    exact ((h3 p hp).lt j hj).2
  · rintro e w' ⟨h5, h6, h7, h8⟩
    exact ⟨Ver.lens pl, h5, ⟨h6, h7, hs⟩, h8⟩
theorem heldVersionS_mk (L : List (Nat × Value)) (v : Value) (k0 : Int) (w : World) {base : Nat} (om : MkXVersion w base v k0 L) (hk0 : 0 ≤ k0) (hk1 : k0 ≤ 1048576 * 1048560) :
    Calls Try.prog 14 #[v, .int .i64 k0] w fun e w' => e = .returned (.int .i64 (k0 + (mkTot 1 0 4 L : Nat))) ∧ w = w' :=
  heldVersionX_ok L v k0 w (Reads.of_owns om.1) (fun i p hp => Reads.of_owns (om.2.1 i p hp)) om.2.2 hk0 hk1
end Go.Proofs.Ytankodjcccnjlaa
