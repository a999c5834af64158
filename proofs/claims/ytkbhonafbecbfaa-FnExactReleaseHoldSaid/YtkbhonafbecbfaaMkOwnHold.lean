/- Marks of a row of Hold whose slices are its own, told of the list; no condition beyond the lengths that are named. -/
import Derived.Test.YtkbhonafbecbfaaOwnX
import Derived.Test.YtkbhonafbecbfaaMkHold
namespace Go.Proofs.Ytkbhonafbecbfaa
open Go.RowKit Go.Sort Go.Rd
/-- The row v is marked from c on, each slice too. -/
def MkXHold (w : World) (base : Nat) (v : Value) (c : Int) (L : List (Nat × Value)) : Prop :=
  w.ownsRow base 93 6 v L.length (mkCells 3 2 1 c L) ∧ (∀ (i : Nat) (p : Nat × Value), L[i]? = some p → w.ownsRow base 3 1 p.2 p.1 (numCells (c + (mkTot 3 2 1 (L.take i) : Nat) + 3) (p.1 * 1))) ∧ L.length + (L.map Prod.fst).sum ≤ 1048576
theorem MkXHold.ext {w w' : World} {base : Nat} {v : Value} {c : Int} {L : List (Nat × Value)} (h : Ext w w') (ho : MkXHold w base v c L) : MkXHold w' base v c L := ⟨h.owns ho.1, fun i p hp => h.owns (ho.2.1 i p hp), ho.2.2⟩
theorem markHoldS_own (base : Nat) (l : List Hld) (v : Value) (k0 : Int) (w : World) (ho : Hld.OwnX 93 3 w base l v) (hn : l.length + Hld.wt l ≤ 1048576) (hk0 : 0 ≤ k0) (hk1 : k0 ≤ 1048576 * 1048560) :
    Calls Try.prog 14 #[v, .int .i64 k0] w fun e w' => ∃ L, e = .returned (.int .i64 (k0 + (mkTot 3 2 1 L : Nat))) ∧ MkXHold w' base v k0 L ∧ Turned base w.heap.size w w' := by
  obtain ⟨pl, rfl, h2, h3, h4⟩ := ho
  have hlen : (Hld.lens pl).length = pl.length := by unfold Hld.lens; simp
  have hs : (Hld.lens pl).length + ((Hld.lens pl).map Prod.fst).sum ≤ 1048576 := by rw [hlen, Hld.lens_sum]; simpa using hn
  refine (markHoldX_ok base w.heap.size (Hld.lens pl) (pl.flatMap Hld.enc) v k0 w (by rw [hlen]; exact h2) ?_ ?_ h4 (fun j hj => (h2.lt j hj).2) ?_ hs hk0 hk1).mono ?_
  · intro i q hq
    obtain ⟨p, hp, rfl⟩ := Hld.lens_get hq
    exact flat_some (enc := Hld.enc) Hld.enc_len hp (j := 3) (u := p.2) rfl
  · intro i q hq
    obtain ⟨p, hp, rfl⟩ := Hld.lens_get hq
    exact ⟨_, h3 p (List.mem_of_getElem? hp)⟩
  · intro q hq j hj
    unfold Hld.lens at hq
    obtain ⟨p, hp, rfl⟩ := List.mem_map.1 hq
    exact ((h3 p hp).lt j hj).2
  · rintro e w' ⟨h5, h6, h7, h8⟩
    exact ⟨Hld.lens pl, h5, ⟨h6, h7, hs⟩, h8⟩
theorem heldHoldS_mk (L : List (Nat × Value)) (v : Value) (k0 : Int) (w : World) {base : Nat} (om : MkXHold w base v k0 L) (hk0 : 0 ≤ k0) (hk1 : k0 ≤ 1048576 * 1048560) :
    Calls Try.prog 15 #[v, .int .i64 k0] w fun e w' => e = .returned (.int .i64 (k0 + (mkTot 3 2 1 L : Nat))) ∧ w = w' :=
  heldHoldX_ok L v k0 w (Reads.of_owns om.1) (fun i p hp => Reads.of_owns (om.2.1 i p hp)) om.2.2 hk0 hk1
end Go.Proofs.Ytkbhonafbecbfaa
