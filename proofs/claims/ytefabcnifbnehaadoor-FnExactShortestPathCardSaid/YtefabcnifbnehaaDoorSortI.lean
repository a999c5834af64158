/- What the library's Sort and Compact leave of a row of integers that the call has made itself; no condition beyond the lengths that are named. -/
import Derived.Test.YtefabcnifbnehaaDoorInts
import Derived.Shelf.Lay
import Derived.Shelf.Sort.Plain
import Derived.Shelf.Slices.In.SortNone
import Derived.Shelf.Slices.CompactI
import Derived.Sort.OwnSortedInts
import Derived.Lib.OwnBridge
import Derived.Ground.NamesProg
import Derived.Ground.Names2Prog
namespace Go.Proofs
open Go.Shelf
shelf_lay Lays.n189 Nm 189 at Tryd as Tryd.lays189
end Go.Proofs
namespace Go.Proofs.YtefabcnifbnehaaDoor
open Go.RowKit Go.Sort Go.Rd
theorem flat_ints (l : List Int) : l.flatMap Go.Rd.encI = l.map (Value.int .i64) := by
  induction l with
  | nil => rfl
  | cons x l ih => simp only [List.flatMap_cons, List.map_cons, Go.Rd.encI, ih, List.cons_append, List.nil_append]
def sortL (l : List Int) : List Int := l.mergeSort fun x y => decide (x ≤ y)
theorem sortL_len (l : List Int) : (sortL l).length = l.length := List.length_mergeSort l
theorem grow_below {B : Nat} {a w : World} (h : Below B a w) (hB : B ≤ w.heap.size) (os : Array Obj) : Below B a (grow w os) :=
  ⟨h.os, h.tape, h.output, Nat.le_trans h.size (by simp [grow]), fun k hk => by rw [heap_grow_old _ _ (by omega)]; exact h.block k hk⟩
theorem sortInts_ok (base : Nat) (l : List Int) (v : Value) (w : World) (hown : w.ownsRow base 3 1 v l.length (l.flatMap Go.Rd.encI)) (hl : l.length ≤ 1048576) :
    Calls Tryd.prog 77 #[v] w fun e w' => e = .returned (.tuple #[]) ∧ w'.ownsRow base 3 1 v (sortL l).length ((sortL l).flatMap Go.Rd.encI) ∧ Below base w w' := by
  rw [sortL_len, flat_ints]
  rw [flat_ints] at hown
  rcases hown.2 with ⟨rfl, h0⟩ | ⟨g, cap, cur, rfl, hbase, hb, h1, h2, h3, h4⟩
  · have hnil : l = [] := List.eq_nil_of_length_eq_zero h0
    subst hnil
    refine (Any.slices_Sort_int_none Tryd.lays189 none 0 w).mono ?_
    rintro e w' ⟨rfl, rfl⟩
    refine ⟨rfl, ?_, Below.refl _ _⟩
    have : (sortL []) = [] := by simp [sortL]
    rw [this]
    exact World.ownsRow_nil _ _ _ _
  · have hH : Holds (Value.int .i64) w g 0 l.toArray := holds_of_blockI hb (by simpa using h4)
    have hg : g < w.heap.size := (Array.getElem?_eq_some_iff.1 hb).1
    refine (Any.slices_Sort_int Tryd.lays189 g 0 cap l w hH hg (by omega)).mono ?_
    rintro e w' ⟨rfl, n, os, rfl⟩
    refine ⟨rfl, ?_, ?_⟩
    · exact ownsRow_sortedI (ss := l) (ts := sortL l) (sortL_len l) hbase hb h1 h2 h3
    · have hbel := Lib.below_putRow (enc := Value.int .i64) (B := base) (q := n) (d := (sortL l).toArray) (Below.refl base w) hbase
      exact grow_below hbel (by simp [putRow, mapBlock, Sort.ahead]; omega) os
end Go.Proofs.YtefabcnifbnehaaDoor
