/- Struct variables in a block of their own; without a program; no condition. -/
import Derived.Test.YtankodjcccnjlaaBase
namespace Go.Rd
open Go.RowKit Go.Sort
/-- Block g holds the cells cs, and may be written. -/
def Box (w : World) (g : Nat) (e : TypeId) (cs : List Value) : Prop := w.heap[g]? = some (.cells cs.toArray e (0, 0))
theorem Box.lt {w : World} {g : Nat} {e : TypeId} {cs : List Value} (h : Box w g e cs) : g < w.heap.size := (Array.getElem?_eq_some_iff.1 h).1
theorem Box.cell {w : World} {g : Nat} {e : TypeId} {cs : List Value} (h : Box w g e cs) (j : Nat) {u : Value} (hu : cs[j]? = some u) : w.cell? ⟨g, j, none⟩ = some u := by
  rw [cell_of_row w g j cs.toArray e (0, 0) h]; simpa using hu
theorem Box.frozen {w : World} {g : Nat} {e : TypeId} {cs : List Value} (h : Box w g e cs) (j : Nat) : w.frozen? ⟨g, j, none⟩ = false := frozen_of_row w g j cs.toArray e h
theorem Box.ext {w w' : World} (h : Ext w w') {g : Nat} {e : TypeId} {cs : List Value} (hb : Box w g e cs) : Box w' g e cs := h.heap hb
theorem Box.new (w : World) (e : TypeId) (cs : List Value) : Box (w.alloc (.cells cs.toArray e)) w.heap.size e cs := heap_alloc_new w _
theorem Box.set {w : World} {g : Nat} {e : TypeId} {cs : List Value} (h : Box w g e cs) (j : Nat) (u : Value) : Box (w.setCell ⟨g, j, none⟩ u) g e (cs.set j u) := by
  have := heap_setCell_same w g j cs.toArray e u h
  unfold Box; rw [this]; simp
theorem Box.other {w : World} {g : Nat} {e : TypeId} {cs : List Value} (h : Box w g e cs) {p : Addr} (hp : p.block ≠ g) (u : Value) : Box (w.setCell p u) g e cs := by
  unfold Box; rw [Below.heap_setCell _ _ _ _ hp.symm]; exact h
theorem Turned.of_ext {B1 B2 : Nat} {a b : World} (h : Ext a b) : Turned B1 B2 a b := ⟨h.os, h.tape, h.output, h.size, fun k hk _ => h.block k hk⟩
theorem Turned.ext {B1 B2 : Nat} {a b c : World} (h : Turned B1 B2 a b) (k : Ext b c) : Turned B1 B2 a c :=
  ⟨k.os.trans h.os, k.tape.trans h.tape, k.output.trans h.output, Nat.le_trans h.size k.size, fun i hi hb => (k.block i (Nat.lt_of_lt_of_le hi h.size)).trans (h.block i hi hb)⟩
theorem Box.turned {B1 B2 : Nat} {w w' : World} (h : Turned B1 B2 w w') {g : Nat} {e : TypeId} {cs : List Value} (hb : Box w g e cs) (hg : g < B1 ∨ B2 ≤ g) : Box w' g e cs := by
  unfold Box; rw [h.block g hb.lt hg]; exact hb
theorem Box.of_new {w w' : World} {e : TypeId} {cs : List Value} (h : w' = w.alloc (.cells cs.toArray e)) {g : Nat} (hg : w.heap.size = g) : Box w' g e cs := by subst h hg; exact Box.new w e cs
end Go.Rd
