/- Slices whose length lies within their room; without a program; no condition. -/
import Derived.Test.YtankodjcccnjlaaBase
namespace Go.Rd
open Go.RowKit Go.Sort
/-- A slice's length lies within its room. -/
def Room (v : Value) : Prop := ∀ a n cap, v = .slice a n cap → n ≤ cap
theorem Room.of_owns {w : World} {base : Nat} {e : TypeId} {sz : Nat} {v : Value} {n : Nat} {cs : List Value} (h : w.ownsRow base e sz v n cs) : Room v := by
  intro a m cap hv
  rcases owns_cases h with ⟨h1, _⟩ | ⟨g, c, h1, _, _, h2, _⟩
  · rw [hv] at h1; cases h1; exact Nat.le_refl _
  · rw [hv] at h1; cases h1; exact h2
theorem Room.mk {a : Option Addr} {n cap : Nat} (h : n ≤ cap) : Room (.slice a n cap) := fun _ _ _ e => by cases e; exact h
/-- The call returns a slice that reads as the cells cs, within its room. -/
def RetReadR (w : World) (sz n : Nat) (cs : List Value) (e : Ending) (w' : World) : Prop :=
  ∃ v', e = .returned v' ∧ Reads w' sz v' n cs ∧ Room v' ∧ Ext w w'
end Go.Rd
