/- How a law's argument is opened: a slice of structs that reads as data reads as a list of cells; without a program; no condition. -/
import Derived.Test.YtankodjcccnjlaaData
import Derived.ProofKit
import Derived.Deep.Slices
namespace Go.Rd
open Go.RowKit Go.Sort Go.ChangeShapes Go.WideShapes
section
variable {H : Type} {enc : TypeId × Value → H} {P : Program} {w : World} {spare : Nat → Bool} {held : Bool}

theorem add_cell {a : Addr} {v : Value} {i : Nat} (hs : a.spot = none) (h : w.cell? (a.add i) = some v) : w.cell? ⟨a.block, a.off + i, none⟩ = some v := by
  obtain ⟨b, o, s⟩ := a
  simp only at hs
  subst hs
  by_cases hi : i = 0
  · subst hi; simpa [Addr.add] using h
  · simpa [Addr.add, hi] using h
theorem spot_none {a : Addr} {v : Value} (h : w.cell? (a.add 0) = some v) : a.spot = none := by
  obtain ⟨b, o, s⟩ := a
  cases s with
  | none => rfl
  | some s =>
    simp only [Addr.add, if_true, World.cell?] at h
    split at h <;> simp at h

/-- A slice that reads as data, opened: its cells are those of a list of elements, each of which has what 'X' says. -/
theorem open_rows {α : Type} [Inhabited α] (cell : α → List Value) (X : α → Prop) {t e : TypeId} {sz : Nat} (hcell : ∀ x, (cell x).length = sz) (hsz : 0 < sz) (ht : P.underlying t = some (.slice e)) (ce : P.cellsOf e = sz)
    (helem : ∀ n cs' y, DataW.trod enc P w 0 spare held n e cs' = some y → ∃ x : α, cs' = cell x ∧ X x)
    {fuel : Nat} {v : Value} {x : DataW H × List MemPlace} (h : DataW.trod enc P w 0 spare held fuel t [v] = some x) :
    ∃ l : List α, Reads w sz v l.length (l.flatMap cell) ∧ l.length ≤ maxLen ∧ ∀ x ∈ l, X x := by
  rcases Go.Deep.open_slice ht h with ⟨hn, _⟩ | ⟨a, len, cap, m, n, D, Pl, hcs, _, hlc, hcm, hm, _, hel⟩
  · simp only [List.cons.injEq, and_true] at hn
    subst hn
    exact ⟨[], ⟨by simp, none, 0, rfl, .inl rfl⟩, Nat.zero_le _, by simp⟩
  simp only [List.cons.injEq, and_true] at hcs
  subst hcs
  rw [ce] at hel
  have hlm : len ≤ m := by rw [hm]; split <;> omega
  have each : ∀ i, i < len → ∃ y : α, X y ∧ ∀ j, j < sz → w.cell? ((a.add (i * sz)).add j) = (cell y)[j]? := by
    intro i hi
    obtain ⟨cs', h1, h2⟩ := hel i (by omega)
    obtain ⟨y, rfl, hX⟩ := helem _ _ _ h2
    obtain ⟨_, hlen, hc⟩ := World.cells?_some h1
    exact ⟨y, hX, hc⟩
  obtain ⟨f, hf⟩ := Go.Deep.choose_lt each
  have hll : ((List.range len).map f).length = len := by simp
  refine ⟨(List.range len).map f, ?_, by rw [hll]; omega, ?_⟩
  · rw [hll]
    refine ⟨by rw [flat_length cell sz hcell, hll], some a, cap, rfl, ?_⟩
    by_cases hz : len = 0
    · exact .inl hz
    right
    have hs : a.spot = none := by
      have h0 := (hf 0 (by omega)).2 0 hsz
      rw [Nat.zero_mul, Go.Deep.add_add, Nat.zero_add] at h0
      have h1 : (cell (f 0))[0]? = some ((cell (f 0))[0]'(by rw [hcell]; exact hsz)) := List.getElem?_eq_getElem _
      rw [h1] at h0
      exact spot_none h0
    refine ⟨a.block, a.off, by rw [← hs], fun i hi => ?_⟩
    have hq : i / sz < len := by rw [Nat.div_lt_iff_lt_mul hsz]; exact hi
    have hr : i % sz < sz := Nat.mod_lt _ hsz
    have e1 : i = i / sz * sz + i % sz := by rw [Nat.mul_comm]; exact (Nat.div_add_mod i sz).symm
    have hc := (hf _ hq).2 _ hr
    rw [Go.Deep.add_add, ← e1] at hc
    have h2 := flat_get cell sz hcell ((List.range len).map f) (i / sz) (by simpa using hq) (i % sz) hr
    rw [← e1] at h2
    simp only [List.getElem_map, List.getElem_range] at h2
    rw [h2]
    have h3 : (cell (f (i / sz)))[i % sz]? = some ((cell (f (i / sz)))[i % sz]'(by rw [hcell]; exact hr)) := List.getElem?_eq_getElem _
    rw [h3] at hc ⊢
    exact add_cell hs hc
  · intro y hy
    obtain ⟨i, hi, rfl⟩ := List.mem_map.1 hy
    exact (hf i (List.mem_range.1 hi)).1

/-- One field of a struct that reads as data, whose type has one cell. -/
theorem field_one {t : TypeId} {fs : Array Field} {n : Nat} {cs : List Value} {x : DataW H × List MemPlace} (ht : P.underlying t = some (.struct fs)) (h : DataW.trod enc P w 0 spare held n t cs = some x)
    {i : Nat} {f : Field} (hi : fs[i]? = some f) (ho : f.offset = i) (hc : P.cellsOf f.type = 1) : ∃ m y, DataW.trod enc P w 0 spare held m f.type ((cs.drop i).take 1) = some y := by
  obtain ⟨xs, m, _, _, _, hxl, hf⟩ := DataW.trod_struct ht h
  have hlt : i < fs.size := (Array.getElem?_eq_some_iff.1 hi).1
  have h1 := hf i f hi
  rw [ho, hc] at h1
  exact ⟨m, xs[i]'(by omega), by rw [h1]; exact List.getElem?_eq_getElem _⟩
theorem struct_length {t : TypeId} {fs : Array Field} {n : Nat} {cs : List Value} {x : DataW H × List MemPlace} (ht : P.underlying t = some (.struct fs)) (h : DataW.trod enc P w 0 spare held n t cs = some x) : cs.length = P.cellsOf t := by
  obtain ⟨_, _, _, _, hl, _⟩ := DataW.trod_struct ht h
  exact hl
/-- What of a field's row is closed: its number, its offset, that its type is an integer of one cell. -/
def FieldInt (P : Program) (fs : Array Field) (i : Nat) : Prop := ∃ f, fs[i]? = some f ∧ f.offset = i ∧ P.cellsOf f.type = 1 ∧ P.underlying f.type = some (.int .i64)
theorem FieldInt.cell {t : TypeId} {fs : Array Field} {n i : Nat} {cs : List Value} {x : DataW H × List MemPlace} (ht : P.underlying t = some (.struct fs)) (hi : FieldInt P fs i) (h : DataW.trod enc P w 0 spare held n t cs = some x) {c : Value} (hc : (cs.drop i).take 1 = [c]) :
    ∃ q, c = .int .i64 q := by
  obtain ⟨f, h1, h2, h3, h4⟩ := hi
  obtain ⟨m, y, hy⟩ := field_one ht h h1 h2 h3
  rw [hc] at hy
  obtain ⟨q, hq, _⟩ := DataW.trod_int h4 hy
  simp only [List.cons.injEq, and_true] at hq
  exact ⟨q, hq⟩
end
end Go.Rd
