/- Rows of structs that hold one slice each, marked cell by cell; without a program; no condition. -/
import Derived.Test.YtankodjcccnjlaaNestBase
namespace Go.Rd
open Go.Sort Go.RowKit
/-- How many marks one struct takes: pre fields, a slice of p.1 elements of ns cells, post fields. -/
def mkN (pre post ns : Nat) (p : Nat × Value) : Nat := pre + p.1 * ns + post
def mkTot (pre post ns : Nat) (l : List (Nat × Value)) : Nat := (l.map (mkN pre post ns)).sum
/-- The cells of one struct whose marks begin at c. -/
def mkOne (pre post ns : Nat) (c : Int) (p : Nat × Value) : List Value := numCells c pre ++ p.2 :: numCells (c + (pre + p.1 * ns : Nat)) post
def mkCells (pre post ns : Nat) : Int → List (Nat × Value) → List Value
  | _, [] => []
  | c, p :: l => mkOne pre post ns c p ++ mkCells pre post ns (c + (mkN pre post ns p : Nat)) l
theorem mkOne_length (pre post ns : Nat) (c : Int) (p : Nat × Value) : (mkOne pre post ns c p).length = pre + 1 + post := by simp [mkOne, numCells_length]; omega
theorem mkCells_length (pre post ns : Nat) : ∀ (l : List (Nat × Value)) (c : Int), (mkCells pre post ns c l).length = l.length * (pre + 1 + post)
  | [], c => by simp [mkCells]
  | p :: l, c => by rw [mkCells, List.length_append, mkOne_length, mkCells_length pre post ns l, List.length_cons, Nat.add_mul]; omega
theorem mkTot_cons (pre post ns : Nat) (p : Nat × Value) (l : List (Nat × Value)) : mkTot pre post ns (p :: l) = mkN pre post ns p + mkTot pre post ns l := by simp [mkTot]
theorem mkCells_get (pre post ns : Nat) : ∀ (l : List (Nat × Value)) (c : Int) (i : Nat) (p : Nat × Value), l[i]? = some p → ∀ j, j < pre + 1 + post →
    (mkCells pre post ns c l)[i * (pre + 1 + post) + j]? = (mkOne pre post ns (c + (mkTot pre post ns (l.take i) : Nat)) p)[j]?
  | [], c, i, p, h, j, hj => by simp at h
  | q :: l, c, 0, p, h, j, hj => by
    simp only [List.getElem?_cons_zero, Option.some.injEq] at h
    subst h
    rw [mkCells, Nat.zero_mul, Nat.zero_add, List.getElem?_append_left (by rw [mkOne_length]; exact hj)]
    simp [mkTot]
  | q :: l, c, i + 1, p, h, j, hj => by
    rw [mkCells, List.getElem?_append_right (by rw [mkOne_length, Nat.add_mul]; omega), mkOne_length]
    rw [show (i + 1) * (pre + 1 + post) + j - (pre + 1 + post) = i * (pre + 1 + post) + j by rw [Nat.add_mul]; omega]
    rw [mkCells_get pre post ns l _ i p (by simpa using h) j hj]
    rw [List.take_succ_cons, mkTot_cons]
    congr 2
    push_cast
    omega
theorem mkTot_step (pre post ns : Nat) (l : List (Nat × Value)) (k : Nat) (p : Nat × Value) (h : l[k]? = some p) : mkTot pre post ns (l.take (k + 1)) = mkTot pre post ns (l.take k) + mkN pre post ns p := by
  unfold mkTot; rw [List.take_add_one, h]; simp
theorem mkTot_le (pre post ns : Nat) (l : List (Nat × Value)) (k : Nat) : mkTot pre post ns (l.take k) ≤ mkTot pre post ns l := by
  unfold mkTot; conv => rhs; rw [← List.take_append_drop k l]
  rw [List.map_append, List.sum_append]; omega
theorem mkTot_bound (pre post ns : Nat) (l : List (Nat × Value)) : mkTot pre post ns l = l.length * (pre + post) + (l.map Prod.fst).sum * ns := by
  unfold mkTot
  induction l with
  | nil => simp
  | cons p l ih => simp only [List.map_cons, List.sum_cons, List.length_cons, ih, mkN, Nat.add_mul]; omega
theorem fst_le {l : List (Nat × Value)} {k : Nat} {p : Nat × Value} (h : l[k]? = some p) : p.1 ≤ (l.map Prod.fst).sum := by
  induction l generalizing k with
  | nil => simp at h
  | cons q l ih =>
    cases k with
    | zero => simp only [List.getElem?_cons_zero, Option.some.injEq] at h; subst h; simp
    | succ k => have := ih (k := k) (by simpa using h); simp only [List.map_cons, List.sum_cons]; omega
/-- The slices lie in blocks of their own, no two in one. -/
def Apart (l : List (Nat × Value)) : Prop := ∀ (i j : Nat) (p q : Nat × Value), i ≠ j → l[i]? = some p → l[j]? = some q → ∀ b, p.2.ownBlock = some b → q.2.ownBlock ≠ some b
/-- The row while it is marked: the first m cells are as they shall be, each slice's value stands in its place. -/
def MkRows (w : World) (g : Nat) (E : TypeId) (sz cap s : Nat) (svs mk : List Value) (m : Nat) : Prop :=
  ∃ cur, w.heap[g]? = some (.cells cur E (0, 0)) ∧ cur.size = cap * sz ∧ (∀ j u, svs[j]? = some u → cur[j * sz + s]? = some u) ∧ ∀ j u, j < m → mk[j]? = some u → cur[j]? = some u
theorem MkRows.sv {w : World} {g : Nat} {E : TypeId} {sz cap s : Nat} {svs mk : List Value} {m : Nat} (h : MkRows w g E sz cap s svs mk m) : SvRows w g E sz cap s svs := by
  obtain ⟨cur, h1, h2, h3, _⟩ := h
  exact ⟨cur, h1, h2, h3⟩
theorem MkRows.of {w : World} {g : Nat} {E : TypeId} {sz cap s : Nat} {svs : List Value} (mk : List Value) (h : SvRows w g E sz cap s svs) : MkRows w g E sz cap s svs mk 0 := by
  obtain ⟨cur, h1, h2, h3⟩ := h
  exact ⟨cur, h1, h2, h3, fun j u hj => by omega⟩
theorem MkRows.set {w : World} {g : Nat} {E : TypeId} {sz cap s : Nat} {svs mk : List Value} {m k r : Nat} (h : MkRows w g E sz cap s svs mk m) (hm : m = k * sz + r) (hr : r < sz) (hrs : r ≠ s) (hs : s < sz) (hc : m < cap * sz) {u : Value} (hu : mk[m]? = some u) :
    MkRows (w.setCell ⟨g, m, none⟩ u) g E sz cap s svs mk (m + 1) := by
  obtain ⟨cur, h1, h2, h3, h4⟩ := h
  refine ⟨cur.setIfInBounds m u, heap_setCell_same w g _ cur E u h1, by simpa using h2, fun j x hj => ?_, fun j x hj hx => ?_⟩
  · rw [Array.getElem?_setIfInBounds_ne]
    · exact h3 j x hj
    · intro he
      rw [hm] at he
      have e1 : (k * sz + r) % sz = r := by rw [Nat.mul_comm, Nat.mul_add_mod]; exact Nat.mod_eq_of_lt hr
      have e2 : (j * sz + s) % sz = s := by rw [Nat.mul_comm, Nat.mul_add_mod]; exact Nat.mod_eq_of_lt hs
      rw [he, e2] at e1
      exact hrs e1.symm
  · by_cases hjm : j = m
    · subst hjm
      rw [hu] at hx
      rw [← hx]
      simp [h2, hc]
    · rw [Array.getElem?_setIfInBounds_ne (by omega)]
      exact h4 j x (by omega) hx
theorem MkRows.skip {w : World} {g : Nat} {E : TypeId} {sz cap s : Nat} {svs mk : List Value} {m k : Nat} (h : MkRows w g E sz cap s svs mk m) (hm : m = k * sz + s) {u : Value} (hk : svs[k]? = some u) (hu : mk[m]? = some u) :
    MkRows w g E sz cap s svs mk (m + 1) := by
  obtain ⟨cur, h1, h2, h3, h4⟩ := h
  refine ⟨cur, h1, h2, h3, fun j x hj hx => ?_⟩
  by_cases hjm : j = m
  · subst hjm
    rw [hu] at hx
    rw [hm, ← hx]; exact h3 k u hk
  · exact h4 j x (by omega) hx
theorem MkRows.turned {w w' : World} {g : Nat} {E : TypeId} {sz cap s : Nat} {svs mk : List Value} {m : Nat} (h : MkRows w g E sz cap s svs mk m) {b : Nat} (hT : Turned b (b + 1) w w') (hb : b ≠ g) : MkRows w' g E sz cap s svs mk m := by
  obtain ⟨cur, h1, h2, h3, h4⟩ := h
  refine ⟨cur, ?_, h2, h3, h4⟩
  rw [hT.block g (Array.getElem?_eq_some_iff.1 h1).1 (by omega)]; exact h1
theorem MkRows.owns {w : World} {g : Nat} {E : TypeId} {sz cap s n base : Nat} {svs mk : List Value} (h : MkRows w g E sz cap s svs mk (n * sz)) (hb : base ≤ g) (hn : n ≤ cap) (hm : cap ≤ maxLen) (hl : mk.length = n * sz) : w.ownsRow base E sz (.slice (some ⟨g, 0, none⟩) n cap) n mk := by
  obtain ⟨cur, h1, h2, h3, h4⟩ := h
  refine ⟨hl, .inr ⟨g, cap, cur, rfl, hb, h1, hn, hm, h2, ?_⟩⟩
  apply List.ext_getElem?
  intro j
  have hle : n * sz ≤ cap * sz := Nat.mul_le_mul_right _ hn
  by_cases hj : j < n * sz
  · rw [List.getElem?_take, if_pos hj, Array.getElem?_toList]
    have e : mk[j]? = some mk[j] := List.getElem?_eq_getElem (by omega)
    rw [e]; exact h4 j _ hj e
  · rw [List.getElem?_eq_none (by rw [List.length_take]; omega), List.getElem?_eq_none (by omega)]
/-- A contract of a mark, told tightly and exactly: one block alone turns. -/
theorem markTightX {P : Program} {f : FuncId} {args : Array Value} {w : World} {E : TypeId} {sz : Nat} {v : Value} {n base : Nat} {k : Int} {xs : List Value} (hv : w.ownsRow base E sz v n xs)
    (hm : ∀ base hi, w.ownsRow base E sz v n xs → (∀ j, v.ownBlock = some j → j < hi) → Calls P f args w (RetMarked w base hi E sz v n k)) :
    Calls P f args w fun e w' => e = .returned (.int .i64 (k + (n * sz : Nat))) ∧ w'.ownsRow base E sz v n (numCells k (n * sz)) ∧ ∃ b, (∀ j, v.ownBlock = some j → j = b) ∧ (v.ownBlock = none → b = w.heap.size) ∧ Turned b (b + 1) w w' := by
  rcases hv.2 with ⟨hnil, h0⟩ | ⟨g, cap, cur, hs, hb, rest⟩
  · subst hnil
    refine (hm base 0 hv (by simp [Value.ownBlock])).mono ?_
    rintro e w' ⟨h1, h2, h3⟩
    refine ⟨h1, h2, w.heap.size, by simp [Value.ownBlock], fun _ => rfl, ?_⟩
    exact h3.wider fun k hk _ => .inr (Nat.zero_le _)
  · have hob : v.ownBlock = some g := by rw [hs]; rfl
    refine (hm g (g + 1) (owns_base hv fun k hk => by rw [hob] at hk; cases hk; exact Nat.le_refl _) (fun j hj => by rw [hob] at hj; cases hj; omega)).mono ?_
    rintro e w' ⟨h1, h2, h3⟩
    refine ⟨h1, owns_base h2 fun k hk => by rw [hob] at hk; cases hk; exact hb, g, fun j hj => by rw [hob] at hj; cases hj; rfl, fun h => (by rw [hob] at h; cases h), h3⟩
theorem owns_set_ne {w : World} {base : Nat} {F : TypeId} {sz : Nat} {u : Value} {m : Nat} {xs : List Value} (h : w.ownsRow base F sz u m xs) {p : Addr} (hp : ∀ b, u.ownBlock = some b → b ≠ p.block) (x : Value) : (w.setCell p x).ownsRow base F sz u m xs :=
  owns_turned ((Turned.refl p.block (p.block + 1) w).setCell (Nat.le_refl _) (Nat.lt_succ_self _) x) h fun k hk => by have := hp k hk; omega
end Go.Rd
