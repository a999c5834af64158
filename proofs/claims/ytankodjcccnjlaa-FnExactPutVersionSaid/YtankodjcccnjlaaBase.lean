/- Plain lemmas, without a program: worlds that only grow, slices that read as a list of cells, rows of cells that a call owns; no condition. -/
import Derived.WalkKit
import Derived.WalkSpells
import Derived.WalkLawsBesides
import Derived.Lib.QuietBelow
import Derived.BigQuiet
import Derived.Deep.DeepCutAuto
import Derived.Deep.CutBlock
import Derived.Lib.Hide
namespace Go.Rd
open Go.RowKit Go.Sort

/-- The world w' is w with blocks laid behind it: all blocks of w stand as they were. -/
abbrev Ext (w w' : World) : Prop := Below w.heap.size w w'
theorem Ext.refl (w : World) : Ext w w := Below.refl _ _
theorem Ext.trans {a b c : World} (h : Ext a b) (k : Ext b c) : Ext a c := Below.trans h (k.mono h.size)
theorem Ext.alloc {a b : World} (h : Ext a b) (o : Obj) : Ext a (b.alloc o) := Below.alloc h h.size o
theorem Ext.of_eq {a b : World} (h : a = b) : Ext a b := h ▸ Ext.refl a
theorem Ext.setCell {a b : World} (h : Ext a b) {p : Addr} (hp : a.heap.size ≤ p.block) (u : Value) : Ext a (b.setCell p u) := Below.setCell h hp u
theorem Ext.drew {a b : World} (h : Ext a b) : Ext a b.drew := Below.drew h
theorem Ext.cell {a b : World} (h : Ext a b) {p : Addr} {u : Value} (hc : a.cell? p = some u) : b.cell? p = some u :=
  (Below.cell h (block_lt_of_cell hc)).trans hc
theorem Ext.frozen {a b : World} (h : Ext a b) {p : Addr} {u : Value} (hc : a.cell? p = some u) : b.frozen? p = a.frozen? p :=
  Below.frozen h (block_lt_of_cell hc)
theorem Ext.heap {a b : World} (h : Ext a b) {g : Nat} {o : Obj} (hg : a.heap[g]? = some o) : b.heap[g]? = some o := by
  rw [h.block g (Array.getElem?_eq_some_iff.1 hg).1]; exact hg
theorem Ext.regrown {a b : World} (h : Ext a b) (d : Nat) (os : Array Obj) : Ext a (grow (redrawn b d) os) := Ext.trans h (below_regrown b d os)
theorem Ext.owns {w w' : World} (h : Ext w w') {base : Nat} {e : TypeId} {size : Nat} {v : Value} {n : Nat} {xs : List Value}
    (ho : w.ownsRow base e size v n xs) : w'.ownsRow base e size v n xs := by
  refine ⟨ho.1, ?_⟩
  rcases ho.2 with h1 | ⟨g, cap, cur, hv, hb, hg, rest⟩
  · exact .inl h1
  · exact .inr ⟨g, cap, cur, hv, hb, h.heap hg, rest⟩
theorem owns_mono {w : World} {base base' : Nat} {e : TypeId} {size : Nat} {v : Value} {n : Nat} {xs : List Value}
    (ho : w.ownsRow base e size v n xs) (hb : base' ≤ base) : w.ownsRow base' e size v n xs := by
  refine ⟨ho.1, ?_⟩
  rcases ho.2 with h1 | ⟨g, cap, cur, hv, hg, rest⟩
  · exact .inl h1
  · exact .inr ⟨g, cap, cur, hv, Nat.le_trans hb hg, rest⟩
theorem ext_grownBy {a w w' : World} (h : Ext a w) {row : Option Nat} (hg : w.grownBy w' row) (hr : ∀ k, row = some k → a.heap.size ≤ k) : Ext a w' :=
  Below.grown h hg h.size hr

/-- The slice value v has n elements of sz cells each, and its cells read as cs. -/
def Reads (w : World) (sz : Nat) (v : Value) (n : Nat) (cs : List Value) : Prop :=
  cs.length = n * sz ∧ ∃ a cap, v = .slice a n cap ∧ (n = 0 ∨ ∃ b off, a = some ⟨b, off, none⟩ ∧ ∀ i, i < n * sz → w.cell? ⟨b, off + i, none⟩ = cs[i]?)
theorem Reads.mono {w w' : World} (h : Ext w w') {sz : Nat} {v : Value} {n : Nat} {cs : List Value} (hr : Reads w sz v n cs) : Reads w' sz v n cs := by
  obtain ⟨h1, a, cap, hv, h2⟩ := hr
  refine ⟨h1, a, cap, hv, ?_⟩
  rcases h2 with h2 | ⟨b, off, ha, hc⟩
  · exact .inl h2
  · refine .inr ⟨b, off, ha, fun i hi => ?_⟩
    have e : cs[i]? = some cs[i] := List.getElem?_eq_getElem (by omega)
    rw [e]
    exact h.cell ((hc i hi).trans e)
/-- What lies below block number B reads as it did where all below B is as it was. -/
theorem Reads.below {B : Nat} {w w' : World} (h : Below B w w') {sz : Nat} {v : Value} {n : Nat} {cs : List Value} (hr : Reads w sz v n cs) (hB : ∀ k, v.ownBlock = some k → k < B) : Reads w' sz v n cs := by
  obtain ⟨h1, a, cap, hv, h2⟩ := hr
  refine ⟨h1, a, cap, hv, ?_⟩
  rcases h2 with h2 | ⟨b, off, ha, hc⟩
  · exact .inl h2
  · refine .inr ⟨b, off, ha, fun i hi => ?_⟩
    subst ha hv
    rw [← hc i hi]
    exact h.cell (hB b rfl)
theorem Reads.of_owns {w : World} {base : Nat} {e : TypeId} {sz : Nat} {v : Value} {n : Nat} {cs : List Value} (h : w.ownsRow base e sz v n cs) : Reads w sz v n cs := by
  refine ⟨h.1, ?_⟩
  rcases h.2 with ⟨rfl, rfl⟩ | ⟨g, cap, cur, rfl, hb, hg, hnc, hcm, hcs, htake⟩
  · exact ⟨none, 0, rfl, .inl rfl⟩
  · refine ⟨_, cap, rfl, .inr ⟨g, 0, rfl, fun i hi => ?_⟩⟩
    rw [Nat.zero_add]
    exact h.cellAt i hi
/-- Where there is an element, the slice has an address and its cells are there. -/
theorem Reads.at {w : World} {sz : Nat} {a : Option Addr} {n cap m : Nat} {cs : List Value} (h : Reads w sz (.slice a n cap) m cs) (hn : 0 < m) :
    n = m ∧ ∃ b off, a = some ⟨b, off, none⟩ ∧ ∀ i, i < m * sz → w.cell? ⟨b, off + i, none⟩ = cs[i]? := by
  obtain ⟨h1, a', cap', hv, h2⟩ := h
  simp only [Value.slice.injEq] at hv
  obtain ⟨rfl, rfl, rfl⟩ := hv
  refine ⟨rfl, ?_⟩
  rcases h2 with h2 | h2
  · omega
  · exact h2
theorem Reads.shape {w : World} {sz : Nat} {v : Value} {n : Nat} {cs : List Value} (h : Reads w sz v n cs) : ∃ a cap, v = .slice a n cap := by
  obtain ⟨_, a, cap, hv, _⟩ := h
  exact ⟨a, cap, hv⟩

/-- The cells of element k. -/
theorem flat_get {α : Type} (enc : α → List Value) (sz : Nat) (henc : ∀ x, (enc x).length = sz) :
    ∀ (l : List α) (k : Nat) (hk : k < l.length) (j : Nat), j < sz → (l.flatMap enc)[k * sz + j]? = (enc l[k])[j]?
  | [], k, hk, _, _ => by simp at hk
  | x :: l, 0, _, j, hj => by
    simp only [List.flatMap_cons, Nat.zero_mul, Nat.zero_add, List.getElem_cons_zero]
    rw [List.getElem?_append_left (by rw [henc]; exact hj)]
  | x :: l, k + 1, hk, j, hj => by
    simp only [List.flatMap_cons, List.getElem_cons_succ]
    rw [List.getElem?_append_right (by rw [henc, Nat.add_mul]; omega)]
    have e : (k + 1) * sz + j - (enc x).length = k * sz + j := by rw [henc, Nat.add_mul]; omega
    rw [e]
    exact flat_get enc sz henc l k (by simpa using hk) j hj
theorem flat_length {α : Type} (enc : α → List Value) (sz : Nat) (henc : ∀ x, (enc x).length = sz) : ∀ (l : List α), (l.flatMap enc).length = l.length * sz
  | [] => by simp
  | x :: l => by simp only [List.flatMap_cons, List.length_append, henc, flat_length enc sz henc l, List.length_cons, Nat.add_mul]; omega
theorem flat_take {α : Type} (enc : α → List Value) (l : List α) (k : Nat) (h : k < l.length) : (l.take (k + 1)).flatMap enc = (l.take k).flatMap enc ++ enc l[k] := by
  rw [List.take_succ_eq_append_getElem h, List.flatMap_append]; simp
theorem flat_take_length {α : Type} (enc : α → List Value) (sz : Nat) (henc : ∀ x, (enc x).length = sz) (l : List α) (k : Nat) (h : k ≤ l.length) : ((l.take k).flatMap enc).length = k * sz := by
  rw [flat_length enc sz henc, List.length_take, Nat.min_eq_left h]
/-- A cell of element k of a slice that reads as the elements of l. -/
theorem Reads.elem {α : Type} {enc : α → List Value} {sz : Nat} (henc : ∀ x, (enc x).length = sz) {w : World} {a : Option Addr} {n cap : Nat} {l : List α}
    (h : Reads w sz (.slice a n cap) l.length (l.flatMap enc)) {k : Nat} (hk : k < l.length) :
    ∃ b off, a = some ⟨b, off, none⟩ ∧ ∀ j u, (enc l[k])[j]? = some u → w.cell? ⟨b, off + k * sz + j, none⟩ = some u := by
  obtain ⟨rfl, b, off, ha, hc⟩ := h.at (by omega)
  refine ⟨b, off, ha, fun j u hu => ?_⟩
  have hj : j < sz := by
    have := (List.getElem?_eq_some_iff.1 hu).1
    rwa [henc] at this
  have hlt : k * sz + j < l.length * sz := by
    have : (k + 1) * sz ≤ l.length * sz := Nat.mul_le_mul_right _ hk
    rw [Nat.add_mul] at this
    omega
  have := hc (k * sz + j) hlt
  rw [flat_get enc sz henc l k hk j hj, hu] at this
  rw [Nat.add_assoc]; exact this
/-- The cells of all elements of a slice that is not empty. -/
theorem Reads.elems {α : Type} {enc : α → List Value} {sz : Nat} (henc : ∀ x, (enc x).length = sz) {w : World} {a : Option Addr} {n cap : Nat} {l : List α}
    (h : Reads w sz (.slice a n cap) l.length (l.flatMap enc)) (h0 : 0 < l.length) :
    ∃ b off, a = some ⟨b, off, none⟩ ∧ ∀ k x, l[k]? = some x → ∀ j u, (enc x)[j]? = some u → w.cell? ⟨b, off + k * sz + j, none⟩ = some u := by
  obtain ⟨_, b, off, ha, _⟩ := h.at h0
  refine ⟨b, off, ha, fun k x hx => ?_⟩
  obtain ⟨hk, hx'⟩ := List.getElem?_eq_some_iff.1 hx
  obtain ⟨b', off', ha', hc⟩ := Reads.elem henc h hk
  rw [ha] at ha'
  simp only [Option.some.injEq, Addr.mk.injEq, and_true] at ha'
  obtain ⟨rfl, rfl⟩ := ha'
  rw [← hx']
  exact hc
theorem cell_alloc {w : World} {a : Addr} {v : Value} (h : w.cell? a = some v) : ∀ o, (w.alloc o).cell? a = some v := fun o => ((Ext.refl w).alloc o).cell h
theorem get_of_lt {α : Type} {l : List α} {k : Nat} (h : k < l.length) : ∃ x, l[k]? = some x := ⟨l[k], List.getElem?_eq_getElem h⟩
theorem getD_of_lt {α : Type} {l : List α} {k : Nat} (h : k < l.length) (d : α) : l.getD k d = l[k] := by simp [h]

/-- The cells of a block that has just been laid. -/
theorem new_cells (w : World) (cs : List Value) (e : TypeId) : ∀ j u, cs[j]? = some u → (w.alloc (.cells cs.toArray e)).cell? ((⟨w.heap.size, 0, none⟩ : Addr).add j) = some u := by
  intro j u hu
  have hadd : (⟨w.heap.size, 0, none⟩ : Addr).add j = ⟨w.heap.size, j, none⟩ := by unfold Addr.add; split <;> simp_all
  rw [hadd, cell_of_row (w.alloc (.cells cs.toArray e)) w.heap.size j cs.toArray e (0, 0) (heap_alloc_new w _)]
  simpa using hu
/-- An empty row that has just been laid. -/
theorem owns_empty (w : World) (base : Nat) (e : TypeId) (sz : Nat) (h : base ≤ w.heap.size) : (w.alloc (.cells #[] e)).ownsRow base e sz (.slice (some ⟨w.heap.size, 0, none⟩) 0 0) 0 [] :=
  World.ownsRow_made w #[] 0 h (Nat.zero_le _) (by simp)
/-- append(out, x): x, one element, lies in a block that has just been laid; out is a row of the call's own. -/
theorem wpl_append1 {P : Program} {ops : Array Oper} {rest : List Oper} {o : Oper} {a : Act} {Q : Exit → Act → World → Prop} (w0 w : World) (hgd : o.guard = none) (s x : Operand) (t : TypeId)
    (ho : o.op = .call { callee := .builtin .append, args := #[s, x], argTypes := #[t, t] })
    (e : TypeId) (z : Value) (size bytes : Nat) (ht : P.underlying t = some (.slice e)) (hinfo : (P.info? e).map (fun i => (i.zero, i.size, i.bytes)) = some (some z, size, bytes))
    (hzs : z.cells.size = size) (hsz : 0 < size) (hby : bytes ≤ 1000)
    (v : Value) (n : Nat) (xs : List Value) (hE : Ext w0 w) (hown : w.ownsRow w0.heap.size e size v n xs) (hn : n ≤ 2097152)
    (news : List Value) (hs : a.eval s = v) (hx : a.eval x = .slice (some ⟨w.heap.size, 0, none⟩) 1 1) (hl : news.length = size) (h1 : ∀ u ∈ news, u.oneCell' = true)
    (h : ∀ v' w', w'.ownsRow w0.heap.size e size v' (n + 1) (xs ++ news) → Ext w0 w' → v' ≠ .slice none 0 0 → wpList P ops Q rest (a.put o.dst v') w') : wpList P ops Q (o :: rest) a (w.alloc (.cells news.toArray e)) := by
  obtain ⟨i, hi, hz0, hz1, hz2⟩ := info_parts hinfo
  refine wpList_append_own _ hgd s x t ho w0.heap.size e i z size bytes ht hi hz0 hz1 hz2 hzs hsz v n xs hs (hown.alloc _) ⟨w.heap.size, 0, none⟩ 1 1 news hx (by rw [hl, Nat.one_mul]) (new_cells _ _ _) h1 (by unfold maxLen; omega) ?_ (by have := hE.size; simp; omega) ?_
  · have : (n + 1) * bytes ≤ 2097153 * 1000 := Nat.mul_le_mul (by omega) hby
    omega
  · intro v' w' h2 h3 h4
    refine h v' w' h2 (ext_grownBy (hE.alloc _) h3 (fun j hj => (hown.lt j hj).1)) (fun hv' => ?_)
    have := (h4.1 hv').2
    omega
/-- The same, the new block's number spelled as the walk spells it. -/
theorem wpl_append1g {P : Program} {ops : Array Oper} {rest : List Oper} {o : Oper} {a : Act} {Q : Exit → Act → World → Prop} (g : Nat) (w0 w : World) (hgw : w.heap.size = g) (hgd : o.guard = none) (s x : Operand) (t : TypeId)
    (ho : o.op = .call { callee := .builtin .append, args := #[s, x], argTypes := #[t, t] })
    (e : TypeId) (z : Value) (size bytes : Nat) (ht : P.underlying t = some (.slice e)) (hinfo : (P.info? e).map (fun i => (i.zero, i.size, i.bytes)) = some (some z, size, bytes))
    (hzs : z.cells.size = size) (hsz : 0 < size) (hby : bytes ≤ 1000)
    (v : Value) (n : Nat) (xs : List Value) (hE : Ext w0 w) (hown : w.ownsRow w0.heap.size e size v n xs) (hn : n ≤ 2097152)
    (news : List Value) (hs : a.eval s = v) (hx : a.eval x = .slice (some ⟨g, 0, none⟩) 1 1) (hl : news.length = size) (h1 : ∀ u ∈ news, u.oneCell' = true)
    (h : ∀ v' w', w'.ownsRow w0.heap.size e size v' (n + 1) (xs ++ news) → Ext w0 w' → v' ≠ .slice none 0 0 → wpList P ops Q rest (a.put o.dst v') w') : wpList P ops Q (o :: rest) a (w.alloc (.cells news.toArray e)) := by
  subst hgw
  exact wpl_append1 w0 w hgd s x t ho e z size bytes ht hinfo hzs hsz hby v n xs hE hown hn news hs hx hl h1 h
/-- append(out, xs...): out is a row of the call's own. -/
theorem wpl_appendN {P : Program} {ops : Array Oper} {rest : List Oper} {o : Oper} {a : Act} {Q : Exit → Act → World → Prop} (w0 w : World) (hgd : o.guard = none) (s x : Operand) (t : TypeId)
    (ho : o.op = .call { callee := .builtin .append, args := #[s, x], argTypes := #[t, t] })
    (e : TypeId) (z : Value) (size bytes : Nat) (ht : P.underlying t = some (.slice e)) (hinfo : (P.info? e).map (fun i => (i.zero, i.size, i.bytes)) = some (some z, size, bytes))
    (hzs : z.cells.size = size) (hsz : 0 < size) (hby : bytes ≤ 1000)
    (v : Value) (n : Nat) (xs : List Value) (hE : Ext w0 w) (hown : w.ownsRow w0.heap.size e size v n xs)
    (ad : Addr) (m c : Nat) (news : List Value) (hs : a.eval s = v) (hx : a.eval x = .slice (some ad) m c) (hl : news.length = m * size) (hnews : ∀ j u, news[j]? = some u → w.cell? (ad.add j) = some u) (h1 : ∀ u ∈ news, u.oneCell' = true)
    (hn : n + m ≤ 4194304)
    (h : ∀ v' w', w'.ownsRow w0.heap.size e size v' (n + m) (xs ++ news) → Ext w0 w' → wpList P ops Q rest (a.put o.dst v') w') : wpList P ops Q (o :: rest) a w := by
  obtain ⟨i, hi, hz0, hz1, hz2⟩ := info_parts hinfo
  refine wpList_append_own _ hgd s x t ho w0.heap.size e i z size bytes ht hi hz0 hz1 hz2 hzs hsz v n xs hs hown ad m c news hx hl hnews h1 (by unfold maxLen; omega) ?_ hE.size ?_
  · have : (n + m) * bytes ≤ 4194304 * 1000 := Nat.mul_le_mul hn hby
    omega
  · intro v' w' h2 h3 h4
    exact h v' w' h2 (ext_grownBy hE h3 (fun j hj => (hown.lt j hj).1))
theorem flat_one {α : Type} {enc : α → List Value} (h : ∀ x, ∀ u ∈ enc x, u.oneCell' = true) (l : List α) : ∀ u ∈ l.flatMap enc, u.oneCell' = true := by
  intro u hu
  obtain ⟨x, _, hx⟩ := List.mem_flatMap.1 hu
  exact h x u hx
/-! ### Rows that a call fills element by element -/
/-- The block g holds, of a row of n elements of sz cells, the cells xs first. -/
def Filled (w : World) (g : Nat) (e : TypeId) (size : Nat) (xs : List Value) : Prop :=
  ∃ cur, w.heap[g]? = some (.cells cur e (0, 0)) ∧ cur.size = size ∧ cur.toList.take xs.length = xs
theorem Filled.ext {w w' : World} (h : Ext w w') {g : Nat} {e : TypeId} {size : Nat} {xs : List Value} (hf : Filled w g e size xs) : Filled w' g e size xs := by
  obtain ⟨cur, h1, h2, h3⟩ := hf
  exact ⟨cur, h.heap h1, h2, h3⟩
theorem Filled.cell {w : World} {g : Nat} {e : TypeId} {size : Nat} {xs : List Value} (hf : Filled w g e size xs) {i : Nat} (hi : i < size) : ∃ u, w.cell? ⟨g, i, none⟩ = some u := by
  obtain ⟨cur, h1, h2, h3⟩ := hf
  exact ⟨cur[i]'(by omega), by rw [cell_of_row w g i cur e (0, 0) h1]; simp [h2, hi]⟩
theorem Filled.frozen {w : World} {g : Nat} {e : TypeId} {size : Nat} {xs : List Value} (hf : Filled w g e size xs) (i : Nat) : w.frozen? ⟨g, i, none⟩ = false := by
  obtain ⟨cur, h1, h2, h3⟩ := hf
  exact frozen_of_row w g i cur e h1
theorem Filled.put {w : World} {g : Nat} {e : TypeId} {size : Nat} {xs : List Value} (hf : Filled w g e size xs) (hx : xs.length < size) (u : Value) :
    Filled (w.setCell ⟨g, xs.length, none⟩ u) g e size (xs ++ [u]) := by
  obtain ⟨cur, h1, h2, h3⟩ := hf
  refine ⟨cur.setIfInBounds xs.length u, heap_setCell_same w g _ cur e u h1, by simpa using h2, ?_⟩
  apply List.ext_getElem?
  intro j
  rw [List.getElem?_take]
  simp only [List.length_append, List.length_cons, List.length_nil]
  by_cases hj : j < xs.length
  · rw [if_pos (by omega), List.getElem?_append_left hj]
    rw [← h3]
    simp only [Array.toList_setIfInBounds, List.length_take, Array.length_toList]
    rw [List.getElem?_set_ne (by omega), List.getElem?_take, if_pos (by omega)]
  · by_cases hj2 : j = xs.length
    · subst hj2
      rw [if_pos (by omega), List.getElem?_append_right (Nat.le_refl _)]
      simp [h2, hx]
    · rw [if_neg (by omega), List.getElem?_eq_none (by simp; omega)]
theorem Filled.put' {w : World} {g : Nat} {e : TypeId} {size : Nat} {xs : List Value} (hf : Filled w g e size xs) {i : Nat} (hi : xs.length = i) (hx : i < size) (u : Value) :
    Filled (w.setCell ⟨g, i, none⟩ u) g e size (xs ++ [u]) := by subst hi; exact hf.put hx u
theorem Filled.owns {w : World} {g : Nat} {e : TypeId} {n sz base : Nat} {xs : List Value} (hf : Filled w g e (n * sz) xs) (hx : xs.length = n * sz) (hb : base ≤ g) (hm : n ≤ maxLen) :
    w.ownsRow base e sz (.slice (some ⟨g, 0, none⟩) n n) n xs := by
  obtain ⟨cur, h1, h2, h3⟩ := hf
  exact ⟨hx, .inr ⟨g, n, cur, rfl, hb, h1, Nat.le_refl _, hm, h2, by rw [← hx]; exact h3⟩⟩
theorem Filled.of_owns {w : World} {base g n sz : Nat} {e : TypeId} {cs : List Value} (h : w.ownsRow base e sz (.slice (some ⟨g, 0, none⟩) n n) n cs) : base ≤ g ∧ Filled w g e (n * sz) [] := by
  rcases h.2 with ⟨h', _⟩ | ⟨g', cap', cur, h', hb, hg, _, _, hs, _⟩
  · simp at h'
  · simp only [Value.slice.injEq, Option.some.injEq, Addr.mk.injEq, and_true, true_and] at h'
    obtain ⟨rfl, rfl⟩ := h'
    exact ⟨hb, cur, hg, hs, by simp⟩

/-- Blocks from B1 on and below B2 may have turned, new blocks may have been laid; all else is as it was. -/
structure Turned (B1 B2 : Nat) (w w' : World) : Prop where
  os : w'.os = w.os
  tape : w'.tape = w.tape
  output : w'.output = w.output
  size : w.heap.size ≤ w'.heap.size
  block : ∀ k, k < w.heap.size → (k < B1 ∨ B2 ≤ k) → w'.heap[k]? = w.heap[k]?
theorem Turned.refl (B1 B2 : Nat) (w : World) : Turned B1 B2 w w := ⟨rfl, rfl, rfl, Nat.le_refl _, fun _ _ _ => rfl⟩
theorem Turned.setCell {B1 B2 : Nat} {a w : World} (h : Turned B1 B2 a w) {p : Addr} (hp : B1 ≤ p.block) (hp2 : p.block < B2) (u : Value) : Turned B1 B2 a (w.setCell p u) :=
  ⟨h.os, h.tape, h.output, by have := h.size; simpa [World.setCell] using this, fun k hk hb => by rw [Below.heap_setCell _ _ _ _ (by omega)]; exact h.block k hk hb⟩
theorem Turned.below {B1 B2 : Nat} {w w' : World} (h : Turned B1 B2 w w') (hB : B1 ≤ w.heap.size) : Below B1 w w' :=
  ⟨h.os, h.tape, h.output, h.size, fun k hk => h.block k (by omega) (.inl hk)⟩
/-- What is left of a bound when n has been taken off; -1 where it does not suffice. -/
def szL (left : Int) (n : Nat) : Int := if (n : Int) ≤ left then left - n else -1
theorem szL_le {left : Int} {n : Nat} (h : (n : Int) ≤ left) : szL left n = left - n := if_pos h
theorem szL_gt {left : Int} {n : Nat} (h : ¬ (n : Int) ≤ left) : szL left n = -1 := if_neg h
/-- The first m numbers from k on, as cells. -/
def numCells (k : Int) (m : Nat) : List Value := (List.range m).map fun i => .int .i64 (k + (i : Nat))
theorem numCells_length (k : Int) (m : Nat) : (numCells k m).length = m := by simp [numCells]
theorem numCells_succ (k : Int) (m : Nat) : numCells k (m + 1) = numCells k m ++ [.int .i64 (k + (m : Nat))] := by simp [numCells, List.range_succ]
theorem numCells_step2 (k0 : Int) (k : Nat) : numCells k0 ((k + 1) * 2) = numCells k0 (k * 2) ++ [.int .i64 (k0 + (k : Int) * 2), .int .i64 (k0 + (k : Int) * 2 + 1)] := by
  rw [show (k + 1) * 2 = k * 2 + 1 + 1 by omega, numCells_succ, numCells_succ]
  simp [Int.add_assoc]
theorem numCells_step1 (k0 : Int) (k : Nat) : numCells k0 ((k + 1) * 1) = numCells k0 (k * 1) ++ [.int .i64 (k0 + (k : Int) * 1)] := by
  rw [show (k + 1) * 1 = k * 1 + 1 by omega, numCells_succ]
  simp
theorem numCells_step3 (k0 : Int) (k : Nat) : numCells k0 ((k + 1) * 3) = numCells k0 (k * 3) ++ [.int .i64 (k0 + (k : Int) * 3), .int .i64 (k0 + (k : Int) * 3 + 1), .int .i64 (k0 + (k : Int) * 3 + 1 + 1)] := by
  rw [show (k + 1) * 3 = k * 3 + 1 + 1 + 1 by omega, numCells_succ, numCells_succ, numCells_succ]
  simp [Int.add_assoc]
theorem numCells_step4 (k0 : Int) (k : Nat) : numCells k0 ((k + 1) * 4) = numCells k0 (k * 4) ++ [.int .i64 (k0 + (k : Int) * 4), .int .i64 (k0 + (k : Int) * 4 + 1), .int .i64 (k0 + (k : Int) * 4 + 1 + 1), .int .i64 (k0 + (k : Int) * 4 + 1 + 1 + 1)] := by
  rw [show (k + 1) * 4 = k * 4 + 1 + 1 + 1 + 1 by omega, numCells_succ, numCells_succ, numCells_succ, numCells_succ]
  simp [Int.add_assoc]
theorem num_at {w : World} {b off m : Nat} {k0 : Int} (h : ∀ i, i < m → w.cell? ⟨b, off + i, none⟩ = (numCells k0 m)[i]?) {i : Nat} (hi : i < m) : w.cell? ⟨b, off + i, none⟩ = some (.int .i64 (k0 + (i : Nat))) := by
  rw [h i hi]; simp [numCells, hi]
/-- The call marks the row of v: its cells become the numbers from k on; it returns the next number; nothing else turns. -/
def RetMarked (w : World) (base hi : Nat) (E : TypeId) (sz : Nat) (v : Value) (n : Nat) (k : Int) (e : Ending) (w' : World) : Prop :=
  e = .returned (.int .i64 (k + (n * sz : Nat))) ∧ w'.ownsRow base E sz v n (numCells k (n * sz)) ∧ Turned base hi w w'
theorem nil_owns (w : World) (base : Nat) (E : TypeId) (sz : Nat) (k : Int) : w.ownsRow base E sz (.slice none 0 0) 0 (numCells k (0 * sz)) := by
  simpa [numCells] using World.ownsRow_nil w base E sz
theorem owns_cases {w : World} {base : Nat} {e : TypeId} {sz : Nat} {v : Value} {n : Nat} {cs : List Value} (h : w.ownsRow base e sz v n cs) :
    (v = .slice none 0 0 ∧ n = 0) ∨ ∃ g cap, v = .slice (some ⟨g, 0, none⟩) n cap ∧ base ≤ g ∧ g < w.heap.size ∧ n ≤ cap ∧ cap ≤ maxLen ∧ Filled w g e (cap * sz) [] := by
  rcases h.2 with h1 | ⟨g, cap, cur, hv, hb, hg, hnc, hcm, hcs, htake⟩
  · exact .inl h1
  · exact .inr ⟨g, cap, hv, hb, (Array.getElem?_eq_some_iff.1 hg).1, hnc, hcm, cur, hg, hcs, by simp⟩
theorem Filled.owns_cap {w : World} {g : Nat} {e : TypeId} {n cap sz base : Nat} {xs : List Value} (hf : Filled w g e (cap * sz) xs) (hx : xs.length = n * sz) (hb : base ≤ g) (hnc : n ≤ cap) (hm : cap ≤ maxLen) :
    w.ownsRow base e sz (.slice (some ⟨g, 0, none⟩) n cap) n xs := by
  obtain ⟨cur, h1, h2, h3⟩ := hf
  exact ⟨hx, .inr ⟨g, cap, cur, rfl, hb, h1, hnc, hm, h2, by rw [← hx]; exact h3⟩⟩
theorem owns_turned {lo hi : Nat} {w w' : World} (h : Turned lo hi w w') {base : Nat} {e : TypeId} {size : Nat} {v : Value} {n : Nat} {xs : List Value}
    (ho : w.ownsRow base e size v n xs) (hd : ∀ k, v.ownBlock = some k → k < lo ∨ hi ≤ k) : w'.ownsRow base e size v n xs := by
  refine ⟨ho.1, ?_⟩
  rcases ho.2 with h1 | ⟨g, cap, cur, hv, hb, hg, rest⟩
  · exact .inl h1
  · refine .inr ⟨g, cap, cur, hv, hb, ?_, rest⟩
    rw [h.block g (Array.getElem?_eq_some_iff.1 hg).1 (hd g (by rw [hv]; rfl))]
    exact hg
/-- What lies from hi on stands where only blocks below hi have turned. -/
theorem owns_above {lo hi : Nat} {w w' : World} (h : Turned lo hi w w') {base : Nat} {e : TypeId} {size : Nat} {v : Value} {n : Nat} {xs : List Value}
    (ho : w.ownsRow base e size v n xs) (hb : hi ≤ base) : w'.ownsRow base e size v n xs :=
  owns_turned h ho fun k hk => .inr (Nat.le_trans hb (ho.lt k hk).1)
theorem Turned.below' {lo hi : Nat} {a w w' : World} (h : Turned lo hi w w') (ha : Ext a w) (hl : a.heap.size ≤ lo) : Ext a w' :=
  Below.trans ha ⟨h.os, h.tape, h.output, h.size, fun k hk => h.block k (Nat.lt_of_lt_of_le hk ha.size) (.inl (by omega))⟩
/-- The call returns a slice that it made itself: n elements, the cells cs. -/
def RetOwn (w : World) (E : TypeId) (sz n : Nat) (cs : List Value) (e : Ending) (w' : World) : Prop :=
  ∃ v', e = .returned v' ∧ w'.ownsRow w.heap.size E sz v' n cs ∧ Ext w w'
/-- .. the slice and a Bool. -/
def RetOwnB (w : World) (E : TypeId) (sz n : Nat) (cs : List Value) (ok : Bool) (e : Ending) (w' : World) : Prop :=
  ∃ v', e = .returned (.tuple #[v', .bool ok]) ∧ w'.ownsRow w.heap.size E sz v' n cs ∧ Ext w w'
/-- The call returns a slice that reads as the cells cs, and a Bool. -/
def RetReadB (w : World) (sz n : Nat) (cs : List Value) (ok : Bool) (e : Ending) (w' : World) : Prop :=
  ∃ v', e = .returned (.tuple #[v', .bool ok]) ∧ Reads w' sz v' n cs ∧ Ext w w'
/-- The call returns a slice that reads as the cells cs. -/
def RetRead (w : World) (sz n : Nat) (cs : List Value) (e : Ending) (w' : World) : Prop :=
  ∃ v', e = .returned v' ∧ Reads w' sz v' n cs ∧ Ext w w'
/-- The call returns a slice over a row from block 'base' on; below 'base' nothing has turned. -/
def RetOwnFrom (base : Nat) (w : World) (E : TypeId) (sz n : Nat) (cs : List Value) (e : Ending) (w' : World) : Prop :=
  ∃ v', e = .returned v' ∧ w'.ownsRow base E sz v' n cs ∧ Below base w w'
/-- clear(s), s of at least one element, in a row that may be written. -/
theorem run_clear_row {P : Program} (w : World) (t e : TypeId) (z : Value) (size bytes : Nat) (ht : P.underlying t = some (.slice e)) (hinfo : (P.info? e).map (fun i => (i.zero, i.size, i.bytes)) = some (some z, size, bytes))
    (hzs : z.cells.size = size) (hz1 : ∀ u ∈ z.cells.toList, u.oneCell' = true) (hsz : 0 < size) (g off n c : Nat) (cur : Array Value) (hg : w.heap[g]? = some (.cells cur e (0, 0))) (hn : 0 < n) (hfit : off + n * size ≤ cur.size) :
    ∃ vs : List Value, vs.length = n * size ∧ ∀ ty, (Builtin.clear_ #[t] ty #[.slice (some ⟨g, off, none⟩) n c]).run P w = .ok (.tuple #[]) (w.setRow g (cur.toList.take off ++ vs ++ cur.toList.drop (off + n * size)).toArray) := by
  obtain ⟨i, hi, hz0, hz2, hz3⟩ := info_parts hinfo
  have hl : (Builtin.zeroCells z.cells n).toList.length = n * size := by simp [size_zeroCells, hzs]
  have h1 : ∀ v ∈ (Builtin.zeroCells z.cells n).toList, v.oneCell' = true := by
    intro v hv
    simp only [Builtin.zeroCells, Array.toList_map, List.mem_map] at hv
    obtain ⟨k, _, rfl⟩ := hv
    apply hz1
    have hlt : k % z.cells.size < z.cells.size := Nat.mod_lt _ (by omega)
    rw [getElem!_pos z.cells _ hlt]
    exact Array.getElem_mem_toList hlt
  have hst := run_storeCells_at P g off e (Builtin.zeroCells z.cells n).toList 0 cur w hg (by rw [hl]; omega) h1
  refine ⟨(Builtin.zeroCells z.cells n).toList, hl, fun ty => ?_⟩
  obtain ⟨m, rfl⟩ : ∃ m, n = m + 1 := ⟨n - 1, by omega⟩
  rw [hl] at hst
  simp only [Nat.add_zero] at hst
  simp [Builtin.clear_, run_underlying ht, zeroValue, typeInfo, hi, hz0, hst]
theorem setRow_filled {w : World} {g : Nat} {e : TypeId} {size : Nat} {cur : Array Value} {xs vs ws : List Value} (hg : w.heap[g]? = some (.cells cur e (0, 0))) (hs : xs.length + vs.length + ws.length = size) :
    Filled (w.setRow g (xs ++ vs ++ ws).toArray) g e size xs :=
  ⟨_, setRow_heap w g cur _ e _ hg, by simp; omega, by simp⟩
theorem below_setRow {B : Nat} {a w : World} (h : Below B a w) {g : Nat} (hg : B ≤ g) (cs : Array Value) : Below B a (w.setRow g cs) :=
  h.trans ⟨rfl, rfl, rfl, by simp [World.setRow], fun k hk => setRow_other w g k cs (by omega)⟩
/-! ### Small words for the ends of walks -/
theorem ret_bool {a b : Bool} (h : a = b) : Ending.returned (.bool a) = .returned (.bool b) := by rw [h]
theorem ret_int {k : IntKind} {a b : Int} (h : a = b) : Ending.returned (.int k a) = .returned (.int k b) := by rw [h]

/-- A callee's contract in a world of the class 'w with blocks laid behind it'. -/
theorem Calls.in_class {P : Program} {f : FuncId} {args : Array Value} {w : World} {v : Value} (h : ∀ w', Ext w w' → Calls P f args w' fun e w'' => e = .returned v ∧ Ext w' w'') (d : Nat) (os : Array Obj) :
    Calls P f args (grow (redrawn w d) os) fun e w'' => e = .returned v ∧ ∃ p : Regrown, w'' = grow (redrawn w p.d) p.os :=
  Calls.regrown_of (h _ (below_regrown w d os))
theorem cell_in_class {w : World} {a : Addr} {v : Value} (h : w.cell? a = some v) : ∀ (d : Nat) (os : Array Obj), (grow (redrawn w d) os).cell? a = some v := cell_regrown h
end Go.Rd
