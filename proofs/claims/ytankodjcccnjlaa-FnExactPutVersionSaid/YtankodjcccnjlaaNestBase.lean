/- Marks in rows whose elements hold slices: what stays and what turns; without a program; no condition. -/
import Derived.Test.YtankodjcccnjlaaBase
namespace Go.Rd
open Go.Sort Go.RowKit
/-- The call marks rows of its own: it returns a number from k0 on, at most B more; only blocks from base on and below hi turn. -/
def RetMk (w : World) (base hi : Nat) (k0 : Int) (B : Nat) (e : Ending) (w' : World) : Prop :=
  ∃ k' : Int, e = .returned (.int .i64 k') ∧ k0 ≤ k' ∧ k' ≤ k0 + B ∧ Turned base hi w w'
theorem Turned.cell {B1 B2 : Nat} {w w' : World} (h : Turned B1 B2 w w') {b o : Nat} {u : Value} (hc : w.cell? ⟨b, o, none⟩ = some u) (hb : b < B1 ∨ B2 ≤ b) : w'.cell? ⟨b, o, none⟩ = some u := by
  have hl := block_lt_of_cell hc
  rw [World.cell?_of_block (a := ⟨b, o, none⟩) (h.block b hl hb)]; exact hc
theorem Turned.alloc {B1 B2 : Nat} {a w : World} (h : Turned B1 B2 a w) (o : Obj) : Turned B1 B2 a (w.alloc o) :=
  ⟨h.os, h.tape, h.output, by have := h.size; simp; omega, fun k hk hb => by rw [← h.block k hk hb]; exact heap_alloc_old w o (by have := h.size; omega)⟩
theorem Turned.trans {B1 B2 : Nat} {a b c : World} (h : Turned B1 B2 a b) (k : Turned B1 B2 b c) : Turned B1 B2 a c :=
  ⟨k.os.trans h.os, k.tape.trans h.tape, k.output.trans h.output, Nat.le_trans h.size k.size, fun i hi hb => (k.block i (Nat.lt_of_lt_of_le hi h.size) hb).trans (h.block i hi hb)⟩
theorem Turned.wider {A1 A2 B1 B2 : Nat} {a b : World} (h : Turned A1 A2 a b) (h1 : ∀ k, k < a.heap.size → (k < B1 ∨ B2 ≤ k) → (k < A1 ∨ A2 ≤ k)) : Turned B1 B2 a b :=
  ⟨h.os, h.tape, h.output, h.size, fun k hk hb => h.block k hk (h1 k hk hb)⟩
/-- A row may be written: whatever its cells are. -/
def Wr (w : World) (base : Nat) (E : TypeId) (sz : Nat) (v : Value) (n : Nat) : Prop := ∃ xs, w.ownsRow base E sz v n xs
theorem owns_base {w : World} {base b' : Nat} {e : TypeId} {sz : Nat} {v : Value} {n : Nat} {xs : List Value} (h : w.ownsRow base e sz v n xs) (hb : ∀ k, v.ownBlock = some k → b' ≤ k) : w.ownsRow b' e sz v n xs := by
  refine ⟨h.1, ?_⟩
  rcases h.2 with h1 | ⟨g, cap, cur, hv, _, rest⟩
  · exact .inl h1
  · exact .inr ⟨g, cap, cur, hv, hb g (by rw [hv]; rfl), rest⟩
/-- A contract of a mark, told tightly: one block alone turns. -/
theorem markTight {P : Program} {f : FuncId} {args : Array Value} {w : World} {E : TypeId} {sz : Nat} {v : Value} {n base : Nat} {k : Int} {xs : List Value} (hv : w.ownsRow base E sz v n xs)
    (hm : ∀ base hi, w.ownsRow base E sz v n xs → (∀ j, v.ownBlock = some j → j < hi) → Calls P f args w (RetMarked w base hi E sz v n k)) :
    Calls P f args w fun e w' => e = .returned (.int .i64 (k + (n * sz : Nat))) ∧ Wr w' base E sz v n ∧ ∃ b, (∀ j, v.ownBlock = some j → j = b) ∧ (v.ownBlock = none → b = w.heap.size) ∧ Turned b (b + 1) w w' := by
  rcases hv.2 with ⟨hnil, h0⟩ | ⟨g, cap, cur, hs, hb, rest⟩
  · subst hnil
    refine (hm base 0 hv (by simp [Value.ownBlock])).mono ?_
    rintro e w' ⟨h1, h2, h3⟩
    refine ⟨h1, ⟨_, h2⟩, w.heap.size, by simp [Value.ownBlock], fun _ => rfl, ?_⟩
    exact h3.wider fun k hk _ => .inr (Nat.zero_le _)
  · have hob : v.ownBlock = some g := by rw [hs]; rfl
    refine (hm g (g + 1) (owns_base hv fun k hk => by rw [hob] at hk; cases hk; exact Nat.le_refl _) (fun j hj => by rw [hob] at hj; cases hj; omega)).mono ?_
    rintro e w' ⟨h1, h2, h3⟩
    refine ⟨h1, ⟨_, owns_base h2 fun k hk => by rw [hob] at hk; cases hk; exact hb⟩, g, fun j hj => by rw [hob] at hj; cases hj; rfl, fun h => (by rw [hob] at h; cases h), h3⟩
theorem wr_after {w w' : World} {base base' E sz b : Nat} {u v : Value} {m n : Nat} (hsz : 0 < sz) (hu : Wr w base E sz u m) (hv0 : Wr w base' E sz v n) (hv : Wr w' base' E sz v n) (hb : ∀ j, v.ownBlock = some j → j = b) (hb2 : v.ownBlock = none → b = w.heap.size) (hT : Turned b (b + 1) w w') : Wr w' base E sz u m := by
  obtain ⟨xs, hu⟩ := hu
  by_cases hub : u.ownBlock = some b
  · obtain ⟨ys, hv⟩ := hv
    obtain ⟨zs, hv0⟩ := hv0
    rcases hu.2 with ⟨h1, _⟩ | ⟨g, cap, cur, hs, hbase, hg, hmc, hcm, hcs, _⟩
    · rw [h1] at hub; cases hub
    · have hgb : g = b := by rw [hs] at hub; simpa [Value.ownBlock] using hub
      subst hgb
      have hlt : g < w.heap.size := (Array.getElem?_eq_some_iff.1 hg).1
      rcases hv0.2 with ⟨h1, _⟩ | ⟨g1, cap1, cur1, hs1, _, hg1, _, _, hcs1, _⟩
      · have := hb2 (by rw [h1]; rfl); omega
      · have hg1b := hb g1 (by rw [hs1]; rfl)
        subst hg1b
        rw [hg] at hg1
        simp only [Option.some.injEq, Obj.cells.injEq, and_true] at hg1
        have hce : cap = cap1 := by
          have : cap * sz = cap1 * sz := by rw [← hcs, ← hcs1, hg1]
          exact Nat.eq_of_mul_eq_mul_right hsz this
        rcases hv.2 with ⟨h1, _⟩ | ⟨g2, cap2, cur2, hs2, _, hg2, _, _, hcs2, _⟩
        · rw [hs1] at h1; cases h1
        · rw [hs1] at hs2
          simp only [Value.slice.injEq, Option.some.injEq, Addr.mk.injEq, and_true, true_and] at hs2
          obtain ⟨rfl, rfl⟩ := hs2
          have hlen : m * sz ≤ cur2.size := by rw [hcs2, ← hce]; exact Nat.mul_le_mul_right _ hmc
          exact ⟨cur2.toList.take (m * sz), by rw [List.length_take, Array.length_toList]; omega, .inr ⟨_, cap, cur2, hs, hbase, hg2, hmc, hcm, by rw [hcs2, hce], rfl⟩⟩
  · exact ⟨xs, owns_turned hT hu fun k hk => by have : k ≠ b := fun h => hub (by rw [hk, h]); omega⟩
/-- The row of structs that hold slices, while it is marked: each slice's value stands in its place. -/
def SvRows (w : World) (g : Nat) (E : TypeId) (sz cap s : Nat) (svs : List Value) : Prop :=
  ∃ cur, w.heap[g]? = some (.cells cur E (0, 0)) ∧ cur.size = cap * sz ∧ ∀ j u, svs[j]? = some u → cur[j * sz + s]? = some u
theorem SvRows.cell {w : World} {g : Nat} {E : TypeId} {sz cap s : Nat} {svs : List Value} (h : SvRows w g E sz cap s svs) {i : Nat} (hi : i < cap * sz) : ∃ u, w.cell? ⟨g, i, none⟩ = some u := by
  obtain ⟨cur, h1, h2, _⟩ := h
  exact ⟨cur[i]'(by omega), by rw [cell_of_row w g i cur E (0, 0) h1]; simp [h2, hi]⟩
theorem SvRows.frozen {w : World} {g : Nat} {E : TypeId} {sz cap s : Nat} {svs : List Value} (h : SvRows w g E sz cap s svs) (i : Nat) : w.frozen? ⟨g, i, none⟩ = false := by
  obtain ⟨cur, h1, _, _⟩ := h
  exact frozen_of_row w g i cur E h1
theorem SvRows.sv {w : World} {g : Nat} {E : TypeId} {sz cap s : Nat} {svs : List Value} (h : SvRows w g E sz cap s svs) {j : Nat} {u : Value} (hj : svs[j]? = some u) : w.cell? ⟨g, j * sz + s, none⟩ = some u := by
  obtain ⟨cur, h1, _, h3⟩ := h
  rw [cell_of_row w g _ cur E (0, 0) h1]; exact h3 j u hj
theorem SvRows.set {w : World} {g : Nat} {E : TypeId} {sz cap s : Nat} {svs : List Value} (h : SvRows w g E sz cap s svs) {k r : Nat} (hr : r < sz) (hrs : r ≠ s) (hs : s < sz) (u : Value) : SvRows (w.setCell ⟨g, k * sz + r, none⟩ u) g E sz cap s svs := by
  obtain ⟨cur, h1, h2, h3⟩ := h
  refine ⟨cur.setIfInBounds (k * sz + r) u, heap_setCell_same w g _ cur E u h1, by simpa using h2, fun j x hj => ?_⟩
  rw [Array.getElem?_setIfInBounds_ne]
  · exact h3 j x hj
  · intro he
    have e1 : (k * sz + r) % sz = r := by rw [Nat.mul_comm, Nat.mul_add_mod]; exact Nat.mod_eq_of_lt hr
    have e2 : (j * sz + s) % sz = s := by rw [Nat.mul_comm, Nat.mul_add_mod]; exact Nat.mod_eq_of_lt hs
    rw [he, e2] at e1
    exact hrs e1.symm
theorem SvRows.turned {w w' : World} {g : Nat} {E : TypeId} {sz cap s : Nat} {svs : List Value} (h : SvRows w g E sz cap s svs) {b : Nat} (hT : Turned b (b + 1) w w') (hb : b ≠ g) : SvRows w' g E sz cap s svs := by
  obtain ⟨cur, h1, h2, h3⟩ := h
  refine ⟨cur, ?_, h2, h3⟩
  rw [hT.block g (Array.getElem?_eq_some_iff.1 h1).1 (by omega)]; exact h1
theorem SvRows.ne {w : World} {g : Nat} {E F : TypeId} {sz cap s sz' : Nat} {svs : List Value} (h : SvRows w g E sz cap s svs) (hEF : E ≠ F) {base : Nat} {u : Value} {m : Nat} (hu : Wr w base F sz' u m) {b : Nat} (hb : u.ownBlock = some b) : b ≠ g := by
  rintro rfl
  obtain ⟨cur, h1, _, _⟩ := h
  obtain ⟨xs, hu⟩ := hu
  rcases hu.2 with ⟨h2, _⟩ | ⟨g1, cap1, cur1, hs, _, hg, _⟩
  · rw [h2] at hb; cases hb
  · have : g1 = b := by rw [hs] at hb; simpa [Value.ownBlock] using hb
    subst this
    rw [h1] at hg
    simp only [Option.some.injEq, Obj.cells.injEq, and_true] at hg
    exact hEF hg.2
theorem Wr.set {w : World} {base : Nat} {F : TypeId} {sz : Nat} {u : Value} {m : Nat} (h : Wr w base F sz u m) {p : Addr} (hp : ∀ b, u.ownBlock = some b → b ≠ p.block) (x : Value) : Wr (w.setCell p x) base F sz u m := by
  obtain ⟨xs, h⟩ := h
  exact ⟨xs, owns_turned ((Turned.refl p.block (p.block + 1) w).setCell (Nat.le_refl _) (Nat.lt_succ_self _) x) h fun k hk => by have := hp k hk; omega⟩
end Go.Rd
