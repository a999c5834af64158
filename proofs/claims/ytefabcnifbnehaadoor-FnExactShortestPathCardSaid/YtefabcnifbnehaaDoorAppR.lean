/- append onto a slice that is empty at first and then the call's own, all that stood before the loop being kept; without a program; no condition. -/
import Derived.Test.YtefabcnifbnehaaDoorBase
namespace Go.Rd
open Go.RowKit Go.Sort
/-- The slice is empty over no room, or lies in a row laid since w0. -/
def OutR (w0 w : World) (E : TypeId) (sz : Nat) (v : Value) (n : Nat) (xs : List Value) : Prop :=
  w.ownsRow w0.heap.size E sz v n xs ∨ (∃ g, v = .slice (some ⟨g, 0, none⟩) 0 0) ∧ n = 0 ∧ xs = []
theorem OutR.ext {w0 w w' : World} (h : Ext w w') {E : TypeId} {sz : Nat} {v : Value} {n : Nat} {xs : List Value} (ho : OutR w0 w E sz v n xs) : OutR w0 w' E sz v n xs := by
  rcases ho with h1 | h1
  · exact .inl (h.owns h1)
  · exact .inr h1
theorem OutR.empty (w0 w : World) (E : TypeId) (sz g : Nat) : OutR w0 w E sz (.slice (some ⟨g, 0, none⟩) 0 0) 0 [] := .inr ⟨⟨g, rfl⟩, rfl, rfl⟩
theorem OutR.nil (w0 w : World) (E : TypeId) (sz : Nat) : OutR w0 w E sz (.slice none 0 0) 0 [] := .inl (World.ownsRow_nil _ _ _ _)
theorem OutR.reads {w0 w : World} {E : TypeId} {sz : Nat} {v : Value} {n : Nat} {xs : List Value} (ho : OutR w0 w E sz v n xs) : Reads w sz v n xs := by
  rcases ho with h1 | ⟨⟨g, rfl⟩, rfl, rfl⟩
  · exact Reads.of_owns h1
  · exact ⟨by simp, _, _, rfl, .inl rfl⟩
theorem OutR.owns {w0 w : World} {E : TypeId} {sz : Nat} {v : Value} {n : Nat} {xs : List Value} (ho : OutR w0 w E sz v n xs) (hn : 0 < n) : w.ownsRow w0.heap.size E sz v n xs := by
  rcases ho with h1 | ⟨_, h2, _⟩
  · exact h1
  · omega
/-- append(out, x..): out is empty over no room. -/
theorem wpl_append_empty {P : Program} {ops : Array Oper} {rest : List Oper} {o : Oper} {a : Act} {Q : Exit → Act → World → Prop} (w : World) (hgd : o.guard = none) (s x : Operand) (t : TypeId)
    (ho : o.op = .call { callee := .builtin .append, args := #[s, x], argTypes := #[t, t] })
    (e : TypeId) (z : Value) (size bytes : Nat) (ht : P.underlying t = some (.slice e)) (hinfo : (P.info? e).map (fun i => (i.zero, i.size, i.bytes)) = some (some z, size, bytes))
    (hzs : z.cells.size = size) (hby : bytes ≤ 1000) (g : Nat)
    (ad : Addr) (m c : Nat) (news : List Value) (hs : a.eval s = .slice (some ⟨g, 0, none⟩) 0 0) (hx : a.eval x = .slice (some ad) m c) (hl : news.length = m * size) (hnews : ∀ j u, news[j]? = some u → w.cell? (ad.add j) = some u)
    (hm : m ≤ 4194304) (hm0 : 0 < m)
    (h : ∀ v' w', w'.ownsRow w.heap.size e size v' m news → Ext w w' → wpList P ops Q rest (a.put o.dst v') w') : wpList P ops Q (o :: rest) a w := by
  obtain ⟨i, hi, hz, hz1, hz2⟩ := info_parts hinfo
  subst hz1
  have hbytes : (0 + m) * i.bytes ≤ 140737488355328 := by
    have : (0 + m) * i.bytes ≤ 4194304 * 1000 := Nat.mul_le_mul (by omega) (by omega)
    omega
  have h63 : 0 + m ≤ maxLen := by unfold maxLen; omega
  have hr := fun ty => run_append_grow (P := P) w t ty e i z ht hi hz ⟨g, 0, none⟩ 0 0 [] (by simp) (by simp) ad m c news hl hnews (by omega) (by omega) (growslice_fits (by omega) hbytes)
  have hge := grownCap_ge w (0 + m) 0 e
  have hcm : grownCap w (0 + m) 0 e ≤ maxLen := grownCap_le_maxLen w (0 + m) 0 e h63
  refine wpList_plain hgd fun K hK => ?_
  unfold Oper.wp execOp
  simp only [ho, resolve, invoke, builtin, Sem.run_bind, Sem.run_pure, Result.andThen_ok, List.map_toArray, List.map_cons, List.map_nil, hs, hx, hr]
  refine hK _ _ (h _ _ ?_ ?_)
  · refine ⟨hl, .inr ⟨w.heap.size, grownCap w (0 + m) 0 e, _, ?_, Nat.le_refl _, heap_alloc_new w.drew _, ?_, hcm, ?_, ?_⟩⟩
    · simp
    · omega
    · simp only [Array.size_append, List.size_toArray, size_zeroCells, hzs, hl, ← Nat.add_mul, List.length_nil, Nat.zero_add]
      rw [Nat.zero_add] at hge
      congr 1
      omega
    · simp [← hl]
  · exact ((Ext.refl w).drew).alloc _
/-- append(out, x), one element, in a block that has just been laid. -/
theorem wpl_appendR {P : Program} {ops : Array Oper} {rest : List Oper} {o : Oper} {a : Act} {Q : Exit → Act → World → Prop} (w0 w : World) (hgd : o.guard = none) (s x : Operand) (t : TypeId)
    (ho : o.op = .call { callee := .builtin .append, args := #[s, x], argTypes := #[t, t] })
    (e : TypeId) (z : Value) (size bytes : Nat) (ht : P.underlying t = some (.slice e)) (hinfo : (P.info? e).map (fun i => (i.zero, i.size, i.bytes)) = some (some z, size, bytes))
    (hzs : z.cells.size = size) (hsz : 0 < size) (hby : bytes ≤ 1000)
    (v : Value) (n : Nat) (xs : List Value) (hE : Ext w0 w) (hown : OutR w0 w e size v n xs) (hn : n ≤ 2097152)
    (news : List Value) (hs : a.eval s = v) (hx : a.eval x = .slice (some ⟨w.heap.size, 0, none⟩) 1 1) (hl : news.length = size) (h1 : ∀ u ∈ news, u.oneCell' = true)
    (h : ∀ v' w', OutR w0 w' e size v' (n + 1) (xs ++ news) → Ext w0 w' → v' ≠ .slice none 0 0 → wpList P ops Q rest (a.put o.dst v') w') : wpList P ops Q (o :: rest) a (w.alloc (.cells news.toArray e)) := by
  rcases hown with hown | ⟨⟨g, rfl⟩, rfl, rfl⟩
  · exact wpl_append1 w0 w hgd s x t ho e z size bytes ht hinfo hzs hsz hby v n xs hE hown hn news hs hx hl h1 fun v' w' h2 h3 h4 => h v' w' (.inl h2) h3 h4
  · refine wpl_append_empty _ hgd s x t ho e z size bytes ht hinfo hzs hby g ⟨w.heap.size, 0, none⟩ 1 1 news hs hx (by omega) (new_cells _ _ _) (by omega) (by omega) fun v' w' h2 h3 => ?_
    refine h v' w' (.inl ?_) (Ext.trans (hE.alloc _) h3) ?_
    · have h5 := owns_mono h2 (base' := w0.heap.size) (by have := hE.size; simp; omega)
      simpa using h5
    · rintro rfl
      rcases h2.2 with ⟨_, h6⟩ | ⟨_, _, _, h6, _⟩
      · omega
      · simp at h6
/-- The same, the new block's number spelled as the walk spells it. -/
theorem wpl_appendRg {P : Program} {ops : Array Oper} {rest : List Oper} {o : Oper} {a : Act} {Q : Exit → Act → World → Prop} (g : Nat) (w0 w : World) (hgw : w.heap.size = g) (hgd : o.guard = none) (s x : Operand) (t : TypeId)
    (ho : o.op = .call { callee := .builtin .append, args := #[s, x], argTypes := #[t, t] })
    (e : TypeId) (z : Value) (size bytes : Nat) (ht : P.underlying t = some (.slice e)) (hinfo : (P.info? e).map (fun i => (i.zero, i.size, i.bytes)) = some (some z, size, bytes))
    (hzs : z.cells.size = size) (hsz : 0 < size) (hby : bytes ≤ 1000)
    (v : Value) (n : Nat) (xs : List Value) (hE : Ext w0 w) (hown : OutR w0 w e size v n xs) (hn : n ≤ 2097152)
    (news : List Value) (hs : a.eval s = v) (hx : a.eval x = .slice (some ⟨g, 0, none⟩) 1 1) (hl : news.length = size) (h1 : ∀ u ∈ news, u.oneCell' = true)
    (h : ∀ v' w', OutR w0 w' e size v' (n + 1) (xs ++ news) → Ext w0 w' → v' ≠ .slice none 0 0 → wpList P ops Q rest (a.put o.dst v') w') : wpList P ops Q (o :: rest) a (w.alloc (.cells news.toArray e)) := by
  subst hgw
  exact wpl_appendR w0 w hgd s x t ho e z size bytes ht hinfo hzs hsz hby v n xs hE hown hn news hs hx hl h1 h
end Go.Rd
