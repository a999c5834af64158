/- append of one element onto a row of the call's own, the other blocks told; without a program; no condition. -/
import Derived.Test.YtefabcnifbnehaaDoorBoxL
namespace Go.Rd
open Go.RowKit Go.Sort
theorem Box.grown {w w' : World} {base : Nat} {e' : TypeId} {sz : Nat} {v : Value} {n : Nat} {xs : List Value} (h : w.grownBy w' v.ownBlock) (ho : w.ownsRow base e' sz v n xs) {g : Nat} {e : TypeId} {cs : List Value} (hb : Box w g e cs) (he : e ≠ e') : Box w' g e cs := by
  obtain ⟨_, _, _, _, hk⟩ := h
  have hne : v.ownBlock ≠ some g := by
    intro hv
    rcases ho.2 with ⟨h1, _⟩ | ⟨g', cap, cur, h1, _, hg, _⟩
    · rw [h1] at hv; cases hv
    · rw [h1] at hv
      simp only [Value.ownBlock, Option.some.injEq] at hv
      subst hv
      have : w.heap[g']? = _ := hb
      rw [this] at hg
      simp only [Option.some.injEq, Obj.cells.injEq] at hg
      exact he hg.2.1
  unfold Box
  rw [hk g hb.lt (by first | exact hne | exact fun h => hne h.symm)]
  exact hb
theorem wpl_append1K {P : Program} {ops : Array Oper} {rest : List Oper} {o : Oper} {a : Act} {Q : Exit → Act → World → Prop} (w0 w : World) (hgd : o.guard = none) (s x : Operand) (t : TypeId)
    (ho : o.op = .call { callee := .builtin .append, args := #[s, x], argTypes := #[t, t] })
    (e : TypeId) (z : Value) (size bytes : Nat) (ht : P.underlying t = some (.slice e)) (hinfo : (P.info? e).map (fun i => (i.zero, i.size, i.bytes)) = some (some z, size, bytes))
    (hzs : z.cells.size = size) (hsz : 0 < size) (hby : bytes ≤ 1000)
    (v : Value) (n : Nat) (xs : List Value) (hE : Ext w0 w) (hown : w.ownsRow w0.heap.size e size v n xs) (hn : n ≤ 2097152)
    (news : List Value) (hs : a.eval s = v) (hx : a.eval x = .slice (some ⟨w.heap.size, 0, none⟩) 1 1) (hl : news.length = size) (h1 : ∀ u ∈ news, u.oneCell' = true)
    (h : ∀ v' w', w'.ownsRow w0.heap.size e size v' (n + 1) (xs ++ news) → Ext w0 w' → (w.alloc (.cells news.toArray e)).grownBy w' v.ownBlock → wpList P ops Q rest (a.put o.dst v') w') : wpList P ops Q (o :: rest) a (w.alloc (.cells news.toArray e)) := by
  obtain ⟨i, hi, hz0, hz1, hz2⟩ := info_parts hinfo
  refine wpList_append_own _ hgd s x t ho w0.heap.size e i z size bytes ht hi hz0 hz1 hz2 hzs hsz v n xs hs (hown.alloc _) ⟨w.heap.size, 0, none⟩ 1 1 news hx (by rw [hl, Nat.one_mul]) (new_cells _ _ _) h1 (by unfold maxLen; omega) ?_ (by have := hE.size; simp; omega) ?_
  · have : (n + 1) * bytes ≤ 2097153 * 1000 := Nat.mul_le_mul (by omega) hby
    omega
  · intro v' w' h2 h3 h4
    exact h v' w' h2 (ext_grownBy (hE.alloc _) h3 (fun j hj => (hown.lt j hj).1)) h3
end Go.Rd
