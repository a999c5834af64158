/- Blocks beside rows that grow; without a program; no condition beyond what is named. -/
import Derived.Test.YtankodjcccnjlaaAddCel
import Derived.Test.YtankodjcccnjlaaBoxL
namespace Go.Rd
open Go.Sort Go.RowKit
theorem Box.grown {w w' : World} {v : Value} {base n : Nat} {e e' : TypeId} {sz : Nat} {xs cs : List Value} {g : Nat} (h : w.grownBy w' v.ownBlock) (ho : w.ownsRow base e sz v n xs) (hb : Box w g e' cs) (hne : e ≠ e') : Box w' g e' cs := by
  unfold Box
  rw [h.block g hb.lt (fun he => ?_)]
  · exact hb
  · rcases ho.2 with ⟨rfl, _⟩ | ⟨g1, _, _, rfl, _, hg1, _⟩
    · cases he
    · simp only [Value.ownBlock, Option.some.injEq] at he
      subst he
      unfold Box at hb
      rw [hg1] at hb
      simp only [Option.some.injEq, Obj.cells.injEq] at hb
      exact hne hb.2.1
theorem owns_boxset {w : World} {v : Value} {base n : Nat} {e e' : TypeId} {sz : Nat} {xs cs : List Value} {g : Nat} (ho : w.ownsRow base e sz v n xs) (hb : Box w g e' cs) (hne : e ≠ e') (j : Nat) (u : Value) : (w.setCell ⟨g, j, none⟩ u).ownsRow base e sz v n xs := by
  refine ⟨ho.1, ?_⟩
  rcases ho.2 with h1 | ⟨g1, cap, cur, rfl, hbs, hg1, rest⟩
  · exact .inl h1
  · refine .inr ⟨g1, cap, cur, rfl, hbs, ?_, rest⟩
    rw [Below.heap_setCell _ _ _ _ (fun he => ?_)]
    · exact hg1
    · simp only at he
      subst he
      unfold Box at hb
      rw [hg1] at hb
      simp only [Option.some.injEq, Obj.cells.injEq] at hb
      exact hne hb.2.1
/-- The four cells of a block are written; the row stands. -/
theorem box_store4 {w : World} {v : Value} {base n : Nat} {e e' : TypeId} {sz : Nat} {xs : List Value} {g : Nat} {z0 z1 z2 z3 : Value} (ho : w.ownsRow base e sz v n xs) (hb : Box w g e' [z0, z1, z2, z3]) (hne : e ≠ e') (u0 u1 u2 u3 : Value) :
    Box ((((w.setCell ⟨g, 0, none⟩ u0).setCell ⟨g, 1, none⟩ u1).setCell ⟨g, 2, none⟩ u2).setCell ⟨g, 3, none⟩ u3) g e' [u0, u1, u2, u3] ∧
    ((((w.setCell ⟨g, 0, none⟩ u0).setCell ⟨g, 1, none⟩ u1).setCell ⟨g, 2, none⟩ u2).setCell ⟨g, 3, none⟩ u3).ownsRow base e sz v n xs := by
  have b1 := hb.set 0 u0
  have b2 := b1.set 1 u1
  have b3 := b2.set 2 u2
  have b4 := b3.set 3 u3
  exact ⟨b4, owns_boxset (owns_boxset (owns_boxset (owns_boxset ho hb hne 0 u0) b1 hne 1 u1) b2 hne 2 u2) b3 hne 3 u3⟩
theorem Box.hereI {w : World} {e : TypeId} {cs : List Value} {i : Nat} (h : i = w.heap.size) : Box (w.alloc (.cells cs.toArray e)) i e cs := by subst h; exact Box.new w e cs
theorem Box.here {w : World} {e : TypeId} {cs : List Value} : Box (w.alloc (.cells cs.toArray e)) w.heap.size e cs := Box.new w e cs
theorem Box.under {w : World} {g : Nat} {e : TypeId} {cs : List Value} (h : Box w g e cs) (o : Obj) : Box (w.alloc o) g e cs := Box.ext ((Ext.refl _).alloc _) h
theorem Box.drew {w : World} {g : Nat} {e : TypeId} {cs : List Value} (h : Box w g e cs) : Box w.drew g e cs := h
theorem Box.owns {w : World} {g base : Nat} {e : TypeId} {sz : Nat} (h : Box w g e []) (hb : base ≤ g) : w.ownsRow base e sz (.slice (some ⟨g, 0, none⟩) 0 0) 0 [] := owns_here h hb
theorem owns_under {w : World} {base : Nat} {e : TypeId} {sz : Nat} {v : Value} {n : Nat} {xs : List Value} (h : w.ownsRow base e sz v n xs) (o : Obj) : (w.alloc o).ownsRow base e sz v n xs := Ext.owns ((Ext.refl _).alloc _) h
theorem cells2_at {w : World} {g : Nat} {e : TypeId} {cs : List Value} (h : Box w g e cs) : ∀ j u, cs[j]? = some u → w.cell? ((⟨g, 0, none⟩ : Addr).add j) = some u := by
  intro j u hu; rw [add_addr, Nat.zero_add]; exact h.cell j hu
theorem Box.grown2 {w w' : World} {row : Option Nat} {e' : TypeId} {cs : List Value} {g : Nat} (h : w.grownBy w' row) (hb : Box w g e' cs) (hne : some g ≠ row) : Box w' g e' cs := by
  unfold Box
  rw [h.block g hb.lt hne]; exact hb
theorem addEL_owns {w : World} {v : Value} {l : List Evt} {k b N : Nat} {E : TypeId} {e : Evt} (hL : lessE l e.ki = k) (h : w.ownsRow b E 2 v N ([] ++ (l.take k).flatMap Evt.enc ++ Evt.enc e ++ (l.drop k).flatMap Evt.enc)) :
    w.ownsRow b E 2 v N ((addEL l e).flatMap Evt.enc) := by
  have e2 : (addEL l e).flatMap Evt.enc = [] ++ (l.take k).flatMap Evt.enc ++ Evt.enc e ++ (l.drop k).flatMap Evt.enc := by
    unfold addEL; rw [hL]; simp [List.flatMap_append]
  rw [e2]; exact h
theorem addS_fin {w4 W : World} {g c9 k N : Nat} {a9 : Option Addr} {r : Rec} {e : Evt} {E R : TypeId} (hne : E ≠ R) {z0 z1 z2 z3 : Value}
    (ho : W.ownsRow w4.heap.size E 2 (.slice a9 N c9) N ([] ++ (r.evs.take k).flatMap Evt.enc ++ Evt.enc e ++ (r.evs.drop k).flatMap Evt.enc)) (hb : Box W g R [z0, z1, z2, z3]) (hE : Ext w4 W) (hg : w4.heap.size ≤ g)
    (_hk : k ≤ r.evs.length) (hL : lessE r.evs e.ki = k) (hN : N = r.evs.length + 1) :
    ∃ (g' c' : Nat) (a' : Option Addr), Value.pointer (some ⟨g, 0, none⟩) = .pointer (some ⟨g', 0, none⟩) ∧
      Box ((((W.setCell ⟨g, 0, none⟩ (.int .i64 r.id)).setCell ⟨g, 1, none⟩ (.int .i64 r.se)).setCell ⟨g, 2, none⟩ (.int .i64 r.ma)).setCell ⟨g, 3, none⟩ (.slice a9 N c9)) g' R [.int .i64 r.id, .int .i64 r.se, .int .i64 r.ma, .slice a' (r.evs.length + 1) c'] ∧
      ((((W.setCell ⟨g, 0, none⟩ (.int .i64 r.id)).setCell ⟨g, 1, none⟩ (.int .i64 r.se)).setCell ⟨g, 2, none⟩ (.int .i64 r.ma)).setCell ⟨g, 3, none⟩ (.slice a9 N c9)).ownsRow w4.heap.size E 2 (.slice a' (r.evs.length + 1) c') (r.evs.length + 1) ((addEL r.evs e).flatMap Evt.enc) ∧
      w4.heap.size ≤ g' ∧ Ext w4 ((((W.setCell ⟨g, 0, none⟩ (.int .i64 r.id)).setCell ⟨g, 1, none⟩ (.int .i64 r.se)).setCell ⟨g, 2, none⟩ (.int .i64 r.ma)).setCell ⟨g, 3, none⟩ (.slice a9 N c9)) := by
  subst hN
  obtain ⟨h1, h2⟩ := box_store4 ho hb hne (.int .i64 r.id) (.int .i64 r.se) (.int .i64 r.ma) (.slice a9 (r.evs.length + 1) c9)
  exact ⟨g, c9, a9, rfl, h1, addEL_owns hL h2, hg, (((hE.setCell hg _).setCell hg _).setCell hg _).setCell hg _⟩
theorem addS_fin2 {w4 W : World} {c9 k N : Nat} {a9 : Option Addr} {r : Rec} {e : Evt} {E R : TypeId}
    (ho : W.ownsRow w4.heap.size E 2 (.slice a9 N c9) N ([] ++ (r.evs.take k).flatMap Evt.enc ++ Evt.enc e ++ (r.evs.drop k).flatMap Evt.enc)) (hE : Ext w4 W)
    (_hk : k ≤ r.evs.length) (hL : lessE r.evs e.ki = k) (hN : N = r.evs.length + 1) :
    ∃ (g' c' : Nat) (a' : Option Addr), Value.pointer (some ⟨W.heap.size, 0, none⟩) = .pointer (some ⟨g', 0, none⟩) ∧
      Box (W.alloc (.cells #[.int .i64 r.id, .int .i64 r.se, .int .i64 r.ma, .slice a9 N c9] R)) g' R [.int .i64 r.id, .int .i64 r.se, .int .i64 r.ma, .slice a' (r.evs.length + 1) c'] ∧
      (W.alloc (.cells #[.int .i64 r.id, .int .i64 r.se, .int .i64 r.ma, .slice a9 N c9] R)).ownsRow w4.heap.size E 2 (.slice a' (r.evs.length + 1) c') (r.evs.length + 1) ((addEL r.evs e).flatMap Evt.enc) ∧
      w4.heap.size ≤ g' ∧ Ext w4 (W.alloc (.cells #[.int .i64 r.id, .int .i64 r.se, .int .i64 r.ma, .slice a9 N c9] R)) := by
  subst hN
  exact ⟨W.heap.size, c9, a9, rfl, Box.new W R _, addEL_owns hL (owns_under ho _), hE.size, hE.alloc _⟩
theorem own0 {W : World} {b : Nat} {E : TypeId} {v : Value} {r : Rec} {e : Evt} (he : r.evs = []) (ho : W.ownsRow b E 2 v 1 ([] ++ Evt.enc e)) : W.ownsRow b E 2 v 1 ([] ++ (r.evs.take 0).flatMap Evt.enc ++ Evt.enc e ++ (r.evs.drop 0).flatMap Evt.enc) := by
  rw [he]; simpa using ho
end Go.Rd
