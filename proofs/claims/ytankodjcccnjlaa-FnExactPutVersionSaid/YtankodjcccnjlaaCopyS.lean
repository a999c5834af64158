/- copy onto a row of structs that is known whole, as a law of the walk and as a step of a region that draws; a slice cut at its end; without a program; no condition beyond what is named. -/
import Derived.Test.YtankodjcccnjlaaAddBox
import Derived.Laws.CopyRow
import Derived.Lib.AppendZerosOnto
import Derived.Lib.Overlaps
import Derived.Laws.Externs
namespace Go.Rd
open Go.Sort Go.RowKit
/-- What a row holds behind a copy of cs to place o. -/
def laid {α : Type} (L : List α) (o : Nat) (cs : List α) : List α := L.take o ++ cs ++ L.drop (o + cs.length)
theorem laid_length {α : Type} (L : List α) (o : Nat) (cs : List α) (h : o + cs.length ≤ L.length) : (laid L o cs).length = L.length := by
  simp only [laid, List.length_append, List.length_take, List.length_drop]; omega
theorem run_copyS {P : Program} (w : World) (dT sT ty e : TypeId) (sz g o dl dc : Nat) (ad : Addr) (sl sc m : Nat) (cur : List Value) (t : TypeId) (cs : List Value)
    (hu : P.underlying dT = some (.slice e)) (hs : (P.info? e).map (·.size) = some sz) (hg : w.heap[g]? = some (.cells cur.toArray t (0, 0))) (hm : Nat.min sl dl = m) (hn : cs.length = m * sz)
    (hsrc : ∀ j u, cs[j]? = some u → w.cell? (ad.add j) = some u) (hfit : o + cs.length ≤ cur.length) (h1 : ∀ u ∈ cs, u.oneCell' = true) :
    (Builtin.copy_ #[dT, sT] ty #[.slice (some ⟨g, o, none⟩) dl dc, .slice (some ad) sl sc]).run P w = .ok (goInt m) (w.setRow g (laid cur o cs).toArray) := by
  have hst := run_storeCells_at P g o t cs 0 cur.toArray w hg (by simpa using hfit) h1
  cases hq : P.info? e with
  | none => simp [hq] at hs
  | some i =>
    have hi : i.size = sz := by simpa [hq] using hs
    have hf := run_firstCells_some (P := P) w sz m ad sl sc cs hn hsrc
    simp [Builtin.copy_, run_underlying hu, Builtin.lenOf, sizeOf, typeInfo, hq, hi, hm, hf, hst, laid]
/-- The row is written from o on; all else stands. -/
theorem ext_setRow {w0 w : World} {g : Nat} (hE : Ext w0 w) (hg : w0.heap.size ≤ g) (cs : Array Value) : Ext w0 (w.setRow g cs) :=
  Below.trans hE ⟨rfl, rfl, rfl, by simp [World.setRow], fun k hk => setRow_other w g k cs (by omega)⟩
theorem step_copyS {P : Program} {ops : Array Oper} {op : Oper} {a : Act} {w : World} {K : Act → World → Prop} {Q : Exit → Act → World → Prop} {E : Prop} (w0 : World) (hgd : op.guard = none) (d s : Operand) (dT sT : TypeId)
    (ho : op.op = .call { callee := .builtin .copy, args := #[d, s], argTypes := #[dT, sT] }) (e : TypeId) (sz g o dl dc : Nat) (ad : Addr) (sl sc m : Nat) (cur : List Value) (t : TypeId) (cs : List Value)
    (hu : P.underlying dT = some (.slice e)) (hs : (P.info? e).map (·.size) = some sz) (hd : a.eval d = .slice (some ⟨g, o, none⟩) dl dc) (hs2 : a.eval s = .slice (some ad) sl sc)
    (hg : w.heap[g]? = some (.cells cur.toArray t (0, 0))) (hm : Nat.min sl dl = m) (hn : cs.length = m * sz)
    (hsrc : ∀ j u, cs[j]? = some u → w.cell? (ad.add j) = some u) (hfit : o + cs.length ≤ cur.length) (h1 : ∀ u ∈ cs, u.oneCell' = true) (hE : Ext w0 w) (hw0 : w0.heap.size ≤ g)
    (hK : ∀ w', w'.heap[g]? = some (.cells (laid cur o cs).toArray t (0, 0)) → Ext w0 w' → (∀ k, k ≠ g → w'.heap[k]? = w.heap[k]?) → K (a.put op.dst (goInt m)) w') :
    if Region.wanted op (yielded ops a.tmps) = true then Oper.wp P op a w K Q else E := by
  have hw : Region.wanted op (yielded ops a.tmps) = true := by simp [Region.wanted, hgd]
  rw [if_pos hw]
  have hrun := run_copyS w dT sT op.type e sz g o dl dc ad sl sc m cur t cs hu hs hg hm hn hsrc hfit h1
  unfold Oper.wp
  simp [execOp, ho, resolve, invoke, builtin, hd, hs2, hrun, Result.andThen]
  exact hK _ (setRow_heap w g _ _ t _ hg) (ext_setRow hE hw0 _) (fun k hk => setRow_other w g k _ hk)
theorem wpl_copyS {P : Program} {w : World} {ops : Array Oper} {rest : List Oper} {op : Oper} {a : Act} {Q : Exit → Act → World → Prop} (w0 : World) (hgd : op.guard = none) (d s : Operand) (dT sT : TypeId)
    (ho : op.op = .call { callee := .builtin .copy, args := #[d, s], argTypes := #[dT, sT] }) (e : TypeId) (sz g o dl dc : Nat) (ad : Addr) (sl sc m : Nat) (cur : List Value) (t : TypeId) (cs : List Value)
    (hu : P.underlying dT = some (.slice e)) (hs : (P.info? e).map (·.size) = some sz) (hd : a.eval d = .slice (some ⟨g, o, none⟩) dl dc) (hs2 : a.eval s = .slice (some ad) sl sc)
    (hg : w.heap[g]? = some (.cells cur.toArray t (0, 0))) (hm : Nat.min sl dl = m) (hn : cs.length = m * sz)
    (hsrc : ∀ j u, cs[j]? = some u → w.cell? (ad.add j) = some u) (hfit : o + cs.length ≤ cur.length) (h1 : ∀ u ∈ cs, u.oneCell' = true) (hE : Ext w0 w) (hw0 : w0.heap.size ≤ g)
    (hK : ∀ w', w'.heap[g]? = some (.cells (laid cur o cs).toArray t (0, 0)) → Ext w0 w' → (∀ k, k ≠ g → w'.heap[k]? = w.heap[k]?) → wpList P ops Q rest (a.put op.dst (goInt m)) w') :
    wpList P ops Q (op :: rest) a w := by
  refine wpList_plain hgd fun K hK' => ?_
  have hrun := run_copyS w dT sT op.type e sz g o dl dc ad sl sc m cur t cs hu hs hg hm hn hsrc hfit h1
  unfold Oper.wp
  simp [execOp, ho, resolve, invoke, builtin, hd, hs2, hrun, Result.andThen]
  exact hK' _ _ (hK _ (setRow_heap w g _ _ t _ hg) (ext_setRow hE hw0 _) (fun k hk => setRow_other w g k _ hk))
theorem nmin {a b m : Nat} (h : (a ≤ b ∧ a = m) ∨ (b ≤ a ∧ b = m)) : Nat.min a b = m := by
  simp only [Nat.min_def]; split <;> omega
theorem laid2_take {α : Type} (L X D : List α) (p q : Nat) (hq : q = p + X.length) (hL : q ≤ L.length) : (laid (laid L p X) q D).take (q + D.length) = L.take p ++ (X ++ D) := by
  have h1 : (laid L p X).take q = L.take p ++ X := by
    unfold laid
    rw [List.take_append_of_le_length (by simp; omega), List.take_of_length_le (by simp; omega)]
  have h2 : (laid (laid L p X) q D) = L.take p ++ X ++ D ++ (laid L p X).drop (q + D.length) := by
    rw [← h1]; rfl
  rw [h2, List.take_append_of_le_length (by simp; omega), List.take_of_length_le (by simp; omega), List.append_assoc]
theorem laid2r_take {α : Type} (L X D : List α) (p q : Nat) (hq : q = p + X.length) (hL : q ≤ L.length) : (laid (laid L q D) p X).take (q + D.length) = L.take p ++ (X ++ D) := by
  subst hq
  have h1 : (laid L (p + X.length) D).take p = L.take p := by
    unfold laid
    rw [List.append_assoc, List.take_append_of_le_length (by simp; omega), List.take_take, Nat.min_eq_left (by omega)]
  have h2 : (laid L (p + X.length) D).drop (p + X.length) = D ++ L.drop (p + X.length + D.length) := by
    unfold laid
    rw [List.append_assoc, List.drop_append_of_le_length (by simp; omega), List.drop_of_length_le (by simp; omega), List.nil_append]
  have h3 : laid (laid L (p + X.length) D) p X = L.take p ++ X ++ (D ++ L.drop (p + X.length + D.length)) := by
    rw [← h2, ← h1]; rfl
  rw [h3, ← List.append_assoc, List.take_append_of_le_length (by simp; omega), List.take_of_length_le (by simp; omega), List.append_assoc]
theorem owns_laid {w : World} {base g n cap sz : Nat} {e : TypeId} {L xs : List Value} (hb : base ≤ g) (hg : w.heap[g]? = some (.cells L.toArray e (0, 0))) (hn : n ≤ cap) (hm : cap ≤ maxLen) (hL : L.length = cap * sz) (hx : xs.length = n * sz) (ht : L.take (n * sz) = xs) :
    w.ownsRow base e sz (.slice (some ⟨g, 0, none⟩) n cap) n xs := ⟨hx, .inr ⟨g, cap, L.toArray, rfl, hb, hg, hn, hm, by simpa using hL, by simpa using ht⟩⟩
end Go.Rd
