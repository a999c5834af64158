/- The cells of a part of a slice of structs; without a program; no condition beyond what is named. -/
import Derived.Test.YtankodjcccnjlaaAddData
import Derived.Test.YtankodjcccnjlaaRoomA
import Derived.Test.YtankodjcccnjlaaStepA
namespace Go.Rd
open Go.Sort Go.RowKit
theorem add_addr (b off j : Nat) : (⟨b, off, none⟩ : Addr).add j = ⟨b, off + j, none⟩ := by unfold Addr.add; split <;> simp_all
theorem takeG {α : Type} {enc : α → List Value} {sz : Nat} (henc : ∀ x, (enc x).length = sz) {w : World} {b off n cap m : Nat} {l : List α} (h : Reads w sz (.slice (some ⟨b, off, none⟩) n cap) m (l.flatMap enc)) (hm : m = l.length) (k : Nat) :
    ∀ w', Ext w w' → ∀ j u, ((l.take k).flatMap enc)[j]? = some u → w'.cell? ((⟨b, off, none⟩ : Addr).add j) = some u := by
  subst hm
  intro w' hE j u hu
  rw [add_addr]
  have hj := (List.getElem?_eq_some_iff.1 hu).1
  rw [flat_length enc sz henc] at hj
  have hle : (l.take k).length * sz ≤ l.length * sz := Nat.mul_le_mul_right _ (by rw [List.length_take]; exact Nat.min_le_right _ _)
  have hl0 : 0 < l.length := by
    rcases Nat.eq_zero_or_pos l.length with h0 | h0
    · rw [h0, Nat.zero_mul] at hle; omega
    · exact h0
  obtain ⟨_, b', off', ha, hc⟩ := (Reads.mono hE h).at hl0
  simp only [Option.some.injEq, Addr.mk.injEq, and_true] at ha
  obtain ⟨rfl, rfl⟩ := ha
  rw [hc j (by omega), ← hu]
  conv => lhs; rw [← List.take_append_drop k l, List.flatMap_append]
  rw [List.getElem?_append_left (by rw [flat_length enc sz henc]; omega)]
theorem dropG {α : Type} {enc : α → List Value} {sz : Nat} (henc : ∀ x, (enc x).length = sz) {w : World} {b off n cap m : Nat} {l : List α} (h : Reads w sz (.slice (some ⟨b, off, none⟩) n cap) m (l.flatMap enc)) (hm : m = l.length) (k : Nat) (hk : k ≤ l.length) :
    ∀ w', Ext w w' → ∀ j u, ((l.drop k).flatMap enc)[j]? = some u → w'.cell? ((⟨b, off + k * sz, none⟩ : Addr).add j) = some u := by
  subst hm
  intro w' hE j u hu
  rw [add_addr]
  have hj := (List.getElem?_eq_some_iff.1 hu).1
  rw [flat_length enc sz henc, List.length_drop, Nat.sub_mul] at hj
  have hl0 : 0 < l.length := by
    rcases Nat.eq_zero_or_pos l.length with h0 | h0
    · rw [h0, Nat.zero_mul] at hj; omega
    · exact h0
  obtain ⟨_, b', off', ha, hc⟩ := (Reads.mono hE h).at hl0
  simp only [Option.some.injEq, Addr.mk.injEq, and_true] at ha
  obtain ⟨rfl, rfl⟩ := ha
  have hlen : ((l.take k).flatMap enc).length = k * sz := by rw [flat_length enc sz henc, List.length_take, Nat.min_eq_left hk]
  rw [Nat.add_assoc, hc (k * sz + j) (by omega), ← hu]
  conv => lhs; rw [← List.take_append_drop k l, List.flatMap_append]
  rw [List.getElem?_append_right (by omega), hlen, Nat.add_sub_cancel_left]
theorem addEL_reads {w : World} {v : Value} {l : List Evt} {k : Nat} {e : Evt} (hk : k ≤ l.length) (hL : lessE l e.ki = k) (h : Reads w 2 v (0 + k + 1 + (l.length - k)) ([] ++ (l.take k).flatMap Evt.enc ++ Evt.enc e ++ (l.drop k).flatMap Evt.enc)) :
    Reads w 2 v (addEL l e).length ((addEL l e).flatMap Evt.enc) := by
  have e1 : (addEL l e).length = 0 + k + 1 + (l.length - k) := by rw [addEL_length]; omega
  have e2 : (addEL l e).flatMap Evt.enc = [] ++ (l.take k).flatMap Evt.enc ++ Evt.enc e ++ (l.drop k).flatMap Evt.enc := by
    unfold addEL; rw [hL]; simp [List.flatMap_append]
  rw [e1, e2]; exact h
theorem owns_nE1 (w : World) (e : TypeId) (sz : Nat) : (w.alloc (.cells #[] e)).drew.ownsRow w.heap.size e sz (.slice (some ⟨w.heap.size, 0, none⟩) 0 0) 0 [] := owns_here (heap_alloc_new w _) (Nat.le_refl _)
theorem owns_nE2 (w : World) (e : TypeId) (sz : Nat) (o : Obj) : ((w.alloc (.cells #[] e)).alloc o).drew.ownsRow w.heap.size e sz (.slice (some ⟨w.heap.size, 0, none⟩) 0 0) 0 [] :=
  owns_here ((heap_alloc_old (w.alloc (.cells #[] e)) o (by simp)).trans (heap_alloc_new w _)) (Nat.le_refl _)
theorem owns_nE3 (w : World) (e : TypeId) (sz : Nat) (o : Obj) : ((w.alloc o).alloc (.cells #[] e)).drew.ownsRow w.heap.size e sz (.slice (some ⟨w.heap.size + 1, 0, none⟩) 0 0) 0 [] := by
  have h := heap_alloc_new (w.alloc o) (.cells #[] e)
  rw [show (w.alloc o).heap.size = w.heap.size + 1 by simp] at h
  exact owns_here h (by omega)
theorem ne_up (n : Nat) : (some n : Option Nat) ≠ some (n + 1) := by simp
theorem ne_dn (n : Nat) : (some (n + 1) : Option Nat) ≠ some n := by simp
/-- append in a region that draws, the result's shape told. -/
theorem step_appS {P : Program} {ops : Array Oper} {o : Oper} {a : Act} {w : World} {K : Act → World → Prop} {Q : Exit → Act → World → Prop} {E : Prop} (w0 : World)
    (hg : o.guard = none) (s x : Operand) (t : TypeId) (ho : o.op = .call { callee := .builtin .append, args := #[s, x], argTypes := #[t, t] })
    (e : TypeId) (z : Value) (size bytes : Nat) (ht : P.underlying t = some (.slice e)) (hinfo : (P.info? e).map (fun i => (i.zero, i.size, i.bytes)) = some (some z, size, bytes))
    (hzs : z.cells.size = size) (hsz : 0 < size) (hby : bytes ≤ 1000)
    (v : Value) (n : Nat) (xs : List Value) (hs : a.eval s = v) (hE : Ext w0 w) (hown : w.ownsRow w0.heap.size e size v n xs)
    (ad : Addr) (m c : Nat) (news : List Value) (hx : a.eval x = .slice (some ad) m c) (hl : news.length = m * size) (hnews : ∀ j u, news[j]? = some u → w.cell? (ad.add j) = some u) (h1 : ∀ u ∈ news, u.oneCell' = true)
    (hn : n + m ≤ 4194304) (N : Nat) (hN : n + m = N)
    (hK : ∀ b' c' w', w'.ownsRow w0.heap.size e size (.slice b' N c') N (xs ++ news) → Ext w0 w' → w.grownBy w' v.ownBlock → K (a.put o.dst (.slice b' N c')) w') :
    if Region.wanted o (yielded ops a.tmps) = true then Oper.wp P o a w K Q else E := by
  subst hN
  refine step_appN w0 hg s x t ho e z size bytes ht hinfo hzs hsz hby v n xs hs hE hown ad m c news hx hl hnews h1 hn fun v' w' h2 h3 h4 => ?_
  obtain ⟨b', c', rfl⟩ := (Reads.of_owns h2).shape
  exact hK b' c' w' h2 h3 h4
theorem two_news {w : World} {g : Nat} {x y : Value} (h0 : w.cell? ⟨g, 0, none⟩ = some x) (h1 : w.cell? ⟨g, 1, none⟩ = some y) : ∀ j u, [x, y][j]? = some u → w.cell? ((⟨g, 0, none⟩ : Addr).add j) = some u := by
  intro j u hu
  rw [add_addr, Nat.zero_add]
  match j, hu with
  | 0, hu => simp at hu; rw [h0, hu]
  | 1, hu => simp at hu; rw [h1, hu]
  | j + 2, hu => simp at hu
theorem Evt.enc_one (x : Evt) : ∀ u ∈ Evt.enc x, u.oneCell' = true := by
  intro u hu
  simp only [Evt.enc, List.mem_cons, List.not_mem_nil, or_false] at hu
  rcases hu with rfl | rfl <;> rfl
end Go.Rd
