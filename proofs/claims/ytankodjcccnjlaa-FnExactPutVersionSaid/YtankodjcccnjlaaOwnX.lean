/- Rows of structs that hold a slice each, the slices in blocks of their own; without a program; no condition. -/
import Derived.Test.YtankodjcccnjlaaMkData
import Derived.Test.YtankodjcccnjlaaNestData
import Derived.Test.YtankodjcccnjlaaCopyS
import Derived.Test.YtankodjcccnjlaaStepA
namespace Go.Rd
open Go.Sort Go.RowKit
theorem flat_set {α : Type} (enc : α → List Value) (sz : Nat) (henc : ∀ x, (enc x).length = sz) : ∀ (l : List α) (k j : Nat) (x y : α) (u : Value), l[k]? = some x → j < sz → enc y = (enc x).set j u → (l.set k y).flatMap enc = (l.flatMap enc).set (k * sz + j) u
  | [], k, j, x, y, u, h, _, _ => by simp at h
  | a :: l, 0, j, x, y, u, h, hj, he => by
    simp only [List.getElem?_cons_zero, Option.some.injEq] at h
    subst h
    simp only [List.set_cons_zero, List.flatMap_cons, Nat.zero_mul, Nat.zero_add]
    rw [he, List.set_append_left _ _ (by rw [henc]; exact hj)]
  | a :: l, k + 1, j, x, y, u, h, hj, he => by
    simp only [List.set_cons_succ, List.flatMap_cons]
    rw [flat_set enc sz henc l k j x y u (by simpa using h) hj he, List.set_append_right _ _ (by rw [henc, Nat.add_mul]; omega), henc]
    congr 2
    rw [Nat.add_mul]; omega
theorem take_set_lt {α : Type} (l : List α) (n j : Nat) (u : α) : (l.set j u).take n = (l.take n).set j u := List.take_set
theorem map_fst_set {α : Type} (l : List (α × Value)) (k : Nat) (r : α) (v : Value) (h : (l.map Prod.fst)[k]? = some r) : (l.set k (r, v)).map Prod.fst = l.map Prod.fst := by
  rw [List.map_set]
  apply List.ext_getElem?
  intro i
  rw [List.getElem?_set]
  by_cases hi : k = i
  · subst hi
    have := (List.getElem?_eq_some_iff.1 h).1
    simp only [if_true]
    rw [if_pos this, h]
  · rw [if_neg hi]

theorem wpl_appG {P : Program} {ops : Array Oper} {rest : List Oper} {o : Oper} {a : Act} {Q : Exit → Act → World → Prop} (w0 w : World) (hgd : o.guard = none) (s x : Operand) (t : TypeId)
    (ho : o.op = .call { callee := .builtin .append, args := #[s, x], argTypes := #[t, t] })
    (e : TypeId) (z : Value) (size bytes : Nat) (ht : P.underlying t = some (.slice e)) (hinfo : (P.info? e).map (fun i => (i.zero, i.size, i.bytes)) = some (some z, size, bytes))
    (hzs : z.cells.size = size) (hsz : 0 < size) (hby : bytes ≤ 1000)
    (v : Value) (n : Nat) (xs : List Value) (hE : Ext w0 w) (hown : w.ownsRow w0.heap.size e size v n xs)
    (ad : Addr) (m c : Nat) (news : List Value) (hs : a.eval s = v) (hx : a.eval x = .slice (some ad) m c) (hl : news.length = m * size) (hnews : ∀ j u, news[j]? = some u → w.cell? (ad.add j) = some u) (h1 : ∀ u ∈ news, u.oneCell' = true)
    (hn : n + m ≤ 4194304)
    (h : ∀ v' w', w'.ownsRow w0.heap.size e size v' (n + m) (xs ++ news) → Ext w0 w' → w.grownBy w' v.ownBlock → wpList P ops Q rest (a.put o.dst v') w') : wpList P ops Q (o :: rest) a w := by
  obtain ⟨i, hi, hz0, hz1, hz2⟩ := info_parts hinfo
  refine wpList_append_own _ hgd s x t ho w0.heap.size e i z size bytes ht hi hz0 hz1 hz2 hzs hsz v n xs hs hown ad m c news hx hl hnews h1 (by unfold maxLen; omega) ?_ hE.size ?_
  · have : (n + m) * bytes ≤ 4194304 * 1000 := Nat.mul_le_mul hn hby
    omega
  · intro v' w' h2 h3 h4
    exact h v' w' h2 (ext_grownBy hE h3 (fun j hj => (hown.lt j hj).1)) h3
/-- append where nothing is appended. -/
theorem wpl_app0 {P : Program} {ops : Array Oper} {rest : List Oper} {o : Oper} {a : Act} {Q : Exit → Act → World → Prop} (base : Nat) (w : World) (hgd : o.guard = none) (s x : Operand) (t : TypeId)
    (ho : o.op = .call { callee := .builtin .append, args := #[s, x], argTypes := #[t, t] })
    (e : TypeId) (z : Value) (size bytes : Nat) (ht : P.underlying t = some (.slice e)) (hinfo : (P.info? e).map (fun i => (i.zero, i.size, i.bytes)) = some (some z, size, bytes))
    (v : Value) (n : Nat) (xs : List Value) (hs : a.eval s = v) (hown : w.ownsRow base e size v n xs) (c : Nat) (hx : a.eval x = .slice none 0 c) (h : wpList P ops Q rest (a.put o.dst v) w) : wpList P ops Q (o :: rest) a w := by
  refine wpList_plain hgd fun K hK => ?_
  obtain ⟨i, hi, hz0, hz1, hz2⟩ := info_parts hinfo
  have hr : (Builtin.append_ #[t, t] o.type #[v, .slice none 0 c]).run P w = .ok v w := by
    rcases hown.2 with ⟨rfl, rfl⟩ | ⟨g, cap, cur, rfl, hbg, hgg, hnc, hcm, hcs, htake⟩
    · simp [Builtin.append_, run_underlying ht, sizeOf, typeInfo, hi, Builtin.lenOf, Builtin.firstCells]
    · simp [Builtin.append_, run_underlying ht, sizeOf, typeInfo, hi, Builtin.lenOf, Builtin.firstCells, hnc, storeCells]
  unfold Oper.wp
  simp [execOp, ho, resolve, invoke, builtin, hs, hx, hr, Result.andThen]
  exact hK _ _ h

def Hld.lens (pl : List (Hld × Value)) : List (Nat × Value) := pl.map fun p => (p.1.ss.length, p.2)
theorem Hld.lens_get {pl : List (Hld × Value)} {i : Nat} {q : Nat × Value} (h : (Hld.lens pl)[i]? = some q) : ∃ p, pl[i]? = some p ∧ q = (p.1.ss.length, p.2) := by
  unfold Hld.lens at h
  rw [List.getElem?_map] at h
  cases hp : pl[i]? with
  | none => rw [hp] at h; cases h
  | some p => rw [hp] at h; exact ⟨p, rfl, by simpa using h.symm⟩
theorem Hld.lens_some {pl : List (Hld × Value)} {i : Nat} {p : Hld × Value} (h : pl[i]? = some p) : (Hld.lens pl)[i]? = some (p.1.ss.length, p.2) := by
  unfold Hld.lens; rw [List.getElem?_map, h]; rfl
theorem Hld.lens_sum (pl : List (Hld × Value)) : ((Hld.lens pl).map Prod.fst).sum = Hld.wt (pl.map Prod.fst) := by
  unfold Hld.lens Hld.wt; rw [List.map_map, List.map_map]; rfl
/-- A row of the call's own, each struct's slice too, no two of these in one block. -/
def Hld.OwnX (R F : TypeId) (w : World) (base : Nat) (l : List Hld) (v : Value) : Prop :=
  ∃ pl : List (Hld × Value), pl.map Prod.fst = l ∧ w.ownsRow base R 6 v pl.length (pl.flatMap Hld.enc) ∧ (∀ p ∈ pl, w.ownsRow base F 1 p.2 p.1.ss.length (p.1.ss.flatMap encI)) ∧ Apart (Hld.lens pl)
theorem Hld.OwnX.ext {R F : TypeId} {w w' : World} {base : Nat} {l : List Hld} {v : Value} (h : Ext w w') (ho : Hld.OwnX R F w base l v) : Hld.OwnX R F w' base l v := by
  obtain ⟨pl, h1, h2, h3, h4⟩ := ho
  exact ⟨pl, h1, h.owns h2, fun p hp => h.owns (h3 p hp), h4⟩
theorem Hld.OwnX.above {R F : TypeId} {w w' : World} {base lo2 hi2 : Nat} {l : List Hld} {v : Value} (h : Turned lo2 hi2 w w') (ho : Hld.OwnX R F w base l v) (hb : hi2 ≤ base) : Hld.OwnX R F w' base l v := by
  obtain ⟨pl, h1, h2, h3, h4⟩ := ho
  exact ⟨pl, h1, owns_above h h2 hb, fun p hp => owns_above h (h3 p hp) hb, h4⟩
theorem Hld.OwnX.rd {R F : TypeId} {w : World} {base : Nat} {l : List Hld} {v : Value} (ho : Hld.OwnX R F w base l v) : Hld.Rd w v l := by
  obtain ⟨pl, h1, h2, h3, _⟩ := ho
  exact ⟨pl, h1, Reads.of_owns h2, fun p hp => Reads.of_owns (h3 p hp)⟩
theorem Hld.OwnX.mono {R F : TypeId} {w : World} {base base' : Nat} {l : List Hld} {v : Value} (ho : Hld.OwnX R F w base l v) (hb : base' ≤ base) : Hld.OwnX R F w base' l v := by
  obtain ⟨pl, h1, h2, h3, h4⟩ := ho
  exact ⟨pl, h1, owns_mono h2 hb, fun p hp => owns_mono (h3 p hp) hb, h4⟩
theorem Hld.OwnX.nil (R F : TypeId) (w : World) (base : Nat) : Hld.OwnX R F w base [] (.slice none 0 0) :=
  ⟨[], rfl, World.ownsRow_nil w base R 6, fun p hp => by simp at hp, fun i j p q _ h => by simp [Hld.lens] at h⟩
theorem Hld.OwnX.addr {R F : TypeId} {w : World} {base : Nat} {l : List Hld} {v : Value} (ho : Hld.OwnX R F w base l v) (h0 : 0 < l.length) : ∃ g cap, v = .slice (some ⟨g, 0, none⟩) l.length cap ∧ base ≤ g := by
  obtain ⟨pl, rfl, h2, _⟩ := ho
  rw [List.length_map] at h0 ⊢
  rcases h2.2 with ⟨_, h5⟩ | ⟨g, cap, cur, hs, hbg, _⟩
  · omega
  · exact ⟨g, cap, hs, hbg⟩
theorem Hld.OwnX.cells {R F : TypeId} {w : World} {base g n cap : Nat} {l : List Hld} (ho : Hld.OwnX R F w base l (.slice (some ⟨g, 0, none⟩) n cap)) {k : Nat} {r : Hld} (hr : l[k]? = some r) :
    (∀ j, w.frozen? ⟨g, j, none⟩ = false) ∧ ∃ sv, Hld.At w (r, sv) ∧ ∀ j u, (Hld.enc (r, sv))[j]? = some u → w.cell? ⟨g, k * 6 + j, none⟩ = some u := by
  obtain ⟨pl, rfl, h2, h3, _⟩ := ho
  rw [List.getElem?_map] at hr
  cases hp : pl[k]? with
  | none => rw [hp] at hr; cases hr
  | some p =>
    rw [hp] at hr
    simp only [Option.map_some, Option.some.injEq] at hr
    subst hr
    rcases h2.2 with ⟨h5, _⟩ | ⟨g1, cap1, cur, hs, hbg, hg, _⟩
    · cases h5
    · simp only [Value.slice.injEq, Option.some.injEq, Addr.mk.injEq, and_true] at hs
      obtain ⟨rfl, rfl, rfl⟩ := hs
      refine ⟨fun j => frozen_of_row w g j cur R hg, p.2, Reads.of_owns (h3 p (List.mem_of_getElem? hp)), fun j u hu => ?_⟩
      have hf := flat_some (enc := Hld.enc) Hld.enc_len hp (j := j) (u := u) hu
      have hlt := (List.getElem?_eq_some_iff.1 hf).1
      rw [flat_length Hld.enc 6 Hld.enc_len] at hlt
      rw [h2.cellAt _ hlt]; exact hf
/-- The row while its slices are replaced by copies, one by one: the first k are done. -/
def Hld.Half (R F : TypeId) (w : World) (base g cap k : Nat) (pl : List (Hld × Value)) : Prop :=
  ∃ (ql : List (Hld × Value)) (cur : List Value), ql.map Prod.fst = pl.map Prod.fst ∧ (∀ i, k ≤ i → ql[i]? = pl[i]?) ∧ Box w g R cur ∧ cur.length = cap * 6 ∧ cur.take (pl.length * 6) = ql.flatMap Hld.enc ∧
    (∀ (i : Nat) (p : Hld × Value), i < k → ql[i]? = some p → w.ownsRow base F 1 p.2 p.1.ss.length (p.1.ss.flatMap encI)) ∧ Apart (Hld.lens (ql.take k))
theorem Hld.Half.start {R F : TypeId} {w : World} {base b g cap : Nat} {pl : List (Hld × Value)} (h : w.ownsRow b R 6 (.slice (some ⟨g, 0, none⟩) pl.length cap) pl.length (pl.flatMap Hld.enc)) : Hld.Half R F w base g cap 0 pl := by
  rcases h.2 with ⟨h1, _⟩ | ⟨g1, cap1, cur, hs, _, hg, _, _, hcs, htake⟩
  · cases h1
  · simp only [Value.slice.injEq, Option.some.injEq, Addr.mk.injEq, and_true, true_and] at hs
    obtain ⟨rfl, rfl⟩ := hs
    exact ⟨pl, cur.toList, rfl, fun _ _ => rfl, by unfold Box; rw [Array.toArray_toList]; exact hg, by rw [Array.length_toList, hcs], htake, fun i p hi => by omega, fun i j p q _ hi => by simp [Hld.lens] at hi⟩
theorem Hld.Half.ext {R F : TypeId} {w w' : World} {base g cap k : Nat} {pl : List (Hld × Value)} (h : Ext w w') (ho : Hld.Half R F w base g cap k pl) : Hld.Half R F w' base g cap k pl := by
  obtain ⟨ql, cur, h1, h2, h3, h4, h5, h6, h7⟩ := ho
  exact ⟨ql, cur, h1, h2, Box.ext h h3, h4, h5, fun i p hi hp => h.owns (h6 i p hi hp), h7⟩
theorem Hld.Half.at {R F : TypeId} {w : World} {base g cap k : Nat} {pl : List (Hld × Value)} (ho : Hld.Half R F w base g cap k pl) {p : Hld × Value} (hp : pl[k]? = some p) : w.cell? ⟨g, k * 6 + 3, none⟩ = some p.2 ∧ w.frozen? ⟨g, k * 6 + 3, none⟩ = false := by
  obtain ⟨ql, cur, h1, h2, h3, h4, h5, h6, h7⟩ := ho
  have hk := (List.getElem?_eq_some_iff.1 hp).1
  have hq : ql[k]? = some p := by rw [h2 k (Nat.le_refl _)]; exact hp
  have hu := flat_some (enc := Hld.enc) Hld.enc_len hq (j := 3) (u := p.2) rfl
  rw [← h5, List.getElem?_take, if_pos (by omega)] at hu
  exact ⟨h3.cell _ hu, h3.frozen _⟩
theorem Hld.Half.put {R F : TypeId} (hne : F ≠ R) {w w2 : World} {base g cap k : Nat} {pl : List (Hld × Value)} (ho : Hld.Half R F w base g cap k pl) (hb : base ≤ w.heap.size) (hE : Ext w w2) {p : Hld × Value} (hp : pl[k]? = some p) {v2 : Value} (hv : w2.ownsRow w.heap.size F 1 v2 p.1.ss.length (p.1.ss.flatMap encI)) :
    Hld.Half R F (w2.setCell ⟨g, k * 6 + 3, none⟩ v2) base g cap (k + 1) pl := by
  obtain ⟨ql, cur, h1, h2, h3, h4, h5, h6, h7⟩ := ho
  have hk := (List.getElem?_eq_some_iff.1 hp).1
  have hq : ql[k]? = some p := by rw [h2 k (Nat.le_refl _)]; exact hp
  have hql : ql.length = pl.length := by have := congrArg List.length h1; simpa using this
  have hB := Box.ext hE h3
  refine ⟨ql.set k (p.1, v2), cur.set (k * 6 + 3) v2, ?_, fun i hi => ?_, hB.set _ _, by simpa using h4, ?_, fun i q hi hq2 => ?_, fun i j x y hij hx hy b hb1 hb2 => ?_⟩
  · rw [map_fst_set ql k p.1 v2 (by rw [List.getElem?_map, hq]; rfl)]; exact h1
  · rw [List.getElem?_set_ne (by omega)]; exact h2 i (by omega)
  · rw [take_set_lt, h5, flat_set Hld.enc 6 Hld.enc_len ql k 3 p (p.1, v2) v2 hq (by decide) rfl]
  · by_cases hik : k = i
    · subst hik
      rw [List.getElem?_set_self (by omega)] at hq2
      simp only [Option.some.injEq] at hq2
      subst hq2
      exact owns_boxset (owns_mono hv hb) hB hne _ _
    · rw [List.getElem?_set_ne hik] at hq2
      exact owns_boxset (hE.owns (h6 i q (by omega) hq2)) hB hne _ _
  · obtain ⟨x1, hx1, rfl⟩ := Hld.lens_get hx
    obtain ⟨y1, hy1, rfl⟩ := Hld.lens_get hy
    rw [List.getElem?_take] at hx1 hy1
    split at hx1
    case isFalse => cases hx1
    split at hy1
    case isFalse => cases hy1
    simp only at hb1 hb2
    have old : ∀ (i : Nat) (z : Hld × Value), i < k → ql[i]? = some z → ∀ b, z.2.ownBlock = some b → b < w.heap.size := fun i z hi hz b hb3 => ((h6 i z hi hz).lt b hb3).2
    have new : ∀ b, v2.ownBlock = some b → w.heap.size ≤ b := fun b hb3 => (hv.lt b hb3).1
    by_cases hik : k = i
    · subst hik
      rw [List.getElem?_set_self (by omega)] at hx1
      simp only [Option.some.injEq] at hx1
      subst hx1
      rw [List.getElem?_set_ne (by omega)] at hy1
      have := new b hb1
      have := old j y1 (by omega) hy1 b hb2
      omega
    · rw [List.getElem?_set_ne hik] at hx1
      by_cases hjk : k = j
      · subst hjk
        rw [List.getElem?_set_self (by omega)] at hy1
        simp only [Option.some.injEq] at hy1
        subst hy1
        have := new b hb2
        have := old i x1 (by omega) hx1 b hb1
        omega
      · rw [List.getElem?_set_ne hjk] at hy1
        exact h7 i j _ _ hij (Hld.lens_some (by rw [List.getElem?_take, if_pos (by omega)]; exact hx1)) (Hld.lens_some (by rw [List.getElem?_take, if_pos (by omega)]; exact hy1)) b hb1 hb2
theorem Hld.Half.done {R F : TypeId} {w : World} {base g cap : Nat} {pl : List (Hld × Value)} (ho : Hld.Half R F w base g cap pl.length pl) (hb : base ≤ g) (hn : pl.length ≤ cap) (hm : cap ≤ maxLen) : Hld.OwnX R F w base (pl.map Prod.fst) (.slice (some ⟨g, 0, none⟩) pl.length cap) := by
  obtain ⟨ql, cur, h1, h2, h3, h4, h5, h6, h7⟩ := ho
  have hql : ql.length = pl.length := by have := congrArg List.length h1; simpa using this
  rw [← hql, List.take_length] at h7
  refine ⟨ql, h1, ?_, fun p hp => ?_, h7⟩
  · rw [hql]
    exact owns_laid hb h3 hn hm h4 (by rw [flat_length Hld.enc 6 Hld.enc_len, hql]) h5
  · obtain ⟨i, hi, rfl⟩ := List.mem_iff_getElem.1 hp
    exact h6 i _ (by omega) (List.getElem?_eq_getElem hi)
/-- One more struct is appended. -/
theorem Hld.OwnX.push {R F : TypeId} (hne : F ≠ R) {w0 w w' : World} {base : Nat} {pl : List (Hld × Value)} {v v' v2 : Value} {r : Hld} (h2 : w0.ownsRow base R 6 v pl.length (pl.flatMap Hld.enc)) (h3 : ∀ p ∈ pl, w0.ownsRow base F 1 p.2 p.1.ss.length (p.1.ss.flatMap encI)) (h4 : Apart (Hld.lens pl))
    (hE : Ext w0 w) (G : w.grownBy w' v.ownBlock) (hv2 : w.ownsRow base F 1 v2 r.ss.length (r.ss.flatMap encI)) (hb2 : ∀ b, v2.ownBlock = some b → w0.heap.size ≤ b)
    (hr : w'.ownsRow base R 6 v' (pl.length + 1) (pl.flatMap Hld.enc ++ Hld.enc (r, v2))) : Hld.OwnX R F w' base (pl.map Prod.fst ++ [r]) v' := by
  have h2w := hE.owns h2
  have hkeep : ∀ {u : Value} {n : Nat} {xs : List Value}, w.ownsRow base F 1 u n xs → w'.ownsRow base F 1 u n xs := fun h => owns_grown G h (fun b hb he => by
    rcases h2w.2 with ⟨h5, _⟩ | ⟨g1, _, _, h5, _, hg1, _⟩
    · rw [h5] at he; cases he
    · rcases h.2 with ⟨h6, _⟩ | ⟨g2, _, _, h6, _, hg2, _⟩
      · rw [h6] at hb; cases hb
      · rw [h5] at he; rw [h6] at hb
        simp only [Value.ownBlock, Option.some.injEq] at he hb
        subst he hb
        rw [hg1] at hg2
        simp only [Option.some.injEq, Obj.cells.injEq] at hg2
        exact hne hg2.2.1.symm)
  have hA : ∀ p ∈ pl, ∀ b, p.2.ownBlock = some b → v2.ownBlock ≠ some b := fun p hp b hb1 hb3 => by
    have := ((h3 p hp).lt b hb1).2
    have := hb2 b hb3
    omega
  refine ⟨pl ++ [(r, v2)], by simp, ?_, fun p hp => ?_, fun i j x y hij hx hy b hb1 hb2 => ?_⟩
  · simpa using hr
  · rcases List.mem_append.1 hp with hp | hp
    · exact hkeep (hE.owns (h3 p hp))
    · simp only [List.mem_singleton] at hp; subst hp; exact hkeep hv2
  · obtain ⟨x1, hx1, rfl⟩ := Hld.lens_get hx
    obtain ⟨y1, hy1, rfl⟩ := Hld.lens_get hy
    simp only at hb1 hb2
    by_cases hi : i < pl.length
    · rw [List.getElem?_append_left hi] at hx1
      by_cases hj : j < pl.length
      · rw [List.getElem?_append_left hj] at hy1
        exact h4 i j _ _ hij (Hld.lens_some hx1) (Hld.lens_some hy1) b hb1 hb2
      · have hjn : j = pl.length := by have := (List.getElem?_eq_some_iff.1 hy1).1; simp at this; omega
        subst hjn
        rw [List.getElem?_append_right (Nat.le_refl _), Nat.sub_self] at hy1
        simp only [List.getElem?_cons_zero, Option.some.injEq] at hy1
        subst hy1
        exact hA x1 (List.mem_of_getElem? hx1) b hb1 hb2
    · have hin : i = pl.length := by have := (List.getElem?_eq_some_iff.1 hx1).1; simp at this; omega
      subst hin
      rw [List.getElem?_append_right (Nat.le_refl _), Nat.sub_self] at hx1
      simp only [List.getElem?_cons_zero, Option.some.injEq] at hx1
      subst hx1
      have hj : j < pl.length := by have := (List.getElem?_eq_some_iff.1 hy1).1; simp at this; omega
      rw [List.getElem?_append_left hj] at hy1
      exact hA y1 (List.mem_of_getElem? hy1) b hb2 hb1
/-- One field that is no slice is written. -/
theorem Hld.OwnX.field {R F : TypeId} (hne : F ≠ R) {w : World} {base g n cap : Nat} {l : List Hld} (ho : Hld.OwnX R F w base l (.slice (some ⟨g, 0, none⟩) n cap)) {k j : Nat} {r r' : Hld} (hr : l[k]? = some r) (hj : j < 6) {u : Value} (hu : ∀ v, Hld.enc (r', v) = (Hld.enc (r, v)).set j u) (hf : r'.ss = r.ss) :
    Hld.OwnX R F (w.setCell ⟨g, k * 6 + j, none⟩ u) base (l.set k r') (.slice (some ⟨g, 0, none⟩) n cap) := by
  obtain ⟨pl, rfl, h2, h3, h4⟩ := ho
  rw [List.getElem?_map] at hr
  cases hp : pl[k]? with
  | none => rw [hp] at hr; cases hr
  | some p =>
    rw [hp] at hr
    simp only [Option.map_some, Option.some.injEq] at hr
    subst hr
    rcases h2.2 with ⟨h5, _⟩ | ⟨g1, cap1, cur, hs, hbg, hg, hnc, hcm, hcs, htake⟩
    · cases h5
    · simp only [Value.slice.injEq, Option.some.injEq, Addr.mk.injEq, and_true] at hs
      obtain ⟨rfl, rfl, rfl⟩ := hs
      have hB : Box w g R cur.toList := by unfold Box; rw [Array.toArray_toList]; exact hg
      have hkl := (List.getElem?_eq_some_iff.1 hp).1
      refine ⟨pl.set k (r', p.2), ?_, ?_, fun q hq => ?_, ?_⟩
      · rw [List.map_set]
      · rw [List.length_set]
        refine owns_laid hbg (hB.set (k * 6 + j) u) hnc hcm (by rw [List.length_set, Array.length_toList, hcs]) (by rw [flat_length Hld.enc 6 Hld.enc_len, List.length_set]) ?_
        rw [take_set_lt, htake, flat_set Hld.enc 6 Hld.enc_len pl k j p (r', p.2) u hp hj (hu p.2)]
      · refine owns_boxset ?_ hB hne _ _
        obtain ⟨i, hi, rfl⟩ := List.mem_iff_getElem.1 hq
        rw [List.getElem_set]
        split
        · simp only [hf]; exact h3 p (List.mem_of_getElem? hp)
        · exact h3 _ (List.getElem_mem _)
      · have e : Hld.lens (pl.set k (r', p.2)) = Hld.lens pl := by
          unfold Hld.lens
          rw [List.map_set]
          apply List.ext_getElem?
          intro i
          rw [List.getElem?_set]
          by_cases hi : k = i
          · subst hi
            rw [List.length_map, if_pos rfl, if_pos hkl, List.getElem?_map, hp, hf]; rfl
          · rw [if_neg hi]
        rw [e]; exact h4

def Ver.lens (pl : List (Ver × Value)) : List (Nat × Value) := pl.map fun p => (p.1.rs.length, p.2)
theorem Ver.lens_get {pl : List (Ver × Value)} {i : Nat} {q : Nat × Value} (h : (Ver.lens pl)[i]? = some q) : ∃ p, pl[i]? = some p ∧ q = (p.1.rs.length, p.2) := by
  unfold Ver.lens at h
  rw [List.getElem?_map] at h
  cases hp : pl[i]? with
  | none => rw [hp] at h; cases h
  | some p => rw [hp] at h; exact ⟨p, rfl, by simpa using h.symm⟩
theorem Ver.lens_some {pl : List (Ver × Value)} {i : Nat} {p : Ver × Value} (h : pl[i]? = some p) : (Ver.lens pl)[i]? = some (p.1.rs.length, p.2) := by
  unfold Ver.lens; rw [List.getElem?_map, h]; rfl
theorem Ver.lens_sum (pl : List (Ver × Value)) : ((Ver.lens pl).map Prod.fst).sum = Ver.wt (pl.map Prod.fst) := by
  unfold Ver.lens Ver.wt; rw [List.map_map, List.map_map]; rfl
/-- A row of the call's own, each struct's slice too, no two of these in one block. -/
def Ver.OwnX (R F : TypeId) (w : World) (base : Nat) (l : List Ver) (v : Value) : Prop :=
  ∃ pl : List (Ver × Value), pl.map Prod.fst = l ∧ w.ownsRow base R 2 v pl.length (pl.flatMap Ver.enc) ∧ (∀ p ∈ pl, w.ownsRow base F 4 p.2 p.1.rs.length (p.1.rs.flatMap Rul.enc)) ∧ Apart (Ver.lens pl)
theorem Ver.OwnX.ext {R F : TypeId} {w w' : World} {base : Nat} {l : List Ver} {v : Value} (h : Ext w w') (ho : Ver.OwnX R F w base l v) : Ver.OwnX R F w' base l v := by
  obtain ⟨pl, h1, h2, h3, h4⟩ := ho
  exact ⟨pl, h1, h.owns h2, fun p hp => h.owns (h3 p hp), h4⟩
theorem Ver.OwnX.above {R F : TypeId} {w w' : World} {base lo2 hi2 : Nat} {l : List Ver} {v : Value} (h : Turned lo2 hi2 w w') (ho : Ver.OwnX R F w base l v) (hb : hi2 ≤ base) : Ver.OwnX R F w' base l v := by
  obtain ⟨pl, h1, h2, h3, h4⟩ := ho
  exact ⟨pl, h1, owns_above h h2 hb, fun p hp => owns_above h (h3 p hp) hb, h4⟩
theorem Ver.OwnX.rd {R F : TypeId} {w : World} {base : Nat} {l : List Ver} {v : Value} (ho : Ver.OwnX R F w base l v) : Ver.Rd w v l := by
  obtain ⟨pl, h1, h2, h3, _⟩ := ho
  exact ⟨pl, h1, Reads.of_owns h2, fun p hp => Reads.of_owns (h3 p hp)⟩
theorem Ver.OwnX.mono {R F : TypeId} {w : World} {base base' : Nat} {l : List Ver} {v : Value} (ho : Ver.OwnX R F w base l v) (hb : base' ≤ base) : Ver.OwnX R F w base' l v := by
  obtain ⟨pl, h1, h2, h3, h4⟩ := ho
  exact ⟨pl, h1, owns_mono h2 hb, fun p hp => owns_mono (h3 p hp) hb, h4⟩
theorem Ver.OwnX.nil (R F : TypeId) (w : World) (base : Nat) : Ver.OwnX R F w base [] (.slice none 0 0) :=
  ⟨[], rfl, World.ownsRow_nil w base R 2, fun p hp => by simp at hp, fun i j p q _ h => by simp [Ver.lens] at h⟩
theorem Ver.OwnX.addr {R F : TypeId} {w : World} {base : Nat} {l : List Ver} {v : Value} (ho : Ver.OwnX R F w base l v) (h0 : 0 < l.length) : ∃ g cap, v = .slice (some ⟨g, 0, none⟩) l.length cap ∧ base ≤ g := by
  obtain ⟨pl, rfl, h2, _⟩ := ho
  rw [List.length_map] at h0 ⊢
  rcases h2.2 with ⟨_, h5⟩ | ⟨g, cap, cur, hs, hbg, _⟩
  · omega
  · exact ⟨g, cap, hs, hbg⟩
theorem Ver.OwnX.cells {R F : TypeId} {w : World} {base g n cap : Nat} {l : List Ver} (ho : Ver.OwnX R F w base l (.slice (some ⟨g, 0, none⟩) n cap)) {k : Nat} {r : Ver} (hr : l[k]? = some r) :
    (∀ j, w.frozen? ⟨g, j, none⟩ = false) ∧ ∃ sv, Ver.At w (r, sv) ∧ ∀ j u, (Ver.enc (r, sv))[j]? = some u → w.cell? ⟨g, k * 2 + j, none⟩ = some u := by
  obtain ⟨pl, rfl, h2, h3, _⟩ := ho
  rw [List.getElem?_map] at hr
  cases hp : pl[k]? with
  | none => rw [hp] at hr; cases hr
  | some p =>
    rw [hp] at hr
    simp only [Option.map_some, Option.some.injEq] at hr
    subst hr
    rcases h2.2 with ⟨h5, _⟩ | ⟨g1, cap1, cur, hs, hbg, hg, _⟩
    · cases h5
    · simp only [Value.slice.injEq, Option.some.injEq, Addr.mk.injEq, and_true] at hs
      obtain ⟨rfl, rfl, rfl⟩ := hs
      refine ⟨fun j => frozen_of_row w g j cur R hg, p.2, Reads.of_owns (h3 p (List.mem_of_getElem? hp)), fun j u hu => ?_⟩
      have hf := flat_some (enc := Ver.enc) Ver.enc_len hp (j := j) (u := u) hu
      have hlt := (List.getElem?_eq_some_iff.1 hf).1
      rw [flat_length Ver.enc 2 Ver.enc_len] at hlt
      rw [h2.cellAt _ hlt]; exact hf
/-- The row while its slices are replaced by copies, one by one: the first k are done. -/
def Ver.Half (R F : TypeId) (w : World) (base g cap k : Nat) (pl : List (Ver × Value)) : Prop :=
  ∃ (ql : List (Ver × Value)) (cur : List Value), ql.map Prod.fst = pl.map Prod.fst ∧ (∀ i, k ≤ i → ql[i]? = pl[i]?) ∧ Box w g R cur ∧ cur.length = cap * 2 ∧ cur.take (pl.length * 2) = ql.flatMap Ver.enc ∧
    (∀ (i : Nat) (p : Ver × Value), i < k → ql[i]? = some p → w.ownsRow base F 4 p.2 p.1.rs.length (p.1.rs.flatMap Rul.enc)) ∧ Apart (Ver.lens (ql.take k))
theorem Ver.Half.start {R F : TypeId} {w : World} {base b g cap : Nat} {pl : List (Ver × Value)} (h : w.ownsRow b R 2 (.slice (some ⟨g, 0, none⟩) pl.length cap) pl.length (pl.flatMap Ver.enc)) : Ver.Half R F w base g cap 0 pl := by
  rcases h.2 with ⟨h1, _⟩ | ⟨g1, cap1, cur, hs, _, hg, _, _, hcs, htake⟩
  · cases h1
  · simp only [Value.slice.injEq, Option.some.injEq, Addr.mk.injEq, and_true, true_and] at hs
    obtain ⟨rfl, rfl⟩ := hs
    exact ⟨pl, cur.toList, rfl, fun _ _ => rfl, by unfold Box; rw [Array.toArray_toList]; exact hg, by rw [Array.length_toList, hcs], htake, fun i p hi => by omega, fun i j p q _ hi => by simp [Ver.lens] at hi⟩
theorem Ver.Half.ext {R F : TypeId} {w w' : World} {base g cap k : Nat} {pl : List (Ver × Value)} (h : Ext w w') (ho : Ver.Half R F w base g cap k pl) : Ver.Half R F w' base g cap k pl := by
  obtain ⟨ql, cur, h1, h2, h3, h4, h5, h6, h7⟩ := ho
  exact ⟨ql, cur, h1, h2, Box.ext h h3, h4, h5, fun i p hi hp => h.owns (h6 i p hi hp), h7⟩
theorem Ver.Half.at {R F : TypeId} {w : World} {base g cap k : Nat} {pl : List (Ver × Value)} (ho : Ver.Half R F w base g cap k pl) {p : Ver × Value} (hp : pl[k]? = some p) : w.cell? ⟨g, k * 2 + 1, none⟩ = some p.2 ∧ w.frozen? ⟨g, k * 2 + 1, none⟩ = false := by
  obtain ⟨ql, cur, h1, h2, h3, h4, h5, h6, h7⟩ := ho
  have hk := (List.getElem?_eq_some_iff.1 hp).1
  have hq : ql[k]? = some p := by rw [h2 k (Nat.le_refl _)]; exact hp
  have hu := flat_some (enc := Ver.enc) Ver.enc_len hq (j := 1) (u := p.2) rfl
  rw [← h5, List.getElem?_take, if_pos (by omega)] at hu
  exact ⟨h3.cell _ hu, h3.frozen _⟩
theorem Ver.Half.put {R F : TypeId} (hne : F ≠ R) {w w2 : World} {base g cap k : Nat} {pl : List (Ver × Value)} (ho : Ver.Half R F w base g cap k pl) (hb : base ≤ w.heap.size) (hE : Ext w w2) {p : Ver × Value} (hp : pl[k]? = some p) {v2 : Value} (hv : w2.ownsRow w.heap.size F 4 v2 p.1.rs.length (p.1.rs.flatMap Rul.enc)) :
    Ver.Half R F (w2.setCell ⟨g, k * 2 + 1, none⟩ v2) base g cap (k + 1) pl := by
  obtain ⟨ql, cur, h1, h2, h3, h4, h5, h6, h7⟩ := ho
  have hk := (List.getElem?_eq_some_iff.1 hp).1
  have hq : ql[k]? = some p := by rw [h2 k (Nat.le_refl _)]; exact hp
  have hql : ql.length = pl.length := by have := congrArg List.length h1; simpa using this
  have hB := Box.ext hE h3
  refine ⟨ql.set k (p.1, v2), cur.set (k * 2 + 1) v2, ?_, fun i hi => ?_, hB.set _ _, by simpa using h4, ?_, fun i q hi hq2 => ?_, fun i j x y hij hx hy b hb1 hb2 => ?_⟩
  · rw [map_fst_set ql k p.1 v2 (by rw [List.getElem?_map, hq]; rfl)]; exact h1
  · rw [List.getElem?_set_ne (by omega)]; exact h2 i (by omega)
  · rw [take_set_lt, h5, flat_set Ver.enc 2 Ver.enc_len ql k 1 p (p.1, v2) v2 hq (by decide) rfl]
  · by_cases hik : k = i
    · subst hik
      rw [List.getElem?_set_self (by omega)] at hq2
      simp only [Option.some.injEq] at hq2
      subst hq2
      exact owns_boxset (owns_mono hv hb) hB hne _ _
    · rw [List.getElem?_set_ne hik] at hq2
      exact owns_boxset (hE.owns (h6 i q (by omega) hq2)) hB hne _ _
  · obtain ⟨x1, hx1, rfl⟩ := Ver.lens_get hx
    obtain ⟨y1, hy1, rfl⟩ := Ver.lens_get hy
    rw [List.getElem?_take] at hx1 hy1
    split at hx1
    case isFalse => cases hx1
    split at hy1
    case isFalse => cases hy1
    simp only at hb1 hb2
    have old : ∀ (i : Nat) (z : Ver × Value), i < k → ql[i]? = some z → ∀ b, z.2.ownBlock = some b → b < w.heap.size := fun i z hi hz b hb3 => ((h6 i z hi hz).lt b hb3).2
    have new : ∀ b, v2.ownBlock = some b → w.heap.size ≤ b := fun b hb3 => (hv.lt b hb3).1
    by_cases hik : k = i
    · subst hik
      rw [List.getElem?_set_self (by omega)] at hx1
      simp only [Option.some.injEq] at hx1
      subst hx1
      rw [List.getElem?_set_ne (by omega)] at hy1
      have := new b hb1
      have := old j y1 (by omega) hy1 b hb2
      omega
    · rw [List.getElem?_set_ne hik] at hx1
      by_cases hjk : k = j
      · subst hjk
        rw [List.getElem?_set_self (by omega)] at hy1
        simp only [Option.some.injEq] at hy1
        subst hy1
        have := new b hb2
        have := old i x1 (by omega) hx1 b hb1
        omega
      · rw [List.getElem?_set_ne hjk] at hy1
        exact h7 i j _ _ hij (Ver.lens_some (by rw [List.getElem?_take, if_pos (by omega)]; exact hx1)) (Ver.lens_some (by rw [List.getElem?_take, if_pos (by omega)]; exact hy1)) b hb1 hb2
theorem Ver.Half.done {R F : TypeId} {w : World} {base g cap : Nat} {pl : List (Ver × Value)} (ho : Ver.Half R F w base g cap pl.length pl) (hb : base ≤ g) (hn : pl.length ≤ cap) (hm : cap ≤ maxLen) : Ver.OwnX R F w base (pl.map Prod.fst) (.slice (some ⟨g, 0, none⟩) pl.length cap) := by
  obtain ⟨ql, cur, h1, h2, h3, h4, h5, h6, h7⟩ := ho
  have hql : ql.length = pl.length := by have := congrArg List.length h1; simpa using this
  rw [← hql, List.take_length] at h7
  refine ⟨ql, h1, ?_, fun p hp => ?_, h7⟩
  · rw [hql]
    exact owns_laid hb h3 hn hm h4 (by rw [flat_length Ver.enc 2 Ver.enc_len, hql]) h5
  · obtain ⟨i, hi, rfl⟩ := List.mem_iff_getElem.1 hp
    exact h6 i _ (by omega) (List.getElem?_eq_getElem hi)
/-- One more struct is appended. -/
theorem Ver.OwnX.push {R F : TypeId} (hne : F ≠ R) {w0 w w' : World} {base : Nat} {pl : List (Ver × Value)} {v v' v2 : Value} {r : Ver} (h2 : w0.ownsRow base R 2 v pl.length (pl.flatMap Ver.enc)) (h3 : ∀ p ∈ pl, w0.ownsRow base F 4 p.2 p.1.rs.length (p.1.rs.flatMap Rul.enc)) (h4 : Apart (Ver.lens pl))
    (hE : Ext w0 w) (G : w.grownBy w' v.ownBlock) (hv2 : w.ownsRow base F 4 v2 r.rs.length (r.rs.flatMap Rul.enc)) (hb2 : ∀ b, v2.ownBlock = some b → w0.heap.size ≤ b)
    (hr : w'.ownsRow base R 2 v' (pl.length + 1) (pl.flatMap Ver.enc ++ Ver.enc (r, v2))) : Ver.OwnX R F w' base (pl.map Prod.fst ++ [r]) v' := by
  have h2w := hE.owns h2
  have hkeep : ∀ {u : Value} {n : Nat} {xs : List Value}, w.ownsRow base F 4 u n xs → w'.ownsRow base F 4 u n xs := fun h => owns_grown G h (fun b hb he => by
    rcases h2w.2 with ⟨h5, _⟩ | ⟨g1, _, _, h5, _, hg1, _⟩
    · rw [h5] at he; cases he
    · rcases h.2 with ⟨h6, _⟩ | ⟨g2, _, _, h6, _, hg2, _⟩
      · rw [h6] at hb; cases hb
      · rw [h5] at he; rw [h6] at hb
        simp only [Value.ownBlock, Option.some.injEq] at he hb
        subst he hb
        rw [hg1] at hg2
        simp only [Option.some.injEq, Obj.cells.injEq] at hg2
        exact hne hg2.2.1.symm)
  have hA : ∀ p ∈ pl, ∀ b, p.2.ownBlock = some b → v2.ownBlock ≠ some b := fun p hp b hb1 hb3 => by
    have := ((h3 p hp).lt b hb1).2
    have := hb2 b hb3
    omega
  refine ⟨pl ++ [(r, v2)], by simp, ?_, fun p hp => ?_, fun i j x y hij hx hy b hb1 hb2 => ?_⟩
  · simpa using hr
  · rcases List.mem_append.1 hp with hp | hp
    · exact hkeep (hE.owns (h3 p hp))
    · simp only [List.mem_singleton] at hp; subst hp; exact hkeep hv2
  · obtain ⟨x1, hx1, rfl⟩ := Ver.lens_get hx
    obtain ⟨y1, hy1, rfl⟩ := Ver.lens_get hy
    simp only at hb1 hb2
    by_cases hi : i < pl.length
    · rw [List.getElem?_append_left hi] at hx1
      by_cases hj : j < pl.length
      · rw [List.getElem?_append_left hj] at hy1
        exact h4 i j _ _ hij (Ver.lens_some hx1) (Ver.lens_some hy1) b hb1 hb2
      · have hjn : j = pl.length := by have := (List.getElem?_eq_some_iff.1 hy1).1; simp at this; omega
        subst hjn
        rw [List.getElem?_append_right (Nat.le_refl _), Nat.sub_self] at hy1
        simp only [List.getElem?_cons_zero, Option.some.injEq] at hy1
        subst hy1
        exact hA x1 (List.mem_of_getElem? hx1) b hb1 hb2
    · have hin : i = pl.length := by have := (List.getElem?_eq_some_iff.1 hx1).1; simp at this; omega
      subst hin
      rw [List.getElem?_append_right (Nat.le_refl _), Nat.sub_self] at hx1
      simp only [List.getElem?_cons_zero, Option.some.injEq] at hx1
      subst hx1
      have hj : j < pl.length := by have := (List.getElem?_eq_some_iff.1 hy1).1; simp at this; omega
      rw [List.getElem?_append_left hj] at hy1
      exact hA y1 (List.mem_of_getElem? hy1) b hb2 hb1
/-- One field that is no slice is written. -/
theorem Ver.OwnX.field {R F : TypeId} (hne : F ≠ R) {w : World} {base g n cap : Nat} {l : List Ver} (ho : Ver.OwnX R F w base l (.slice (some ⟨g, 0, none⟩) n cap)) {k j : Nat} {r r' : Ver} (hr : l[k]? = some r) (hj : j < 2) {u : Value} (hu : ∀ v, Ver.enc (r', v) = (Ver.enc (r, v)).set j u) (hf : r'.rs = r.rs) :
    Ver.OwnX R F (w.setCell ⟨g, k * 2 + j, none⟩ u) base (l.set k r') (.slice (some ⟨g, 0, none⟩) n cap) := by
  obtain ⟨pl, rfl, h2, h3, h4⟩ := ho
  rw [List.getElem?_map] at hr
  cases hp : pl[k]? with
  | none => rw [hp] at hr; cases hr
  | some p =>
    rw [hp] at hr
    simp only [Option.map_some, Option.some.injEq] at hr
    subst hr
    rcases h2.2 with ⟨h5, _⟩ | ⟨g1, cap1, cur, hs, hbg, hg, hnc, hcm, hcs, htake⟩
    · cases h5
    · simp only [Value.slice.injEq, Option.some.injEq, Addr.mk.injEq, and_true] at hs
      obtain ⟨rfl, rfl, rfl⟩ := hs
      have hB : Box w g R cur.toList := by unfold Box; rw [Array.toArray_toList]; exact hg
      have hkl := (List.getElem?_eq_some_iff.1 hp).1
      refine ⟨pl.set k (r', p.2), ?_, ?_, fun q hq => ?_, ?_⟩
      · rw [List.map_set]
      · rw [List.length_set]
        refine owns_laid hbg (hB.set (k * 2 + j) u) hnc hcm (by rw [List.length_set, Array.length_toList, hcs]) (by rw [flat_length Ver.enc 2 Ver.enc_len, List.length_set]) ?_
        rw [take_set_lt, htake, flat_set Ver.enc 2 Ver.enc_len pl k j p (r', p.2) u hp hj (hu p.2)]
      · refine owns_boxset ?_ hB hne _ _
        obtain ⟨i, hi, rfl⟩ := List.mem_iff_getElem.1 hq
        rw [List.getElem_set]
        split
        · simp only [hf]; exact h3 p (List.mem_of_getElem? hp)
        · exact h3 _ (List.getElem_mem _)
      · have e : Ver.lens (pl.set k (r', p.2)) = Ver.lens pl := by
          unfold Ver.lens
          rw [List.map_set]
          apply List.ext_getElem?
          intro i
          rw [List.getElem?_set]
          by_cases hi : k = i
          · subst hi
            rw [List.length_map, if_pos rfl, if_pos hkl, List.getElem?_map, hp, hf]; rfl
          · rw [if_neg hi]
        rw [e]; exact h4

end Go.Rd
