/- The layers of paths: the fold step by step, and rows of paths; without a program; no condition beyond what is named. -/
import Derived.Test.YtefabcnifbnehaaDoorPath
import Derived.Maps.AppendAt
namespace Go.Rd
open Go.Sort Go.RowKit
def candJ (l : List Fmt) (day : Int) (p : List Int) (j : Nat) : List (List Int) := ((l.take j).filter (leadB day (lastI p))).map fun f => p ++ [f.id]
def stJ (l : List Fmt) (day : Int) (p : List Int) (j : Nat) (s : List (List Int) × List Int) : List (List Int) × List Int := (candJ l day p j).foldl ddF s
theorem stJ_zero (l : List Fmt) (day : Int) (p : List Int) (s : List (List Int) × List Int) : stJ l day p 0 s = s := by simp [stJ, candJ]
theorem stJ_end {l : List Fmt} {day : Int} {p : List Int} {s : List (List Int) × List Int} {j : Nat} (h : l.length ≤ j) : stJ l day p j s = (candP l day p).foldl ddF s := by
  unfold stJ candJ candP; rw [List.take_of_length_le h]
theorem candJ_succ {l : List Fmt} {day : Int} {p : List Int} {j : Nat} {f : Fmt} (hf : l[j]? = some f) : candJ l day p (j + 1) = candJ l day p j ++ (if leadB day (lastI p) f = true then [p ++ [f.id]] else []) := by
  unfold candJ
  rw [List.take_add_one, hf, List.filter_append, List.map_append]
  congr 1
  simp only [Option.toList_some, List.filter_cons, List.filter_nil]
  split <;> simp
theorem stJ_skip {l : List Fmt} {day : Int} {p : List Int} {s : List (List Int) × List Int} {j : Nat} {f : Fmt} (hf : l[j]? = some f) (h : leadB day (lastI p) f = false) : stJ l day p (j + 1) s = stJ l day p j s := by
  unfold stJ; rw [candJ_succ hf, if_neg (by rw [h]; exact Bool.false_ne_true), List.append_nil]
theorem stJ_step {l : List Fmt} {day : Int} {p : List Int} {s : List (List Int) × List Int} {j : Nat} {f : Fmt} (hf : l[j]? = some f) (h : leadB day (lastI p) f = true) : stJ l day p (j + 1) s = ddF (stJ l day p j s) (p ++ [f.id]) := by
  unfold stJ; rw [candJ_succ hf, if_pos h, List.foldl_append]; rfl
theorem stJ_seen {l : List Fmt} {day : Int} {p : List Int} {s : List (List Int) × List Int} {j : Nat} {f : Fmt} (hf : l[j]? = some f) (h : (leadB day (lastI p) f && !(stJ l day p j s).2.contains f.id) = false) : stJ l day p (j + 1) s = stJ l day p j s := by
  cases hb : leadB day (lastI p) f
  · exact stJ_skip hf hb
  · rw [hb, Bool.true_and, Bool.not_eq_false'] at h
    rw [stJ_step hf hb, ddF, lastI_snoc, if_pos h]
theorem stJ_new {l : List Fmt} {day : Int} {p : List Int} {s : List (List Int) × List Int} {j : Nat} {f : Fmt} (hf : l[j]? = some f) (h : (leadB day (lastI p) f && !(stJ l day p j s).2.contains f.id) = true) :
    stJ l day p (j + 1) s = ((stJ l day p j s).1 ++ [p ++ [f.id]], (stJ l day p j s).2 ++ [f.id]) := by
  rw [Bool.and_eq_true, Bool.not_eq_true'] at h
  rw [stJ_step hf h.1, ddF, lastI_snoc, if_neg (by rw [h.2]; exact Bool.false_ne_true)]
def stK (l : List Fmt) (day : Int) (P : List (List Int)) (S : List Int) (k : Nat) : List (List Int) × List Int := ddL S (candL l day (P.take k))
theorem stK_zero (l : List Fmt) (day : Int) (P : List (List Int)) (S : List Int) : stK l day P S 0 = ([], S) := by simp [stK, ddL, candL]
theorem stK_succ {l : List Fmt} {day : Int} {P : List (List Int)} {S : List Int} {k : Nat} {p : List Int} (hp : P[k]? = some p) {j : Nat} (hj : l.length ≤ j) : stJ l day p j (stK l day P S k) = stK l day P S (k + 1) := by
  rw [stJ_end hj]
  unfold stK ddL candL
  rw [List.take_add_one, hp, List.flatMap_append, List.foldl_append]
  simp
theorem stK_end {l : List Fmt} {day : Int} {P : List (List Int)} {S : List Int} {k : Nat} (hk : P.length ≤ k) : stK l day P S k = ddL S (candL l day P) := by
  unfold stK; rw [List.take_of_length_le hk]
structure SeenOk (l : List Fmt) (s : List (List Int) × List Int) : Prop where
  nodup : s.2.Nodup
  sub : ∀ x ∈ s.2, x ∈ l.map (·.id)
  len : s.1.length ≤ s.2.length
theorem SeenOk.bound {l : List Fmt} {s : List (List Int) × List Int} (h : SeenOk l s) : s.2.length ≤ l.length := by
  have := List.Nodup.length_le_of_subset h.nodup h.sub
  simpa using this
theorem SeenOk.add {l : List Fmt} {s : List (List Int) × List Int} (h : SeenOk l s) {f : Fmt} (hf : f ∈ l) (hc : s.2.contains f.id = false) (c : List Int) : SeenOk l (s.1 ++ [c], s.2 ++ [f.id]) := by
  refine ⟨List.nodup_append.2 ⟨h.nodup, by simp, fun a ha b hb => ?_⟩, fun x hx => ?_, by have := h.len; simp; omega⟩
  · simp only [List.mem_singleton] at hb
    rintro rfl
    subst hb
    rw [List.contains_iff_mem.2 ha] at hc; cases hc
  · rcases List.mem_append.1 hx with h1 | h1
    · exact h.sub x h1
    · simp only [List.mem_singleton] at h1
      subst h1
      exact List.mem_map_of_mem hf
theorem Layer.seenOk {l : List Fmt} {day u : Int} {m : Nat} {P : List (List Int)} {S : List Int} (hid : 0 ≤ atF l u) (h : Layer l day u m P S) : SeenOk l ([], S) := by
  refine ⟨h.nodup, fun x hx => ?_, Nat.zero_le _⟩
  obtain ⟨k, _, p, hp⟩ := (h.seen x).1 hx
  obtain ⟨f, hf, rfl⟩ := wayTo_at hid (wayTo_path .start hp)
  exact List.mem_map_of_mem hf
theorem Layer.mlen {l : List Fmt} {day u : Int} {m : Nat} {P : List (List Int)} {S : List Int} (hid : 0 ≤ atF l u) (h : Layer l day u m P S) {p : List Int} (hp : p ∈ P) : p.length ≤ l.length ∧ 0 < p.length ∧ 0 ≤ atF l (lastI p) ∧ p[p.length - 1]? = some (lastI p) := by
  have h1 := (h.least p hp).1
  have h2 := short_len hid ⟨p, h1⟩ (h.fresh p hp)
  have h3 := waysL_length l u day
  have h4 := h1.len
  refine ⟨by omega, by omega, ?_, ?_⟩
  · obtain ⟨f, hf, he⟩ := wayTo_at hid (wayTo_path .start h1)
    rw [← he]
    exact atF_of_mem hf
  · rw [← List.getLast?_eq_getElem?, h1.last]
/-- A row of rows: the paths of a layer, each in a row of its own, none of them the row of 'seen'. -/
structure Lay (I R : TypeId) (w : World) (base ob : Nat) (out seen : Value) (pl : List (List Int × Value)) : Prop where
  row : w.ownsRow ob R 1 out pl.length (pl.map Prod.snd)
  paths : ∀ x ∈ pl, w.ownsRow base I 1 x.2 x.1.length (x.1.flatMap encI)
  apart : ∀ x ∈ pl, ∀ k, x.2.ownBlock = some k → seen.ownBlock ≠ some k
theorem owns_types {w : World} {b1 b2 : Nat} {e1 e2 : TypeId} {s1 s2 : Nat} {v1 v2 : Value} {n1 n2 : Nat} {x1 x2 : List Value} (h1 : w.ownsRow b1 e1 s1 v1 n1 x1) (h2 : w.ownsRow b2 e2 s2 v2 n2 x2) (he : e1 ≠ e2) : ∀ k, v1.ownBlock = some k → v2.ownBlock ≠ some k := by
  intro k hk hk2
  rcases h1.2 with ⟨rfl, _⟩ | ⟨g1, _, _, rfl, _, hg1, _⟩
  · cases hk
  · rcases h2.2 with ⟨rfl, _⟩ | ⟨g2, _, _, rfl, _, hg2, _⟩
    · cases hk2
    · simp only [Value.ownBlock, Option.some.injEq] at hk hk2
      subst hk hk2
      rw [hg1] at hg2
      simp only [Option.some.injEq, Obj.cells.injEq] at hg2
      exact he hg2.2.1
theorem Lay.ext {I R : TypeId} {w w' : World} {base ob : Nat} {out seen : Value} {pl : List (List Int × Value)} (h : Lay I R w base ob out seen pl) (E : Ext w w') : Lay I R w' base ob out seen pl :=
  ⟨E.owns h.row, fun x hx => E.owns (h.paths x hx), h.apart⟩
/-- 'seen' has grown. -/
theorem Lay.seen {I R : TypeId} (hIR : I ≠ R) {w w' : World} {base ob b2 : Nat} {out seen seen' : Value} {pl : List (List Int × Value)} {n : Nat} {xs : List Value} (h : Lay I R w base ob out seen pl) (hs : w.ownsRow b2 I 1 seen n xs) (G : w.grownBy w' seen.ownBlock)
    (hb : seen'.ownBlock = seen.ownBlock ∨ seen'.ownBlock = some w.heap.size) : Lay I R w' base ob out seen' pl := by
  refine ⟨owns_grown G h.row (owns_types h.row hs (Ne.symm hIR)), fun x hx => owns_grown G (h.paths x hx) (h.apart x hx), fun x hx k hk => ?_⟩
  rcases hb with hb | hb
  · rw [hb]; exact h.apart x hx k hk
  · rw [hb]
    have := ((h.paths x hx).lt k hk).2
    intro he
    simp only [Option.some.injEq] at he
    omega
/-- Another row of rows has grown. -/
theorem Lay.other {I R : TypeId} (hIR : I ≠ R) {w w' : World} {base ob b2 : Nat} {out seen nx : Value} {pl : List (List Int × Value)} {n : Nat} {xs : List Value} (h : Lay I R w base ob out seen pl) (hs : w.ownsRow b2 R 1 nx n xs) (G : w.grownBy w' nx.ownBlock)
    (hb : ∀ k, out.ownBlock = some k → nx.ownBlock ≠ some k) : Lay I R w' base ob out seen pl :=
  ⟨owns_grown G h.row hb, fun x hx => owns_grown G (h.paths x hx) (owns_types (h.paths x hx) hs hIR), h.apart⟩
/-- .. the row itself, by one path. -/
theorem Lay.push {I R : TypeId} (hIR : I ≠ R) {w w' : World} {base ob : Nat} {out out' seen v : Value} {pl : List (List Int × Value)} {p : List Int} (h : Lay I R w base ob out seen pl) (hp : w.ownsRow base I 1 v p.length (p.flatMap encI)) (ha : ∀ k, v.ownBlock = some k → seen.ownBlock ≠ some k)
    (G : w.grownBy w' out.ownBlock) (ho : w'.ownsRow ob R 1 out' (pl.length + 1) (pl.map Prod.snd ++ [v])) : Lay I R w' base ob out' seen (pl ++ [(p, v)]) := by
  refine ⟨by simpa using ho, fun x hx => ?_, fun x hx k hk => ?_⟩
  · rcases List.mem_append.1 hx with h1 | h1
    · exact owns_grown G (h.paths x h1) (owns_types (h.paths x h1) h.row hIR)
    · simp only [List.mem_singleton] at h1
      subst h1
      exact owns_grown G hp (owns_types hp h.row hIR)
  · rcases List.mem_append.1 hx with h1 | h1
    · exact h.apart x h1 k hk
    · simp only [List.mem_singleton] at h1
      subst h1
      exact ha k hk
theorem Lay.nil (I R : TypeId) (w : World) (base ob : Nat) (seen : Value) : Lay I R w base ob (.slice none 0 0) seen [] :=
  ⟨World.ownsRow_nil _ _ _ _, fun x hx => by simp at hx, fun x hx => by simp at hx⟩
theorem step_appG {P : Program} {ops : Array Oper} {o : Oper} {a : Act} {w : World} {K : Act → World → Prop} {Q : Exit → Act → World → Prop} {E : Prop} (base : Nat)
    (hg : o.guard = none) (s x : Operand) (t : TypeId) (ho : o.op = .call { callee := .builtin .append, args := #[s, x], argTypes := #[t, t] })
    (e : TypeId) (z : Value) (size bytes : Nat) (ht : P.underlying t = some (.slice e)) (hinfo : (P.info? e).map (fun i => (i.zero, i.size, i.bytes)) = some (some z, size, bytes))
    (hzs : z.cells.size = size) (hsz : 0 < size) (hby : bytes ≤ 1000)
    (v : Value) (n : Nat) (xs : List Value) (hs : a.eval s = v) (hown : w.ownsRow base e size v n xs) (hbase : base ≤ w.heap.size)
    (ad : Addr) (m c : Nat) (news : List Value) (hx : a.eval x = .slice (some ad) m c) (hl : news.length = m * size) (hnews : ∀ j u, news[j]? = some u → w.cell? (ad.add j) = some u) (h1 : ∀ u ∈ news, u.oneCell' = true)
    (hn : n + m ≤ 4194304)
    (hK : ∀ v' w', w'.ownsRow base e size v' (n + m) (xs ++ news) → w.grownBy w' v.ownBlock → (v'.ownBlock = v.ownBlock ∨ v'.ownBlock = some w.heap.size) → K (a.put o.dst v') w') :
    if Region.wanted o (yielded ops a.tmps) = true then Oper.wp P o a w K Q else E := by
  have hw : Region.wanted o (yielded ops a.tmps) = true := by simp [Region.wanted, hg]
  rw [if_pos hw]
  obtain ⟨i, hi, hz0, hz1, hz2⟩ := info_parts hinfo
  obtain ⟨v', w', hr, h2, h3, _, h5⟩ := run_append_own_at (P := P) w base t o.type e i z size bytes ht hi hz0 hz1 hz2 hzs hsz v n xs hown ad m c news hl hnews h1 (by unfold maxLen; omega) (by
    have : (n + m) * bytes ≤ 4194304 * 1000 := Nat.mul_le_mul hn hby
    omega) hbase
  unfold Oper.wp
  simp [execOp, ho, resolve, invoke, builtin, hs, hx, hr, Result.andThen]
  exact hK v' w' h2 h3 h5
end Go.Rd
