/- Rows of versions that are a call's own: one put between, one put in another's place; without a program; no condition. -/
import Derived.Test.YtankodjcccnjlaaOwnX
namespace Go.Rd
open Go.Sort Go.RowKit
def ApartP (p q : Nat × Value) : Prop := ∀ b, p.2.ownBlock = some b → q.2.ownBlock ≠ some b
theorem apartP_symm {p q : Nat × Value} (h : ApartP p q) : ApartP q p := fun b h1 h2 => h b h2 h1
theorem apart_iff {l : List (Nat × Value)} : Apart l ↔ l.Pairwise ApartP := by
  rw [List.pairwise_iff_getElem]
  constructor
  · intro h i j hi hj hij
    exact h i j _ _ (by omega) (List.getElem?_eq_getElem hi) (List.getElem?_eq_getElem hj)
  · intro h i j p q hij hp hq
    obtain ⟨hi, rfl⟩ := List.getElem?_eq_some_iff.1 hp
    obtain ⟨hj, rfl⟩ := List.getElem?_eq_some_iff.1 hq
    rcases Nat.lt_or_gt_of_ne hij with h1 | h1
    · exact h i j hi hj h1
    · exact apartP_symm (h j i hj hi h1)
theorem apart_ins {l : List (Nat × Value)} {x : Nat × Value} (k : Nat) (h : Apart l) (hx : ∀ p ∈ l, ApartP x p) : Apart (l.take k ++ [x] ++ l.drop k) := by
  rw [apart_iff] at h ⊢
  have hp : (l.take k ++ [x] ++ l.drop k).Perm (x :: l) := by
    have := List.perm_middle (a := x) (l₁ := l.take k) (l₂ := l.drop k)
    rw [List.take_append_drop] at this
    simpa using this
  exact (hp.pairwise_iff (fun h => apartP_symm h)).2 (List.pairwise_cons.2 ⟨hx, h⟩)
theorem apart_set {l : List (Nat × Value)} {x : Nat × Value} {k : Nat} (h : Apart l) (hx : ∀ p ∈ l, ApartP x p) : Apart (l.set k x) := by
  intro i j p q hij hp hq
  by_cases hi : k = i
  · subst hi
    rw [List.getElem?_set_ne hij] at hq
    have hkl := (List.getElem?_eq_some_iff.1 hp).1
    rw [List.length_set] at hkl
    rw [List.getElem?_set_self hkl] at hp
    simp only [Option.some.injEq] at hp
    subst hp
    exact hx q (List.mem_of_getElem? hq)
  · rw [List.getElem?_set_ne hi] at hp
    by_cases hj : k = j
    · subst hj
      have hkl := (List.getElem?_eq_some_iff.1 hq).1
      rw [List.length_set] at hkl
      rw [List.getElem?_set_self hkl] at hq
      simp only [Option.some.injEq] at hq
      subst hq
      exact apartP_symm (hx p (List.mem_of_getElem? hp))
    · rw [List.getElem?_set_ne hj] at hq
      exact h i j p q hij hp hq
theorem flat_takeV (l : List (Ver × Value)) (k : Nat) (hk : k ≤ l.length) : (l.flatMap Ver.enc).take (k * 2) = (l.take k).flatMap Ver.enc ∧ (l.flatMap Ver.enc).drop (k * 2) = (l.drop k).flatMap Ver.enc := by
  have hl : ((l.take k).flatMap Ver.enc).length = k * 2 := flat_take_length Ver.enc 2 Ver.enc_len l k hk
  have e : l.flatMap Ver.enc = (l.take k).flatMap Ver.enc ++ (l.drop k).flatMap Ver.enc := by rw [← List.flatMap_append, List.take_append_drop]
  constructor
  · rw [e, List.take_left' hl]
  · rw [e, List.drop_left' hl]
theorem Ver.lens_mem {pl : List (Ver × Value)} {q : Nat × Value} (h : q ∈ Ver.lens pl) : ∃ p ∈ pl, q = (p.1.rs.length, p.2) := by
  unfold Ver.lens at h
  obtain ⟨p, hp, rfl⟩ := List.mem_map.1 h
  exact ⟨p, hp, rfl⟩
/-- One more struct is put between. -/
theorem Ver.OwnX.ins {R F : TypeId} (hne : F ≠ R) {w w' : World} {base k : Nat} {pl : List (Ver × Value)} {v v' v2 : Value} {r : Ver} (h2 : w.ownsRow base R 2 v pl.length (pl.flatMap Ver.enc)) (h3 : ∀ p ∈ pl, w.ownsRow base F 4 p.2 p.1.rs.length (p.1.rs.flatMap Rul.enc)) (h4 : Apart (Ver.lens pl))
    (G : w.grownBy w' v.ownBlock) (hv2 : w.ownsRow base F 4 v2 r.rs.length (r.rs.flatMap Rul.enc)) (hb2 : ∀ p ∈ pl, ∀ b, v2.ownBlock = some b → p.2.ownBlock ≠ some b) (hk : k ≤ pl.length)
    (hr : w'.ownsRow base R 2 v' (pl.length + 1) ((pl.flatMap Ver.enc).take (k * 2) ++ (Ver.enc (r, v2) ++ (pl.flatMap Ver.enc).drop (k * 2)))) : Ver.OwnX R F w' base ((pl.map Prod.fst).take k ++ [r] ++ (pl.map Prod.fst).drop k) v' := by
  have hkeep : ∀ {u : Value} {n : Nat} {xs : List Value}, w.ownsRow base F 4 u n xs → w'.ownsRow base F 4 u n xs := fun h => owns_grown G h (fun b hb he => by
    rcases h2.2 with ⟨h5, _⟩ | ⟨g1, _, _, h5, _, hg1, _⟩
    · rw [h5] at he; cases he
    · rcases h.2 with ⟨h6, _⟩ | ⟨g2, _, _, h6, _, hg2, _⟩
      · rw [h6] at hb; cases hb
      · rw [h5] at he; rw [h6] at hb
        simp only [Value.ownBlock, Option.some.injEq] at he hb
        subst he hb
        rw [hg1] at hg2
        simp only [Option.some.injEq, Obj.cells.injEq] at hg2
        exact hne hg2.2.1.symm)
  obtain ⟨e1, e2⟩ := flat_takeV pl k hk
  refine ⟨pl.take k ++ [(r, v2)] ++ pl.drop k, by simp [List.map_take, List.map_drop], ?_, fun p hp => ?_, ?_⟩
  · have hl : (pl.take k ++ [(r, v2)] ++ pl.drop k).length = pl.length + 1 := by
      simp only [List.length_append, List.length_take, List.length_drop, List.length_singleton]; omega
    rw [hl, List.flatMap_append, List.flatMap_append, ← e1, ← e2]
    simpa using hr
  · rcases List.mem_append.1 hp with hp | hp
    · rcases List.mem_append.1 hp with hp | hp
      · exact hkeep (h3 p (List.mem_of_mem_take hp))
      · simp only [List.mem_singleton] at hp; subst hp; exact hkeep hv2
    · exact hkeep (h3 p (List.mem_of_mem_drop hp))
  · have e : Ver.lens (pl.take k ++ [(r, v2)] ++ pl.drop k) = (Ver.lens pl).take k ++ [(r.rs.length, v2)] ++ (Ver.lens pl).drop k := by
      unfold Ver.lens; simp [List.map_take, List.map_drop]
    rw [e]
    refine apart_ins k h4 fun q hq => ?_
    obtain ⟨p, hp, rfl⟩ := Ver.lens_mem hq
    exact hb2 p hp
/-- One struct takes another's place. -/
theorem Ver.OwnX.put0 {R F : TypeId} (hne : F ≠ R) {w : World} {base g n cap k : Nat} {pl : List (Ver × Value)} (h2 : w.ownsRow base R 2 (.slice (some ⟨g, 0, none⟩) n cap) pl.length (pl.flatMap Ver.enc)) (h3 : ∀ p ∈ pl, w.ownsRow base F 4 p.2 p.1.rs.length (p.1.rs.flatMap Rul.enc)) (h4 : Apart (Ver.lens pl)) (hk : k < pl.length) {r : Ver} {v2 : Value} (hv2 : w.ownsRow base F 4 v2 r.rs.length (r.rs.flatMap Rul.enc)) (hap : ∀ p ∈ pl, ∀ b, v2.ownBlock = some b → p.2.ownBlock ≠ some b) :
    Ver.OwnX R F ((w.setCell ⟨g, k * 2, none⟩ (.int .i64 r.fr)).setCell ⟨g, k * 2 + 1, none⟩ v2) base ((pl.map Prod.fst).set k r) (.slice (some ⟨g, 0, none⟩) n cap) := by
  rcases h2.2 with ⟨h5, _⟩ | ⟨g1, cap1, cur, hs, hbg, hg, hnc, hcm, hcs, htake⟩
  · cases h5
  · simp only [Value.slice.injEq, Option.some.injEq, Addr.mk.injEq, and_true] at hs
    obtain ⟨rfl, rfl, rfl⟩ := hs
    have hB : Box w g R cur.toList := by unfold Box; rw [Array.toArray_toList]; exact hg
    have hB1 := hB.set (k * 2) (.int .i64 r.fr)
    have hB2 := hB1.set (k * 2 + 1) v2
    have hp : pl[k]? = some pl[k] := List.getElem?_eq_getElem hk
    have hp1 : (pl.set k (⟨r.fr, pl[k].1.rs⟩, pl[k].2))[k]? = some (⟨r.fr, pl[k].1.rs⟩, pl[k].2) := List.getElem?_set_self hk
    have hf : (pl.set k (r, v2)).flatMap Ver.enc = ((pl.flatMap Ver.enc).set (k * 2) (.int .i64 r.fr)).set (k * 2 + 1) v2 := by
      have a1 := flat_set Ver.enc 2 Ver.enc_len pl k 0 pl[k] (⟨r.fr, pl[k].1.rs⟩, pl[k].2) (.int .i64 r.fr) hp (by decide) rfl
      have a2 := flat_set Ver.enc 2 Ver.enc_len _ k 1 _ (r, v2) v2 hp1 (by decide) rfl
      rw [List.set_set, a1, Nat.add_zero] at a2
      exact a2
    refine ⟨pl.set k (r, v2), by rw [List.map_set], ?_, fun q hq => ?_, ?_⟩
    · rw [List.length_set]
      refine owns_laid hbg hB2 hnc hcm (by rw [List.length_set, List.length_set, Array.length_toList, hcs]) (by rw [flat_length Ver.enc 2 Ver.enc_len, List.length_set]) ?_
      rw [take_set_lt, take_set_lt, htake, hf]
    · refine owns_boxset (owns_boxset ?_ hB hne _ _) hB1 hne _ _
      obtain ⟨i, hi, rfl⟩ := List.mem_iff_getElem.1 hq
      rw [List.getElem_set]
      split
      · exact hv2
      · exact h3 _ (List.getElem_mem _)
    · have e : Ver.lens (pl.set k (r, v2)) = (Ver.lens pl).set k (r.rs.length, v2) := by unfold Ver.lens; rw [List.map_set]
      rw [e]
      refine apart_set h4 fun q hq => ?_
      obtain ⟨p, hp, rfl⟩ := Ver.lens_mem hq
      exact hap p hp
end Go.Rd
