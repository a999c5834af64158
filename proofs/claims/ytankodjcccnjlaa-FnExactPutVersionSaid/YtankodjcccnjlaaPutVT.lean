/- A row of versions that is the call's own, its rules all below a mark; and where a version is put, told of the search; without a program; no condition. -/
import Derived.Test.YtankodjcccnjlaaPutVX
import Derived.Test.YtankodjcccnjlaaPutVData
namespace Go.Rd
open Go.Sort Go.RowKit
/-- .. each struct's slice below block number top. -/
def Ver.OwnT (R F : TypeId) (w : World) (base top : Nat) (l : List Ver) (v : Value) : Prop :=
  ∃ pl : List (Ver × Value), pl.map Prod.fst = l ∧ w.ownsRow base R 2 v pl.length (pl.flatMap Ver.enc) ∧ (∀ p ∈ pl, w.ownsRow base F 4 p.2 p.1.rs.length (p.1.rs.flatMap Rul.enc)) ∧ Apart (Ver.lens pl) ∧ ∀ p ∈ pl, ∀ b, p.2.ownBlock = some b → b < top
theorem Ver.OwnT.of {R F : TypeId} {w : World} {base : Nat} {l : List Ver} {v : Value} (ho : Ver.OwnX R F w base l v) : Ver.OwnT R F w base w.heap.size l v := by
  obtain ⟨pl, h1, h2, h3, h4⟩ := ho
  exact ⟨pl, h1, h2, h3, h4, fun p hp b hb => ((h3 p hp).lt b hb).2⟩
theorem Ver.OwnT.own {R F : TypeId} {w : World} {base top : Nat} {l : List Ver} {v : Value} (ho : Ver.OwnT R F w base top l v) : Ver.OwnX R F w base l v := by
  obtain ⟨pl, h1, h2, h3, h4, _⟩ := ho
  exact ⟨pl, h1, h2, h3, h4⟩
theorem Ver.OwnT.ext {R F : TypeId} {w w' : World} {base top : Nat} {l : List Ver} {v : Value} (h : Ext w w') (ho : Ver.OwnT R F w base top l v) : Ver.OwnT R F w' base top l v := by
  obtain ⟨pl, h1, h2, h3, h4, h5⟩ := ho
  exact ⟨pl, h1, h.owns h2, fun p hp => h.owns (h3 p hp), h4, h5⟩
theorem Ver.OwnT.mono {R F : TypeId} {w : World} {base base' top : Nat} {l : List Ver} {v : Value} (ho : Ver.OwnT R F w base top l v) (hb : base' ≤ base) : Ver.OwnT R F w base' top l v := by
  obtain ⟨pl, h1, h2, h3, h4, h5⟩ := ho
  exact ⟨pl, h1, owns_mono h2 hb, fun p hp => owns_mono (h3 p hp) hb, h4, h5⟩
/-- A block below is written. -/
theorem Ver.OwnT.under {R F : TypeId} {w : World} {base top : Nat} {l : List Ver} {v : Value} (ho : Ver.OwnT R F w base top l v) {p : Addr} (hp : p.block < base) (u : Value) : Ver.OwnT R F (w.setCell p u) base top l v := by
  obtain ⟨pl, h1, h2, h3, h4, h5⟩ := ho
  exact ⟨pl, h1, owns_setCell h2 hp u, fun q hq => owns_setCell (h3 q hq) hp u, h4, h5⟩
theorem Ver.OwnT.put {R F : TypeId} (hne : F ≠ R) {w : World} {base top g n cap k : Nat} {l : List Ver} (ho : Ver.OwnT R F w base top l (.slice (some ⟨g, 0, none⟩) n cap)) (hk : k < l.length) {r : Ver} {v2 : Value} (hv2 : w.ownsRow top F 4 v2 r.rs.length (r.rs.flatMap Rul.enc)) (hb : base ≤ top) :
    Ver.OwnX R F ((w.setCell ⟨g, k * 2, none⟩ (.int .i64 r.fr)).setCell ⟨g, k * 2 + 1, none⟩ v2) base (l.set k r) (.slice (some ⟨g, 0, none⟩) n cap) := by
  obtain ⟨pl, rfl, h2, h3, h4, h5⟩ := ho
  rw [List.length_map] at hk
  exact Ver.OwnX.put0 hne h2 h3 h4 hk (owns_mono hv2 hb) (fun p hp b hb1 hb2 => by
    have := h5 p hp b hb2
    have := (hv2.lt b hb1).1
    omega)
theorem any_some {α : Type} {o : Option α} {p : α → Bool} (h : o.any p = true) : ∃ x, o = some x ∧ p x = true := by
  cases o with
  | none => cases h
  | some x => exact ⟨x, rfl, h⟩
theorem putL_miss {l : List Ver} {r : Ver} {k : Nat} (hg : goodVs l = true) (h1 : ∀ (j : Nat) x, j < k → l[j]? = some x → x.fr < r.fr) (h2 : ∀ (j : Nat) x, k ≤ j → l[j]? = some x → r.fr ≤ x.fr) (hf : ((l[k]?).any fun x => x.fr == r.fr) = false) : putL l r = l.take k ++ [r] ++ l.drop k := by
  refine putL_new h1 fun j x hj hx => ?_
  have h3 := h2 j x hj hx
  by_cases hjk : j = k
  · subst hjk
    rw [hx, Option.any_some] at hf
    have := beq_eq_false_iff_ne.1 hf
    omega
  · obtain ⟨y, hy⟩ := get_of_lt (show k < l.length by have := (List.getElem?_eq_some_iff.1 hx).1; omega)
    have := goodVs_asc hg hy hx (by omega)
    have := h2 k y (Nat.le_refl _) hy
    omega
theorem putL_hit {l : List Ver} {r : Ver} {k : Nat} (hg : goodVs l = true) (hf : ((l[k]?).any fun x => x.fr == r.fr) = true) : k < l.length ∧ putL l r = l.set k r := by
  obtain ⟨x, hx, he⟩ := any_some hf
  exact ⟨(List.getElem?_eq_some_iff.1 hx).1, putL_found hg hx (by simpa using he)⟩
theorem wt_le : ∀ {l : List Ver}, (∀ x ∈ l, x.rs.length ≤ 8) → Ver.wt l ≤ 8 * l.length
  | [], _ => by simp [Ver.wt]
  | a :: l, h => by
    have h1 := h a (by simp)
    have h2 := wt_le (l := l) fun x hx => h x (by simp [hx])
    unfold Ver.wt at h2 ⊢
    rw [List.map_cons, List.sum_cons, List.length_cons]; omega
theorem putO_bound (l : List Ver) (r : Ver) : ((putO l r).getD []).length + Ver.wt ((putO l r).getD []) ≤ 45 := by
  unfold putO
  split
  · next h =>
    have h1 := goodVs_len h.2
    have h2 := wt_le (l := putL l r) fun x hx => by
      have := (okV_parts (goodVs_mem h.2 hx)).2
      simp only [goodR, Bool.and_eq_true, decide_eq_true_eq] at this
      exact this.2
    simp only [Option.getD_some]; omega
  · simp [Ver.wt]
end Go.Rd
