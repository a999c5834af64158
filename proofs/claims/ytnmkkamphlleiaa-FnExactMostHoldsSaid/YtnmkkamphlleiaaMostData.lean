/- The day with the most holds, by holds and by days; without a program; no condition. -/
import Derived.Test.YtnmkkamphlleiaaHoldTopData
namespace Go.Rd
def cntH (l : List Hld) (r : Rec) (d : Int) : Nat := (onL l r d).length
theorem cntH_eq (l : List Hld) (r : Rec) (d : Int) : cntH l r d = (l.filter fun h => cov h r d).length := by unfold cntH onL; rw [List.length_map]
theorem filter_le_mem {α : Type} {p q : α → Bool} : ∀ (l : List α), (∀ x ∈ l, q x = true → p x = true) → (l.filter q).length ≤ (l.filter p).length
  | [], _ => Nat.le_refl _
  | a :: l, h => by
    have ih := filter_le_mem l (fun x hx => h x (List.mem_cons_of_mem _ hx))
    have ha := h a List.mem_cons_self
    cases hq : q a <;> cases hp : p a <;> simp only [List.filter_cons, hq, hp, if_true, Bool.false_eq_true, if_false, List.length_cons]
    · exact ih
    · omega
    · exact absurd (ha hq) (by rw [hp]; exact Bool.false_ne_true)
    · omega
theorem exists_max : ∀ (l : List Hld), l ≠ [] → ∃ h ∈ l, ∀ x ∈ l, x.fr ≤ h.fr
  | [], h => absurd rfl h
  | [a], _ => ⟨a, List.mem_cons_self, fun x hx => by simp only [List.mem_singleton] at hx; rw [hx]; exact Int.le_refl _⟩
  | a :: b :: l, _ => by
    obtain ⟨h, hm, hh⟩ := exists_max (b :: l) (by simp)
    by_cases hc : h.fr ≤ a.fr
    · refine ⟨a, List.mem_cons_self, fun x hx => ?_⟩
      rcases List.mem_cons.1 hx with rfl | hx
      · exact Int.le_refl _
      · exact Int.le_trans (hh x hx) hc
    · refine ⟨h, List.mem_cons_of_mem _ hm, fun x hx => ?_⟩
      rcases List.mem_cons.1 hx with rfl | hx
      · omega
      · exact hh x hx
/-- A held day is matched by the first day of some hold, not after it. -/
theorem cntH_key {l : List Hld} {r : Rec} {e : Int} (h : 0 < cntH l r e) : ∃ x ∈ l, x.fr ≤ e ∧ cntH l r e ≤ cntH l r x.fr := by
  rw [cntH_eq] at h
  obtain ⟨x, hm, hx⟩ := exists_max (l.filter fun h => cov h r e) (by intro hn; rw [hn] at h; simp at h)
  obtain ⟨hml, hc⟩ := List.mem_filter.1 hm
  refine ⟨x, hml, (cov_parts hc).1, ?_⟩
  rw [cntH_eq, cntH_eq]
  refine filter_le_mem l fun y hy hyc => ?_
  have h1 := hx y (List.mem_filter.2 ⟨hy, hyc⟩)
  have h2 := (cov_parts hc).1
  exact cov_move hyc h1 (by rcases (cov_parts hyc).2 with h3 | h3; exact .inl h3; exact .inr (by omega))
/-- What is most among the days of a set: the number, the first such day. -/
def MostP (l : List Hld) (r : Rec) (S : Int → Prop) (m : Nat) (f : Int) : Prop :=
  (m = 0 ∧ f = 0 ∧ ∀ e, S e → cntH l r e = 0) ∨ (0 < m ∧ S f ∧ cntH l r f = m ∧ ∀ e, S e → cntH l r e ≤ m ∧ (cntH l r e = m → f ≤ e))
theorem MostP.unique {l : List Hld} {r : Rec} {S : Int → Prop} {m m' : Nat} {f f' : Int} (h : MostP l r S m f) (h' : MostP l r S m' f') : m = m' ∧ f = f' := by
  rcases h with ⟨h1, h2, h3⟩ | ⟨h1, h2, h3, h4⟩ <;> rcases h' with ⟨g1, g2, g3⟩ | ⟨g1, g2, g3, g4⟩
  · exact ⟨by omega, by omega⟩
  · have := h3 _ g2; omega
  · have := g3 _ h2; omega
  · have a := (h4 _ g2).1; have b := (g4 _ h2).1
    have hm : m = m' := by omega
    have c := (h4 _ g2).2 (by omega); have d := (g4 _ h2).2 (by omega)
    exact ⟨hm, by omega⟩
theorem MostP.none (l : List Hld) (r : Rec) {S : Int → Prop} (h : ∀ e, ¬ S e) : MostP l r S 0 0 := .inl ⟨rfl, rfl, fun e he => absurd he (h e)⟩
/-- One day more. -/
theorem MostP.step {l : List Hld} {r : Rec} {S S' : Int → Prop} {m : Nat} {f d : Int} (hS : ∀ e, S' e ↔ S e ∨ e = d) (h : MostP l r S m f) :
    ((m < cntH l r d ∨ (cntH l r d = m ∧ 0 < m ∧ d < f)) → MostP l r S' (cntH l r d) d) ∧ (¬ (m < cntH l r d ∨ (cntH l r d = m ∧ 0 < m ∧ d < f)) → MostP l r S' m f) := by
  rcases h with ⟨h1, h2, h3⟩ | ⟨h1, h2, h3, h4⟩
  · refine ⟨fun h => ?_, fun h => ?_⟩
    · refine .inr ⟨by omega, (hS d).2 (.inr rfl), rfl, fun e he => ?_⟩
      rcases (hS e).1 he with he | rfl
      · have := h3 e he; exact ⟨by omega, fun h => by omega⟩
      · exact ⟨Nat.le_refl _, fun _ => Int.le_refl _⟩
    · refine .inl ⟨h1, h2, fun e he => ?_⟩
      rcases (hS e).1 he with he | rfl
      · exact h3 e he
      · omega
  · refine ⟨fun h => ?_, fun h => ?_⟩
    · refine .inr ⟨by omega, (hS d).2 (.inr rfl), rfl, fun e he => ?_⟩
      rcases (hS e).1 he with he | rfl
      · have := h4 e he; exact ⟨by omega, fun h' => by have := this.2; omega⟩
      · exact ⟨Nat.le_refl _, fun _ => Int.le_refl _⟩
    · refine .inr ⟨h1, (hS f).2 (.inl h2), h3, fun e he => ?_⟩
      rcases (hS e).1 he with he | rfl
      · exact h4 e he
      · exact ⟨by omega, fun h' => by omega⟩
/-- The days of the reference are those on which a hold begins; they do as well as all days. -/
theorem MostP.all {l : List Hld} (hok : ∀ h ∈ l, okH h = true) {r : Rec} {m : Nat} {f : Int} (h : MostP l r (fun e => ∃ x ∈ l, x.fr = e) m f) : MostP l r (fun e => 0 ≤ e ∧ e < 20001) m f := by
  rcases h with ⟨h1, h2, h3⟩ | ⟨h1, ⟨x, hx, rfl⟩, h3, h4⟩
  · refine .inl ⟨h1, h2, fun e _ => ?_⟩
    by_cases h0 : 0 < cntH l r e
    · obtain ⟨y, hy, _, h5⟩ := cntH_key h0
      have := h3 _ ⟨y, hy, rfl⟩; omega
    · omega
  · have hp := (okH_parts (hok x hx)).2.1
    refine .inr ⟨h1, ⟨hp.1, by omega⟩, h3, fun e _ => ?_⟩
    by_cases h0 : 0 < cntH l r e
    · obtain ⟨y, hy, h6, h5⟩ := cntH_key h0
      have := h4 _ ⟨y, hy, rfl⟩
      exact ⟨by omega, fun h7 => by have := this.2 (by omega); omega⟩
    · exact ⟨by omega, fun h7 => by omega⟩
def mstep (l : List Hld) (r : Rec) (s : Nat × Int) (h : Hld) : Nat × Int :=
  if s.1 < cntH l r h.fr ∨ (cntH l r h.fr = s.1 ∧ 0 < s.1 ∧ h.fr < s.2) then (cntH l r h.fr, h.fr) else s
def mostF (l : List Hld) (r : Rec) (k : Nat) : Nat × Int := (l.take k).foldl (mstep l r) (0, 0)
theorem mostF_step {l : List Hld} {r : Rec} {k : Nat} {h : Hld} (hx : l[k]? = some h) : mostF l r (k + 1) = mstep l r (mostF l r k) h := by
  unfold mostF; rw [List.take_add_one, hx, List.foldl_append]; rfl
theorem mostF_good (l : List Hld) (r : Rec) : ∀ k, k ≤ l.length → MostP l r (fun e => ∃ x ∈ l.take k, x.fr = e) (mostF l r k).1 (mostF l r k).2
  | 0, _ => MostP.none l r (by simp)
  | k + 1, h => by
    obtain ⟨x, hx⟩ := get_of_lt (show k < l.length by omega)
    have ih := mostF_good l r k (by omega)
    have hS : ∀ e, (∃ y ∈ l.take (k + 1), y.fr = e) ↔ (∃ y ∈ l.take k, y.fr = e) ∨ e = x.fr := by
      intro e
      rw [List.take_add_one, hx]
      constructor
      · rintro ⟨y, hy, rfl⟩
        rcases List.mem_append.1 hy with hy | hy
        · exact .inl ⟨y, hy, rfl⟩
        · simp at hy; exact .inr (by rw [hy])
      · rintro (⟨y, hy, rfl⟩ | rfl)
        · exact ⟨y, List.mem_append.2 (.inl hy), rfl⟩
        · exact ⟨x, List.mem_append.2 (.inr (by simp)), rfl⟩
    have hs := ih.step hS
    rw [mostF_step hx, mstep]
    split
    · rename_i h1; exact hs.1 h1
    · rename_i h1; exact hs.2 h1
def mostOk (l : List Hld) (r : Rec) : Bool := askedH l r 0
/-- The greatest number and its first day; nothing where no day is held. -/
def mostO (l : List Hld) (r : Rec) : Nat × Int := if mostOk l r = true then mostF l r l.length else (0, 0)
theorem mostO_yes {l : List Hld} {r : Rec} (h : mostOk l r = true) : mostO l r = mostF l r l.length := if_pos h
theorem mostO_no {l : List Hld} {r : Rec} (h : mostOk l r = false) : mostO l r = (0, 0) := if_neg (by rw [h]; exact Bool.false_ne_true)
theorem mostF_days {l : List Hld} (hok : ∀ h ∈ l, okH h = true) {r : Rec} {m : Nat} {f : Int} (h : MostP l r (fun e => 0 ≤ e ∧ e < 20001) m f) : mostF l r l.length = (m, f) := by
  have h1 := mostF_good l r l.length (Nat.le_refl _)
  rw [List.take_length] at h1
  obtain ⟨a, b⟩ := MostP.unique (MostP.all hok h1) h
  exact Prod.ext a b
theorem mstep_yes {l : List Hld} {r : Rec} {s : Nat × Int} {h : Hld} (hc : s.1 < cntH l r h.fr ∨ (cntH l r h.fr = s.1 ∧ 0 < s.1 ∧ h.fr < s.2)) : mstep l r s h = (cntH l r h.fr, h.fr) := if_pos hc
theorem mstep_no {l : List Hld} {r : Rec} {s : Nat × Int} {h : Hld} (hc : ¬ (s.1 < cntH l r h.fr ∨ (cntH l r h.fr = s.1 ∧ 0 < s.1 ∧ h.fr < s.2))) : mstep l r s h = s := if_neg hc
theorem mostF_len (l : List Hld) (r : Rec) : ∀ k, k ≤ l.length → (mostF l r k).1 ≤ l.length
  | 0, _ => Nat.zero_le _
  | k + 1, h => by
    obtain ⟨x, hx⟩ := get_of_lt (show k < l.length by omega)
    have ih := mostF_len l r k (by omega)
    rw [mostF_step hx, mstep]
    split
    · exact onL_length l r x.fr
    · exact ih
end Go.Rd
