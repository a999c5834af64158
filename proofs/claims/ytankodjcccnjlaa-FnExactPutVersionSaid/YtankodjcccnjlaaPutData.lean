/- A number put to its place in a list, once; rising lists told by their members; without a program; no condition. -/
import Derived.Test.YtankodjcccnjlaaData
namespace Go.Rd
/-- How many of the first numbers are less. -/
def lessN (l : List Int) (n : Int) : Nat := (l.takeWhile fun x => decide (x < n)).length
def putI (l : List Int) (n : Int) : List Int := if l[lessN l n]? = some n then l else l.take (lessN l n) ++ [n] ++ l.drop (lessN l n)
theorem lessN_le (l : List Int) (n : Int) : lessN l n ≤ l.length := by
  unfold lessN; exact (List.takeWhile_sublist _).length_le
theorem lessN_at : ∀ (l : List Int) (n : Int) (k : Nat), k ≤ l.length → (∀ j x, j < k → l[j]? = some x → x < n) → (∀ x, l[k]? = some x → ¬ x < n) → lessN l n = k
  | [], n, k, hk, _, _ => by simp at hk; subst hk; rfl
  | y :: l, n, 0, _, _, h2 => by
    have := h2 y rfl
    simp [lessN, this]
  | y :: l, n, k + 1, hk, h1, h2 => by
    have hy := h1 0 y (by omega) rfl
    have := lessN_at l n k (by simpa using hk) (fun j x hj hx => h1 (j + 1) x (by omega) (by simpa using hx)) (fun x hx => h2 x (by simpa using hx))
    unfold lessN at this ⊢
    simp [hy, this]
/-- Strictly rising. -/
abbrev RiseI (l : List Int) : Prop := l.Pairwise (· < ·)
theorem rise_ext : ∀ {a b : List Int}, RiseI a → RiseI b → (∀ x, x ∈ a ↔ x ∈ b) → a = b
  | [], [], _, _, _ => rfl
  | [], y :: b, _, _, h => by have := (h y).2 List.mem_cons_self; cases this
  | x :: a, [], _, _, h => by have := (h x).1 List.mem_cons_self; cases this
  | x :: a, y :: b, ha, hb, h => by
    have ha' := List.pairwise_cons.1 ha
    have hb' := List.pairwise_cons.1 hb
    have hxy : x = y := by
      rcases List.mem_cons.1 ((h x).1 List.mem_cons_self) with h1 | h1
      · exact h1
      · rcases List.mem_cons.1 ((h y).2 List.mem_cons_self) with h2 | h2
        · exact h2.symm
        · have := hb'.1 x h1; have := ha'.1 y h2; omega
    subst hxy
    congr 1
    refine rise_ext ha'.2 hb'.2 fun z => ⟨fun hz => ?_, fun hz => ?_⟩
    · rcases List.mem_cons.1 ((h z).1 (List.mem_cons_of_mem _ hz)) with h1 | h1
      · have := ha'.1 z hz; omega
      · exact h1
    · rcases List.mem_cons.1 ((h z).2 (List.mem_cons_of_mem _ hz)) with h1 | h1
      · have := hb'.1 z hz; omega
      · exact h1
theorem putI_mem (l : List Int) (n x : Int) : x ∈ putI l n ↔ x = n ∨ x ∈ l := by
  unfold putI
  split
  · rename_i h
    exact ⟨.inr, fun h1 => h1.elim (fun h2 => by subst h2; exact List.mem_of_getElem? h) id⟩
  · simp only [List.mem_append, List.mem_singleton]
    conv => rhs; rw [← List.take_append_drop (lessN l n) l, List.mem_append]
    grind
theorem takeWhile_lt (l : List Int) (n : Int) : ∀ x ∈ l.take (lessN l n), x < n := by
  induction l with
  | nil => simp [lessN]
  | cons y l ih =>
    intro x hx
    unfold lessN at hx ih
    by_cases hy : y < n
    · simp only [List.takeWhile_cons, hy, decide_true, if_true, List.length_cons, List.take_succ_cons, List.mem_cons] at hx
      rcases hx with rfl | hx
      · exact hy
      · exact ih x hx
    · simp [hy] at hx
theorem dropWhile_ge {l : List Int} {n : Int} (h : RiseI l) : ∀ x ∈ l.drop (lessN l n), n ≤ x := by
  induction l with
  | nil => simp [lessN]
  | cons y l ih =>
    have h' := List.pairwise_cons.1 h
    intro x hx
    unfold lessN at hx ih
    by_cases hy : y < n
    · simp only [List.takeWhile_cons, hy, decide_true, if_true, List.length_cons, List.drop_succ_cons] at hx
      exact ih h'.2 x hx
    · simp only [List.takeWhile_cons, hy, decide_false, Bool.false_eq_true, if_false, List.length_nil, List.drop_zero, List.mem_cons] at hx
      rcases hx with rfl | hx
      · omega
      · have := h'.1 x hx; omega
theorem putI_rise {l : List Int} (n : Int) (h : RiseI l) : RiseI (putI l n) := by
  unfold putI
  split
  · exact h
  · rename_i hne
    have h1 := takeWhile_lt l n
    have h2 := dropWhile_ge (n := n) h
    have h3 : ∀ x ∈ l.drop (lessN l n), n < x := by
      intro x hx
      have := h2 x hx
      by_cases he : x = n
      · subst he
        exfalso
        apply hne
        cases hd : l.drop (lessN l x) with
        | nil => rw [hd] at hx; cases hx
        | cons z t =>
          have hz : l[lessN l x]? = some z := by
            have := List.getElem?_drop (xs := l) (i := lessN l x) (j := 0)
            rw [hd] at this; simpa using this.symm
          have hp : RiseI (z :: t) := hd ▸ h.sublist (List.drop_sublist _ _)
          have hp' := List.pairwise_cons.1 hp
          rw [hd] at hx h2
          rcases List.mem_cons.1 hx with h5 | h5
          · rw [hz, h5]
          · have := hp'.1 x h5; have := h2 z List.mem_cons_self; omega
      · omega
    rw [List.append_assoc]
    refine List.pairwise_append.2 ⟨h.sublist (List.take_sublist _ _), ?_, ?_⟩
    · exact List.pairwise_cons.2 ⟨h3, h.sublist (List.drop_sublist _ _)⟩
    · intro a ha b hb
      have := h1 a ha
      rcases List.mem_append.1 hb with h4 | h4
      · simp only [List.mem_singleton] at h4; omega
      · have := h3 b h4; omega
theorem putI_length (l : List Int) (n : Int) : (putI l n).length ≤ l.length + 1 := by
  unfold putI
  split
  · omega
  · have := lessN_le l n
    simp only [List.length_append, List.length_take, List.length_drop, List.length_singleton]; omega
theorem filter_map_rise {α : Type} (f : α → Int) (p : α → Bool) {l : List α} (h : RiseI (l.map f)) : RiseI ((l.filter p).map f) :=
  h.sublist (List.Sublist.map f List.filter_sublist)
end Go.Rd
