/- A version put in its place, as a plain function; without a program; no condition. -/
import Derived.Test.YtankodjcccnjlaaVersData
import Derived.Test.YtankodjcccnjlaaNeedData
namespace Go.Rd
def putL (l : List Ver) (v : Ver) : List Ver := l.filter (fun x => decide (x.fr < v.fr)) ++ [v] ++ l.filter (fun x => decide (v.fr < x.fr))
def putO (l : List Ver) (v : Ver) : Option (List Ver) := if goodVs l = true ∧ goodVs (putL l v) = true then some (putL l v) else none
theorem putO_bad {l : List Ver} {v : Ver} (h : goodVs l = false) : putO l v = none := if_neg fun h' => by rw [h] at h'; exact Bool.false_ne_true h'.1
theorem putO_no {l : List Ver} {v : Ver} (h : goodVs (putL l v) = false) : putO l v = none := if_neg fun h' => by rw [h] at h'; exact Bool.false_ne_true h'.2
theorem putO_yes {l : List Ver} {v : Ver} (h1 : goodVs l = true) (h2 : goodVs (putL l v) = true) : putO l v = some (putL l v) := if_pos ⟨h1, h2⟩
theorem goodVs_one {v : Ver} (h : okV v = true) : goodVs [v] = true := by
  unfold goodVs
  rw [ascB_true (fun i hi => ?_)]
  · rfl
  · have : i = 0 := by simpa using hi
    subst this
    exact ascAt_zero (x := v) rfl h
theorem one_okV {v : Ver} (h : goodVs [v] = true) : okV v = true := goodVs_mem h (by simp)
theorem putL_one {l : List Ver} {v : Ver} (h : goodVs [v] = false) : goodVs (putL l v) = false := by
  cases hg : goodVs (putL l v)
  · rfl
  · have : okV v = true := goodVs_mem hg (by simp [putL])
    rw [goodVs_one this] at h; cases h
theorem goodVs_asc {l : List Ver} (h : goodVs l = true) {i j : Nat} {x y : Ver} (hx : l[i]? = some x) (hy : l[j]? = some y) (hij : i < j) : x.fr < y.fr := by
  have h1 : RiseI (l.map (·.fr)) := by
    refine rise_of_steps fun i x y hx hy => ?_
    rw [List.getElem?_map] at hx hy
    cases ha : l[i]? with
    | none => rw [ha] at hx; cases hx
    | some a =>
      cases hb : l[i + 1]? with
      | none => rw [hb] at hy; cases hy
      | some b =>
        rw [ha] at hx; rw [hb] at hy
        simp only [Option.map_some, Option.some.injEq] at hx hy
        simp only [goodVs, Bool.and_eq_true] at h
        have := (ascB_spec h.1 (i + 1) (List.getElem?_eq_some_iff.1 hb).1).2 (by omega)
        rw [List.getD_eq_getElem?_getD, List.getD_eq_getElem?_getD, Nat.add_sub_cancel, ha, hb] at this
        have := of_decide_eq_true this
        simp only [Option.getD_some] at this
        omega
  have h2 := List.pairwise_iff_getElem.1 h1
  have hi := (List.getElem?_eq_some_iff.1 hx)
  have hj := (List.getElem?_eq_some_iff.1 hy)
  have := h2 i j (by rw [List.length_map]; exact hi.1) (by rw [List.length_map]; exact hj.1) hij
  simp only [List.getElem_map] at this
  rw [hi.2, hj.2] at this; omega
theorem filter_take {α : Type} {p : α → Bool} : ∀ {l : List α} {k : Nat}, (∀ j x, j < k → l[j]? = some x → p x = true) → (∀ j x, k ≤ j → l[j]? = some x → p x = false) → l.filter p = l.take k
  | [], _, _, _ => by simp
  | a :: l, 0, _, h2 => by
    have h3 : ∀ x ∈ a :: l, ¬ p x = true := fun x hx => by
      obtain ⟨j, hj⟩ := List.mem_iff_getElem?.1 hx
      rw [h2 j x (Nat.zero_le _) hj]; exact Bool.false_ne_true
    rw [List.filter_eq_nil_iff.2 h3]; rfl
  | a :: l, k + 1, h1, h2 => by
    rw [List.filter_cons, if_pos (h1 0 a (by omega) rfl), List.take_succ_cons]
    rw [filter_take (l := l) (k := k) (fun j x hj hx => h1 (j + 1) x (by omega) (by simpa using hx)) (fun j x hj hx => h2 (j + 1) x (by omega) (by simpa using hx))]
theorem filter_drop {α : Type} {p : α → Bool} : ∀ {l : List α} {k : Nat}, (∀ j x, j < k → l[j]? = some x → p x = false) → (∀ j x, k ≤ j → l[j]? = some x → p x = true) → l.filter p = l.drop k
  | [], _, _, _ => by simp
  | a :: l, 0, _, h2 => by
    rw [List.drop_zero]
    refine List.filter_eq_self.2 fun x hx => ?_
    obtain ⟨j, hj⟩ := List.mem_iff_getElem?.1 hx
    exact h2 j x (Nat.zero_le _) hj
  | a :: l, k + 1, h1, h2 => by
    rw [List.filter_cons, if_neg (by rw [h1 0 a (by omega) rfl]; exact Bool.false_ne_true), List.drop_succ_cons]
    exact filter_drop (l := l) (k := k) (fun j x hj hx => h1 (j + 1) x (by omega) (by simpa using hx)) (fun j x hj hx => h2 (j + 1) x (by omega) (by simpa using hx))
/-- Where one version is from the same day, it is replaced. -/
theorem putL_found {l : List Ver} {v x : Ver} {k : Nat} (hg : goodVs l = true) (hk : l[k]? = some x) (he : x.fr = v.fr) : putL l v = l.set k v := by
  have hkl := (List.getElem?_eq_some_iff.1 hk).1
  unfold putL
  rw [filter_take (k := k) (fun j y hj hy => decide_eq_true (by have := goodVs_asc hg hy hk hj; omega)) (fun j y hj hy => decide_eq_false (by
      by_cases hjk : j = k
      · subst hjk; rw [hk] at hy; cases hy; omega
      · have := goodVs_asc hg hk hy (by omega); omega)),
    filter_drop (k := k + 1) (fun j y hj hy => decide_eq_false (by
      by_cases hjk : j = k
      · subst hjk; rw [hk] at hy; cases hy; omega
      · have := goodVs_asc hg hy hk (by omega); omega)) (fun j y hj hy => decide_eq_true (by have := goodVs_asc hg hk hy (by omega); omega)),
    List.set_eq_take_append_cons_drop, if_pos hkl]
  simp
/-- Else it is put between. -/
theorem putL_new {l : List Ver} {v : Ver} {k : Nat} (h1 : ∀ j x, j < k → l[j]? = some x → x.fr < v.fr) (h2 : ∀ j x, k ≤ j → l[j]? = some x → v.fr < x.fr) : putL l v = l.take k ++ [v] ++ l.drop k := by
  unfold putL
  rw [filter_take (k := k) (fun j y hj hy => decide_eq_true (h1 j y hj hy)) (fun j y hj hy => decide_eq_false (by have := h2 j y hj hy; omega)),
    filter_drop (k := k) (fun j y hj hy => decide_eq_false (by have := h1 j y hj hy; omega)) (fun j y hj hy => decide_eq_true (h2 j y hj hy))]
theorem putL_len (l : List Ver) (v : Ver) : (putL l v).length ≤ 2 * l.length + 1 := by
  unfold putL
  rw [List.length_append, List.length_append]
  have := List.length_filter_le (fun x : Ver => decide (x.fr < v.fr)) l
  have := List.length_filter_le (fun x : Ver => decide (v.fr < x.fr)) l
  simp only [List.length_singleton]; omega
theorem putL_mem {l : List Ver} {v x : Ver} (h : x ∈ putL l v) : x ∈ l ∨ x = v := by
  unfold putL at h
  rcases List.mem_append.1 h with h | h
  · rcases List.mem_append.1 h with h | h
    · exact .inl (List.mem_filter.1 h).1
    · exact .inr (by simpa using h)
  · exact .inl (List.mem_filter.1 h).1
end Go.Rd
