/- The series of a schedule and its contradictions as plain functions; without a program; no condition beyond the lists that are named. -/
import Derived.Test.YtefabcnifbnehaaDoorData
namespace Go.Rd
def addN (o : List Int) (x : Int) : List Int := if o.contains x = true then o else o ++ [x]
theorem addN_yes {o : List Int} {x : Int} (h : o.contains x = true) : addN o x = o := if_pos h
theorem addN_no {o : List Int} {x : Int} (h : o.contains x = false) : addN o x = o ++ [x] := if_neg (by rw [h]; exact Bool.false_ne_true)
theorem mem_addN {o : List Int} {x y : Int} : y ∈ addN o x ↔ y ∈ o ∨ y = x := by
  cases h : o.contains x
  · rw [addN_no h]; simp
  · rw [addN_yes h]
    have : x ∈ o := by simpa using h
    constructor
    · exact .inl
    · rintro (h | rfl)
      · exact h
      · exact this
theorem addN_length (o : List Int) (x : Int) : (addN o x).length ≤ o.length + 1 := by
  unfold addN; split <;> simp
theorem foldl_take_step {α β : Type} (f : β → α → β) (a : β) (l : List α) (k : Nat) (x : α) (h : l[k]? = some x) : (l.take (k + 1)).foldl f a = f ((l.take k).foldl f a) x := by
  rw [List.take_add_one, h, List.foldl_append]; rfl
theorem foldl_addN_length {α : Type} (f : List Int → α → List Int) (hf : ∀ o a, (f o a).length ≤ o.length + 1) : ∀ (l : List α) (o : List Int), (l.foldl f o).length ≤ o.length + l.length
  | [], o => by simp
  | a :: l, o => by
    have h1 := foldl_addN_length f hf l (f o a)
    have h2 := hf o a
    simp only [List.foldl_cons, List.length_cons]; omega
def sIn (l : List Rul) : List Int := l.foldl (fun o r => addN o r.se) []
theorem sIn_length (l : List Rul) : (sIn l).length ≤ l.length := by
  have := foldl_addN_length (fun (o : List Int) (r : Rul) => addN o r.se) (fun o r => addN_length o r.se) l []
  simpa [sIn] using this
theorem mem_foldl_addN {α : Type} (g : α → Int) (q : α → Bool) : ∀ (l : List α) (o : List Int) (y : Int), y ∈ l.foldl (fun o a => if q a = true then addN o (g a) else o) o ↔ y ∈ o ∨ ∃ a ∈ l, q a = true ∧ g a = y
  | [], o, y => by simp
  | a :: l, o, y => by
    rw [List.foldl_cons, mem_foldl_addN g q l]
    cases h : q a
    · simp [h]
    · simp only [if_true, mem_addN, List.mem_cons, exists_eq_or_imp, h, true_and]
      constructor
      · rintro ((h | h) | h)
        · exact .inl h
        · exact .inr (.inl h.symm)
        · exact .inr (.inr h)
      · rintro (h | h | h)
        · exact .inl (.inl h)
        · exact .inl (.inr h.symm)
        · exact .inr h
theorem sorted_foldl_addN {α : Type} (g : α → Int) (q : α → Bool) : ∀ (l : List α) (o : List Int), o.Pairwise (· < ·) → (∀ x ∈ o, ∀ a ∈ l, x ≤ g a) → l.Pairwise (fun a b => g a ≤ g b) → (l.foldl (fun o a => if q a = true then addN o (g a) else o) o).Pairwise (· < ·)
  | [], o, h, _, _ => h
  | a :: l, o, h, hle, hs => by
    rw [List.foldl_cons]
    obtain ⟨hs1, hs2⟩ := List.pairwise_cons.1 hs
    refine sorted_foldl_addN g q l _ ?_ ?_ hs2
    · cases hq : q a
      · simpa using h
      · simp only [if_true]
        cases hc : o.contains (g a)
        · rw [addN_no hc]
          refine List.pairwise_append.2 ⟨h, by simp, fun x hx y hy => ?_⟩
          have hy' : y = g a := by simpa using hy
          subst hy'
          have h1 := hle x hx a (List.mem_cons_self ..)
          have h2 : x ≠ g a := by
            rintro rfl
            have : o.contains (g a) = true := by simpa using hx
            rw [hc] at this; cases this
          omega
        · rw [addN_yes hc]; exact h
    · intro x hx b hb
      have hx' : x ∈ o ∨ x = g a := by
        cases hq : q a
        · rw [hq] at hx; exact .inl (by simpa using hx)
        · rw [hq] at hx; simp only [if_true] at hx; exact mem_addN.1 hx
      rcases hx' with hx' | rfl
      · exact hle x hx' b (List.mem_cons_of_mem _ hb)
      · exact hs1 b hb
theorem strict_ext : ∀ {l1 l2 : List Int}, l1.Pairwise (· < ·) → l2.Pairwise (· < ·) → (∀ x, x ∈ l1 ↔ x ∈ l2) → l1 = l2
  | [], [], _, _, _ => rfl
  | [], b :: l2, _, _, h => by have := (h b).2 (List.mem_cons_self ..); cases this
  | a :: l1, [], _, _, h => by have := (h a).1 (List.mem_cons_self ..); cases this
  | a :: l1, b :: l2, h1, h2, h => by
    obtain ⟨p1, q1⟩ := List.pairwise_cons.1 h1
    obtain ⟨p2, q2⟩ := List.pairwise_cons.1 h2
    have hab : a = b := by
      have ha := (h a).1 (List.mem_cons_self ..)
      have hb := (h b).2 (List.mem_cons_self ..)
      rcases List.mem_cons.1 ha with e | ha
      · exact e
      · rcases List.mem_cons.1 hb with e | hb
        · exact e.symm
        · have := p1 b hb; have := p2 a ha; omega
    subst hab
    rw [strict_ext q1 q2 fun x => ?_]
    constructor
    · intro hx
      rcases List.mem_cons.1 ((h x).1 (List.mem_cons_of_mem _ hx)) with rfl | hx'
      · have := p1 x hx; omega
      · exact hx'
    · intro hx
      rcases List.mem_cons.1 ((h x).2 (List.mem_cons_of_mem _ hx)) with rfl | hx'
      · have := p2 x hx; omega
      · exact hx'
theorem ascB_pairwise {α : Type} [Inhabited α] {ok : α → Bool} {lt : α → α → Bool} {l : List α} (h : ascB ok lt l = true) (tr : ∀ a b c, lt a b = true → lt b c = true → lt a c = true) : l.Pairwise (fun a b => lt a b = true) := by
  rw [List.pairwise_iff_getElem]
  have hs := ascB_spec h
  have step : ∀ (d i : Nat) (hi : i < l.length) (hj : i + d + 1 < l.length), lt l[i] l[i + d + 1] = true := by
    intro d
    induction d with
    | zero =>
      intro i hi hj
      have := (hs (i + 1) (by omega)).2 (by omega)
      simp only [Nat.add_sub_cancel, List.getD_eq_getElem?_getD] at this
      rw [List.getElem?_eq_getElem hi, List.getElem?_eq_getElem (by omega)] at this
      exact this
    | succ d ih =>
      intro i hi hj
      have h1 := ih i hi (by omega)
      have h2 := (hs (i + d + 1 + 1) (by omega)).2 (by omega)
      simp only [Nat.add_sub_cancel, List.getD_eq_getElem?_getD] at h2
      rw [List.getElem?_eq_getElem (by omega), List.getElem?_eq_getElem (by omega)] at h2
      exact tr _ _ _ h1 h2
  intro i j hi hj hij
  have := step (j - i - 1) i hi (by omega)
  have e : i + (j - i - 1) + 1 = j := by omega
  simp only [e] at this
  exact this
theorem ltR_trans (a b c : Rul) : ltR a b = true → ltR b c = true → ltR a c = true := by
  unfold ltR; simp; omega
theorem goodR_sorted {l : List Rul} (h : goodR l = true) : l.Pairwise (fun a b => a.se ≤ b.se) := by
  simp only [goodR, Bool.and_eq_true] at h
  refine (ascB_pairwise h.1 ltR_trans).imp fun {a b} hab => ?_
  simp [ltR] at hab; omega
/-- Is there a rule to keep, and one to destroy with the same days? -/
def contraS (sch : List Rul) (s : Int) : Bool := (forR sch s).any fun a => a.ac == 1 && (forR sch s).any fun b => b.ac == 3 && b.dy == a.dy
def pairQ (a b : Rul) : Bool := a.se == b.se && a.ac == 1 && b.ac == 3 && a.dy == b.dy
def contraL (sch : List Rul) : List Int := if goodR sch = true then (sIn sch).filter fun s => !(!contraS sch s) else []
/-- The reference's loops. -/
def contraF (sch : List Rul) : List Int := sch.foldl (fun o a => sch.foldl (fun o b => if (pairQ a b && !o.contains a.se) = true then o ++ [a.se] else o) o) []
theorem inner_eq (a : Rul) : ∀ (l : List Rul) (o : List Int), l.foldl (fun o b => if (pairQ a b && !o.contains a.se) = true then o ++ [a.se] else o) o = if (l.any (pairQ a)) = true then addN o a.se else o
  | [], o => by simp
  | b :: l, o => by
    rw [List.foldl_cons, inner_eq a l, List.any_cons]
    cases hp : pairQ a b
    · simp
    · simp only [Bool.true_and, Bool.true_or, if_true]
      cases hc : o.contains a.se
      · rw [addN_no hc]
        have h2 : (o ++ [a.se]).contains a.se = true := by simp
        simp only [Bool.not_false, if_true]
        split
        · exact addN_yes h2
        · rfl
      · rw [addN_yes hc]; simp only [Bool.not_true, Bool.false_eq_true, if_false]; split
        · exact addN_yes hc
        · rfl
theorem contra_eq {sch : List Rul} (h : goodR sch = true) : contraF sch = contraL sch := by
  have e : contraF sch = sch.foldl (fun o a => if (sch.any (pairQ a)) = true then addN o a.se else o) [] := by
    unfold contraF
    congr 1
    funext o a
    exact inner_eq a sch o
  rw [e, contraL, if_pos h]
  have hs := goodR_sorted h
  refine strict_ext (sorted_foldl_addN (fun a : Rul => a.se) (fun a => sch.any (pairQ a)) sch [] List.Pairwise.nil (by simp) hs) ?_ fun x => ?_
  · refine List.Pairwise.filter _ ?_
    have := sorted_foldl_addN (fun a : Rul => a.se) (fun _ => true) sch [] List.Pairwise.nil (by simp) hs
    simpa [sIn] using this
  · rw [mem_foldl_addN (fun a : Rul => a.se) (fun a => sch.any (pairQ a)), List.mem_filter]
    have hm := mem_foldl_addN (fun a : Rul => a.se) (fun _ => true) sch [] x
    have hm2 : x ∈ sIn sch ↔ ∃ a ∈ sch, a.se = x := by simpa [sIn] using hm
    rw [hm2]
    simp only [List.not_mem_nil, false_or, Bool.not_not, contraS, List.any_eq_true, forR, List.mem_filter, beq_iff_eq, Bool.and_eq_true, pairQ]
    constructor
    · rintro ⟨a, ha, ⟨b, hb, ⟨⟨h1, h2⟩, h3⟩, h4⟩, rfl⟩
      exact ⟨⟨a, ha, rfl⟩, a, ⟨ha, rfl⟩, h2, b, ⟨hb, h1.symm⟩, h3, h4.symm⟩
    · rintro ⟨_, a, ⟨ha, rfl⟩, h2, b, ⟨hb, h1⟩, h3, h4⟩
      exact ⟨a, ha, ⟨b, hb, ⟨⟨h1.symm, h2⟩, h3⟩, h4.symm⟩, rfl⟩
theorem contraL_length (sch : List Rul) : (contraL sch).length ≤ sch.length := by
  unfold contraL
  split
  · exact Nat.le_trans (List.length_filter_le _ _) (sIn_length sch)
  · simp
end Go.Rd
