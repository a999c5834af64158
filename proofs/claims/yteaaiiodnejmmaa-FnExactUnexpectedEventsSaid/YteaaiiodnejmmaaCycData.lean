/- Cycles of triggers as plain functions; without a program; no condition. -/
import Derived.Test.YteaaiiodnejmmaaData
namespace Go.Rd
def follB (l : List Trig) (a b : Int) : Bool := l.any fun t => t.ev == a && t.af == b
/-- The first value of f from k on, m tries. -/
def someFrom {α : Type} (f : Int → Option α) : Nat → Int → Option α
  | 0, _ => none
  | m + 1, k => match f k with
    | some r => some r
    | none => someFrom f m (k + 1)
theorem someFrom_some {α : Type} {f : Int → Option α} {m : Nat} {k : Int} {r : α} (h : f k = some r) : someFrom f (m + 1) k = some r := by simp [someFrom, h]
theorem someFrom_none {α : Type} {f : Int → Option α} {m : Nat} {k : Int} (h : f k = none) : someFrom f (m + 1) k = someFrom f m (k + 1) := by simp [someFrom, h]
/-- The first cycle that goes on from a chain of kinds; n bounds how many kinds may be added. -/
def chainM : Nat → List Trig → List Int → Option (List Int)
  | 0, _, _ => none
  | n + 1, l, c =>
    if follB l (c.getLastD 0) (c.headD 0) = true then some c
    else someFrom (fun k => if (follB l (c.getLastD 0) k && !c.contains k) = true then chainM n l (c ++ [k]) else none) (9 - c.headD 0).toNat (c.headD 0 + 1)
/-- What is tried of one kind. -/
def stepK (n : Nat) (l : List Trig) (c : List Int) (k : Int) : Option (List Int) := if (follB l (c.getLastD 0) k && !c.contains k) = true then chainM n l (c ++ [k]) else none
theorem chainM_yes {n : Nat} {l : List Trig} {c : List Int} (h : follB l (c.getLastD 0) (c.headD 0) = true) : chainM (n + 1) l c = some c := by rw [chainM, if_pos h]
theorem chainM_no {n : Nat} {l : List Trig} {c : List Int} (h : follB l (c.getLastD 0) (c.headD 0) = false) : chainM (n + 1) l c = someFrom (stepK n l c) (9 - c.headD 0).toNat (c.headD 0 + 1) := by
  rw [chainM, if_neg (by rw [h]; exact Bool.false_ne_true)]; rfl
theorem stepK_skip {n : Nat} {l : List Trig} {c : List Int} {k : Int} (h : (follB l (c.getLastD 0) k && !c.contains k) = false) : stepK n l c k = none := by unfold stepK; rw [if_neg (by rw [h]; exact Bool.false_ne_true)]
theorem stepK_go {n : Nat} {l : List Trig} {c : List Int} {k : Int} (h : (follB l (c.getLastD 0) k && !c.contains k) = true) : stepK n l c k = chainM n l (c ++ [k]) := by unfold stepK; rw [if_pos h]
def firstCyc (l : List Trig) : Option (List Int) := someFrom (fun k => chainM 10 l [k]) 9 1
/-- How many kinds a chain may still be given. -/
def avail (c : List Int) : Nat := ((List.range 10).filter fun i : Nat => decide (1 ≤ i) && !c.contains (i : Int)).length
theorem filter_lt {α : Type} {p q : α → Bool} : ∀ {l : List α} {x : α}, x ∈ l → (∀ y, q y = true → p y = true) → p x = true → q x = false → (l.filter q).length < (l.filter p).length
  | y :: l, x, hx, hqp, hp, hq => by
    have hle : (l.filter q).length ≤ (l.filter p).length := by
      clear hx
      induction l with
      | nil => simp
      | cons z l ih =>
        cases hz : q z
        · cases hz2 : p z
          · simp [hz, hz2, ih]
          · simp [hz, hz2]; omega
        · simp [hz, hqp z hz, ih]
    rcases List.mem_cons.1 hx with rfl | hx
    · simp [hp, hq]; omega
    · have ih := filter_lt hx hqp hp hq
      cases hz : q y
      · cases hz2 : p y
        · simp [hz, hz2, ih]
        · simp [hz, hz2]; omega
      · simp [hz, hqp y hz, ih]
theorem avail_lt {c : List Int} {k : Int} (h1 : 1 ≤ k) (h9 : k ≤ 9) (hc : c.contains k = false) : avail (c ++ [k]) < avail c := by
  unfold avail
  obtain ⟨i, rfl⟩ : ∃ i : Nat, k = i := ⟨k.toNat, by omega⟩
  refine filter_lt (x := i) (List.mem_range.2 (by omega)) (fun y hy => ?_) ?_ ?_
  · simp only [Bool.and_eq_true, Bool.not_eq_true', List.contains_eq_mem, List.mem_append, decide_eq_true_eq, decide_eq_false_iff_not, not_or] at hy ⊢
    exact ⟨hy.1, hy.2.1⟩
  · rw [hc]; simp; omega
  · simp
theorem avail_le (c : List Int) : avail c ≤ 9 := by
  unfold avail
  have hl := filter_lt (p := fun _ => true) (q := fun i : Nat => decide (1 ≤ i) && !c.contains (i : Int)) (l := List.range 10) (x := 0) (by simp) (fun _ _ => rfl) rfl (by simp)
  have h2 : ((List.range 10).filter fun _ => true).length = 10 := by decide
  omega
theorem someFrom_congr {α : Type} {f g : Int → Option α} : ∀ {m : Nat} {a : Int}, (∀ k, a ≤ k → f k = g k) → someFrom f m a = someFrom g m a
  | 0, _, _ => rfl
  | m + 1, a, h => by
    rw [someFrom, someFrom, h a (Int.le_refl a), someFrom_congr (m := m) (a := a + 1) (fun k hk => h k (by omega))]
/-- One step of the reference's search: the kind k is tried. -/
def stepC (n : Nat) (l : List Trig) (c : List Int) (k : Int) : Option (List Int) :=
  if follB l (c.getLastD 0) k = true then (if (k == c.headD 0) = true then some c else if c.contains k = true then none else chainM n l (c ++ [k])) else none
theorem stepC_eq {n : Nat} {l : List Trig} {c : List Int} {k : Int} (h : c.headD 0 < k) : stepC n l c k = stepK n l c k := by
  have h0 : (k == c.headD 0) = false := beq_false_of_ne (by omega)
  unfold stepC stepK
  rw [h0]
  cases follB l (c.getLastD 0) k <;> cases c.contains k <;> rfl
theorem chainM_from {n : Nat} {l : List Trig} {c : List Int} (h : c.headD 0 ≤ 9) : chainM (n + 1) l c = someFrom (stepC n l c) (10 - c.headD 0).toNat (c.headD 0) := by
  have hm : (10 - c.headD 0).toNat = (9 - c.headD 0).toNat + 1 := by omega
  rw [hm]
  cases hf : follB l (c.getLastD 0) (c.headD 0)
  case true => rw [chainM_yes hf, someFrom_some (r := c)]; unfold stepC; rw [if_pos hf, if_pos (by simp)]
  case false =>
    rw [chainM_no hf, someFrom_none (by unfold stepC; rw [if_neg (by rw [hf]; exact Bool.false_ne_true)])]
    exact (someFrom_congr fun k hk => stepC_eq (by omega)).symm
theorem stepC_no {n : Nat} {l : List Trig} {c : List Int} {k la : Int} (hla : c.getLastD 0 = la) (h : follB l la k = false) : stepC n l c k = none := by
  subst hla; unfold stepC; rw [if_neg (by rw [h]; exact Bool.false_ne_true)]
theorem stepC_first {n : Nat} {l : List Trig} {c : List Int} {k la fi : Int} (hla : c.getLastD 0 = la) (hfi : c.headD 0 = fi) (h : follB l la k = true) (h2 : (k == fi) = true) : stepC n l c k = some c := by
  subst hla; subst hfi; unfold stepC; rw [if_pos h, if_pos h2]
theorem stepC_has {n : Nat} {l : List Trig} {c : List Int} {k fi : Int} (hfi : c.headD 0 = fi) (h2 : (k == fi) = false) (h3 : c.contains k = true) : stepC n l c k = none := by
  subst hfi; unfold stepC; rw [h2, h3]; cases follB l (c.getLastD 0) k <;> rfl
theorem stepC_go {n : Nat} {l : List Trig} {c : List Int} {k la fi : Int} (hla : c.getLastD 0 = la) (hfi : c.headD 0 = fi) (h : follB l la k = true) (h2 : (k == fi) = false) (h3 : c.contains k = false) : stepC n l c k = chainM n l (c ++ [k]) := by
  subst hla; subst hfi; unfold stepC; rw [if_pos h, h2, h3]; rfl
theorem someFrom_of {α : Type} {f : Int → Option α} {r : α} : ∀ {m : Nat} {a : Int}, someFrom f m a = some r → ∃ k, a ≤ k ∧ k < a + m ∧ f k = some r
  | 0, _, h => by simp [someFrom] at h
  | m + 1, a, h => by
    cases hf : f a with
    | some r' =>
      rw [someFrom_some hf] at h
      simp only [Option.some.injEq] at h
      exact ⟨a, Int.le_refl _, by omega, by rw [hf, h]⟩
    | none =>
      rw [someFrom_none hf] at h
      obtain ⟨k, h1, h2, h3⟩ := someFrom_of h
      exact ⟨k, by omega, by omega, h3⟩
theorem chainM_len : ∀ {n : Nat} {l : List Trig} {c r : List Int}, chainM n l c = some r → r.length ≤ c.length + n
  | 0, _, _, _, h => by simp [chainM] at h
  | n + 1, l, c, r, h => by
    cases hf : follB l (c.getLastD 0) (c.headD 0)
    case true =>
      rw [chainM_yes hf] at h
      simp only [Option.some.injEq] at h
      subst h; omega
    case false =>
      rw [chainM_no hf] at h
      obtain ⟨k, _, _, hk⟩ := someFrom_of h
      unfold stepK at hk
      split at hk
      · have := chainM_len hk
        simp only [List.length_append, List.length_cons, List.length_nil] at this
        omega
      · cases hk
def cycL (l : List Trig) : List Int := if goodT l = true then (firstCyc l).getD [] else []
def cycOk (l : List Trig) : Bool := goodT l && (firstCyc l).isSome
def hasCycB (l : List Trig) : Bool := goodT l && (firstCyc l).isSome
theorem cycL_length (l : List Trig) : (cycL l).length ≤ 1048576 := by
  unfold cycL
  split
  · cases h : firstCyc l with
    | none => simp
    | some r =>
      obtain ⟨k, _, _, hk⟩ := someFrom_of h
      have := chainM_len hk
      simp at this
      simp; omega
  · simp
end Go.Rd
