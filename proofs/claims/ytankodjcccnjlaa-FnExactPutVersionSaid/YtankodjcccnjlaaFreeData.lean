/- The first day without a hold, by days and by holds; without a program; no condition. -/
import Derived.Test.YtankodjcccnjlaaHoldData
namespace Go.Rd
/-- Some hold of the list covers the record on the day. -/
def heldB (l : List Hld) (r : Rec) (d : Int) : Bool := l.any fun h => cov h r d
theorem heldB_on (l : List Hld) (r : Rec) (d : Int) : decide ((onL l r d).length = 0) = !heldB l r d := by
  unfold onL heldB
  rw [List.length_map]
  induction l with
  | nil => rfl
  | cons a l ih => cases h : cov a r d <;> simp [h]; simpa using ih
/-- The first of n days from d on without a hold. -/
def freeI (l : List Hld) (r : Rec) : Nat → Int → Option Int
  | 0, _ => none
  | n + 1, d => if heldB l r d = true then freeI l r n (d + 1) else some d
def freeO (l : List Hld) (r : Rec) (d : Int) : Option Int := freeI l r (20001 - d).toNat d
theorem freeO_end {l : List Hld} {r : Rec} {d : Int} (h : 20000 < d) : freeO l r d = none := by
  unfold freeO; rw [show (20001 - d).toNat = 0 by omega]; rfl
theorem freeO_held {l : List Hld} {r : Rec} {d : Int} (h : d ≤ 20000) (hh : heldB l r d = true) : freeO l r d = freeO l r (d + 1) := by
  unfold freeO; rw [show (20001 - d).toNat = (20001 - (d + 1)).toNat + 1 by omega]
  rw [freeI, if_pos hh]
theorem freeO_free {l : List Hld} {r : Rec} {d : Int} (h : d ≤ 20000) (hh : heldB l r d = false) : freeO l r d = some d := by
  unfold freeO; rw [show (20001 - d).toNat = (20001 - (d + 1)).toNat + 1 by omega]
  rw [freeI, if_neg (by rw [hh]; exact Bool.false_ne_true)]
/-- Past days that are all held. -/
theorem freeO_past {l : List Hld} {r : Rec} : ∀ (n : Nat) (d : Int), d + n ≤ 20001 → (∀ e, d ≤ e → e < d + n → heldB l r e = true) → freeO l r d = freeO l r (d + n)
  | 0, d, _, _ => by simp
  | n + 1, d, h, hh => by
    rw [freeO_held (by omega) (hh d (by omega) (by omega)), freeO_past n (d + 1) (by omega) (fun e h1 h2 => hh e (by omega) (by omega))]
    congr 1; omega
theorem freeO_some {l : List Hld} {r : Rec} {d c : Int} (hd : d ≤ c) (hc : c ≤ 20000) (hh : ∀ e, d ≤ e → e < c → heldB l r e = true) (hf : heldB l r c = false) : freeO l r d = some c := by
  have := freeO_past (l := l) (r := r) (c - d).toNat d (by omega) (fun e h1 h2 => hh e h1 (by omega))
  rw [this, show d + ((c - d).toNat : Int) = c by omega]
  exact freeO_free hc hf
theorem freeO_none {l : List Hld} {r : Rec} {d : Int} (hd : d ≤ 20001) (hh : ∀ e, d ≤ e → e ≤ 20000 → heldB l r e = true) : freeO l r d = none := by
  have := freeO_past (l := l) (r := r) (20001 - d).toNat d (by omega) (fun e h1 h2 => hh e h1 (by omega))
  rw [this, show d + ((20001 - d).toNat : Int) = 20001 by omega]
  exact freeO_end (by omega)
/-- One hold's move of the day; none where it is open. -/
def fstep (r : Rec) (s : Option Int) (h : Hld) : Option Int :=
  match s with
  | none => none
  | some d => if cov h r d = true then (if (h.un == -1) = true then none else some h.un) else some d
def fpass (l : List Hld) (r : Rec) (s : Option Int) : Option Int := l.foldl (fstep r) s
def fpasses (l : List Hld) (r : Rec) : Nat → Option Int → Option Int
  | 0, s => s
  | n + 1, s => fpasses l r n (fpass l r s)
theorem fpass_none (l : List Hld) (r : Rec) : fpass l r none = none := by
  unfold fpass; induction l with
  | nil => rfl
  | cons a l ih => exact ih
theorem fpasses_none (l : List Hld) (r : Rec) (n : Nat) : fpasses l r n none = none := by
  induction n with
  | zero => rfl
  | succ n ih => rw [fpasses, fpass_none, ih]
theorem cov_parts {h : Hld} {r : Rec} {d : Int} (hc : cov h r d = true) : h.fr ≤ d ∧ (h.un = -1 ∨ d < h.un) := by
  simp only [cov, Bool.and_eq_true, Bool.or_eq_true, decide_eq_true_eq, beq_iff_eq] at hc
  exact ⟨hc.1.1.1, hc.1.1.2⟩
theorem cov_move {h : Hld} {r : Rec} {d e : Int} (hc : cov h r d = true) (h1 : h.fr ≤ e) (h2 : h.un = -1 ∨ e < h.un) : cov h r e = true := by
  simp only [cov, Bool.and_eq_true, Bool.or_eq_true, decide_eq_true_eq, beq_iff_eq] at hc ⊢
  exact ⟨⟨⟨h1, h2⟩, hc.1.2⟩, hc.2⟩
theorem held_of {l : List Hld} {r : Rec} {d : Int} {h : Hld} (hm : h ∈ l) (hc : cov h r d = true) : heldB l r d = true := List.any_eq_true.2 ⟨h, hm, hc⟩
/-- What the passes keep: all days from d on to where the day stands are held. -/
def FGood (l : List Hld) (r : Rec) (d : Int) (s : Option Int) : Prop :=
  match s with
  | none => ∀ e, d ≤ e → e ≤ 20000 → heldB l r e = true
  | some c => d ≤ c ∧ c ≤ 20000 ∧ ∀ e, d ≤ e → e < c → heldB l r e = true
theorem fstep_good {l : List Hld} (hok : ∀ h ∈ l, okH h = true) {r : Rec} {d : Int} {s : Option Int} {h : Hld} (hm : h ∈ l) (hs : FGood l r d s) : FGood l r d (fstep r s h) := by
  cases s with
  | none => exact hs
  | some c =>
    obtain ⟨h1, h2, h3⟩ := hs
    have hp := (okH_parts (hok h hm)).2.2.1
    cases hc : cov h r c with
    | false => simp only [fstep, hc, Bool.false_eq_true, if_false]; exact ⟨h1, h2, h3⟩
    | true =>
      obtain ⟨p1, p2⟩ := cov_parts hc
      cases hu : (h.un == -1) with
      | true =>
        simp only [fstep, hc, hu, if_true]
        intro e e1 e2
        by_cases h4 : e < c
        · exact h3 e e1 h4
        · exact held_of hm (cov_move hc (by omega) (.inl (by simpa using hu)))
      | false =>
        simp only [fstep, hc, hu, if_true, Bool.false_eq_true, if_false]
        have hun : h.un ≠ -1 := by simpa using hu
        refine ⟨by omega, by omega, fun e e1 e2 => ?_⟩
        by_cases h4 : e < c
        · exact h3 e e1 h4
        · exact held_of hm (cov_move hc (by omega) (.inr e2))
theorem fpass_good {l : List Hld} (hok : ∀ h ∈ l, okH h = true) {r : Rec} {d : Int} : ∀ (t : List Hld), (∀ h ∈ t, h ∈ l) → ∀ s, FGood l r d s → FGood l r d (t.foldl (fstep r) s)
  | [], _, _, hs => hs
  | a :: t, ht, _, hs => fpass_good hok t (fun h hm => ht h (List.mem_cons_of_mem _ hm)) _ (fstep_good hok (ht a List.mem_cons_self) hs)
theorem fpasses_good {l : List Hld} (hok : ∀ h ∈ l, okH h = true) {r : Rec} {d : Int} : ∀ (n : Nat) (s : Option Int), FGood l r d s → FGood l r d (fpasses l r n s)
  | 0, _, hs => hs
  | n + 1, _, hs => fpasses_good hok n _ (fpass_good hok l (fun _ h => h) _ hs)
/-- The holds that may still move the day. -/
def alive (c : Int) (h : Hld) : Bool := h.un == -1 || decide (c < h.un)
def aliveN (l : List Hld) (c : Int) : Nat := (l.filter (alive c)).length
theorem alive_mono {c e : Int} (h : c ≤ e) {x : Hld} (hx : alive e x = true) : alive c x = true := by
  simp only [alive, Bool.or_eq_true, decide_eq_true_eq] at hx ⊢
  rcases hx with h1 | h1
  · exact .inl h1
  · exact .inr (by omega)
theorem filter_le {α : Type} {p q : α → Bool} (h : ∀ x, q x = true → p x = true) : ∀ l : List α, (l.filter q).length ≤ (l.filter p).length
  | [] => Nat.le_refl _
  | a :: l => by
    have ih := filter_le h l
    cases hq : q a <;> cases hp : p a <;> simp only [List.filter_cons, hq, hp, if_true, Bool.false_eq_true, if_false, List.length_cons]
    · exact ih
    · omega
    · exact absurd (h a hq) (by rw [hp]; exact Bool.false_ne_true)
    · omega
theorem filter_lt {α : Type} {p q : α → Bool} (h : ∀ x, q x = true → p x = true) : ∀ {l : List α} {x : α}, x ∈ l → p x = true → q x = false → (l.filter q).length < (l.filter p).length
  | a :: l, x, hm, hp, hq => by
    rcases List.mem_cons.1 hm with rfl | hm
    · have := filter_le h l
      simp only [List.filter_cons, hq, hp, if_true, Bool.false_eq_true, if_false, List.length_cons]; omega
    · have ih := filter_lt h hm hp hq
      cases hq' : q a <;> cases hp' : p a <;> simp only [List.filter_cons, hq', hp', if_true, Bool.false_eq_true, if_false, List.length_cons]
      · exact ih
      · omega
      · exact absurd (h a hq') (by rw [hp']; exact Bool.false_ne_true)
      · omega
theorem fpass_move {l : List Hld} {r : Rec} : ∀ (t : List Hld), (∀ h ∈ t, h ∈ l) → ∀ (c c' : Int), t.foldl (fstep r) (some c) = some c' → (c' = c ∧ ∀ h ∈ t, cov h r c = false) ∨ (c < c' ∧ aliveN l c' < aliveN l c)
  | [], _, c, c', h => by
    simp only [List.foldl_nil, Option.some.injEq] at h
    exact .inl ⟨h.symm, fun _ hm => by cases hm⟩
  | a :: t, ht, c, c', h => by
    rw [List.foldl_cons] at h
    have hta := fun h hm => ht h (List.mem_cons_of_mem a hm)
    cases hc : cov a r c with
    | false =>
      simp only [fstep, hc, Bool.false_eq_true, if_false] at h
      rcases fpass_move t hta c c' h with ⟨h1, h2⟩ | h1
      · refine .inl ⟨h1, fun x hx => ?_⟩
        rcases List.mem_cons.1 hx with rfl | hx
        · exact hc
        · exact h2 x hx
      · exact .inr h1
    | true =>
      obtain ⟨p1, p2⟩ := cov_parts hc
      cases hu : (a.un == -1) with
      | true =>
        simp only [fstep, hc, hu, if_true] at h
        have := fpass_none t r
        unfold fpass at this
        rw [this] at h; cases h
      | false =>
        simp only [fstep, hc, hu, if_true, Bool.false_eq_true, if_false] at h
        have hun : a.un ≠ -1 := by simpa using hu
        have h5 : aliveN l a.un < aliveN l c := filter_lt (fun x hx => alive_mono (by omega) hx) (ht a List.mem_cons_self) (by simp only [alive, Bool.or_eq_true, decide_eq_true_eq]; right; omega) (by simp only [alive, hu, Bool.false_or, decide_eq_false_iff_not]; omega)
        rcases fpass_move t hta a.un c' h with ⟨h1, h2⟩ | ⟨h1, h2⟩
        · subst h1; exact .inr ⟨by omega, h5⟩
        · exact .inr ⟨by omega, by omega⟩
theorem fpass_fixed {l : List Hld} {r : Rec} {c : Int} : ∀ (t : List Hld), (∀ h ∈ t, cov h r c = false) → t.foldl (fstep r) (some c) = some c
  | [], _ => rfl
  | a :: t, h => by
    rw [List.foldl_cons]
    have := h a List.mem_cons_self
    simp only [fstep, this, Bool.false_eq_true, if_false]
    exact fpass_fixed (l := l) t fun x hx => h x (List.mem_cons_of_mem _ hx)
theorem fpasses_fixed {l : List Hld} {r : Rec} {c : Int} (h : ∀ x ∈ l, cov x r c = false) : ∀ n, fpasses l r n (some c) = some c
  | 0 => rfl
  | n + 1 => by rw [fpasses, fpass, fpass_fixed (l := l) l h, fpasses_fixed h n]
theorem fpasses_free {l : List Hld} {r : Rec} : ∀ (n : Nat) (c c' : Int), aliveN l c ≤ n → fpasses l r (n + 1) (some c) = some c' → heldB l r c' = false := by
  intro n
  induction n with
  | zero =>
    intro c c' ha h
    rw [fpasses] at h
    cases hp : fpass l r (some c) with
    | none => rw [hp, fpasses_none] at h; cases h
    | some c1 =>
      rcases fpass_move l (fun _ h => h) c c1 hp with ⟨h1, h2⟩ | ⟨h1, h2⟩
      · rw [hp, h1, fpasses] at h
        cases h
        exact List.any_eq_false.2 (fun x hx => by rw [h2 x hx]; exact Bool.false_ne_true)
      · omega
  | succ n ih =>
    intro c c' ha h
    rw [fpasses] at h
    cases hp : fpass l r (some c) with
    | none => rw [hp, fpasses_none] at h; cases h
    | some c1 =>
      rw [hp] at h
      rcases fpass_move l (fun _ h => h) c c1 hp with ⟨h1, h2⟩ | ⟨h1, h2⟩
      · rw [h1, fpasses_fixed h2] at h
        cases h
        exact List.any_eq_false.2 (fun x hx => by rw [h2 x hx]; exact Bool.false_ne_true)
      · exact ih c1 c' (by omega) h
theorem aliveN_le (l : List Hld) (c : Int) : aliveN l c ≤ l.length := List.length_filter_le _ _
/-- The passes end at the first free day. -/
theorem fpasses_eq {l : List Hld} (hok : ∀ h ∈ l, okH h = true) {r : Rec} {d : Int} (h0 : d ≤ 20000) : fpasses l r (l.length + 1) (some d) = freeO l r d := by
  have hg := fpasses_good hok (r := r) (d := d) (l.length + 1) (some d) ⟨Int.le_refl _, h0, fun e h1 h2 => by omega⟩
  cases hp : fpasses l r (l.length + 1) (some d) with
  | none => rw [hp] at hg; exact (freeO_none (by omega) hg).symm
  | some c =>
    rw [hp] at hg
    obtain ⟨h1, h2, h3⟩ := hg
    exact (freeO_some h1 h2 h3 (fpasses_free l.length d c (aliveN_le l d) hp)).symm
end Go.Rd
