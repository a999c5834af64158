/- The number of held days, by days and by runs; without a program; no condition. -/
import Derived.Test.YtnmkkamphlleiaaHoldTopData
namespace Go.Rd
def cntN (l : List Hld) (r : Rec) : Nat → Int
  | 0 => 0
  | n + 1 => cntN l r n + (if heldB l r n = true then 1 else 0)
/-- The number of held days before day d. -/
def cntD (l : List Hld) (r : Rec) (d : Int) : Int := cntN l r d.toNat
theorem cntD_held {l : List Hld} {r : Rec} {d : Int} (h0 : 0 ≤ d) (h : heldB l r d = true) : cntD l r (d + 1) = cntD l r d + 1 := by
  unfold cntD; rw [show (d + 1).toNat = d.toNat + 1 by omega, cntN, show ((d.toNat : Nat) : Int) = d by omega, if_pos h]
theorem cntD_free {l : List Hld} {r : Rec} {d : Int} (h0 : 0 ≤ d) (h : heldB l r d = false) : cntD l r (d + 1) = cntD l r d := by
  unfold cntD; rw [show (d + 1).toNat = d.toNat + 1 by omega, cntN, show ((d.toNat : Nat) : Int) = d by omega, if_neg (by rw [h]; exact Bool.false_ne_true)]; omega
theorem cntD_run {l : List Hld} {r : Rec} : ∀ (n : Nat) (d : Int), 0 ≤ d → (∀ e, d ≤ e → e < d + n → heldB l r e = true) → cntD l r (d + n) = cntD l r d + n
  | 0, d, _, _ => by simp
  | n + 1, d, h0, h => by
    have := cntD_run n d h0 (fun e h1 h2 => h e h1 (by omega))
    rw [show d + ((n + 1 : Nat) : Int) = (d + n) + 1 by omega, cntD_held (by omega) (h _ (by omega) (by omega)), this]; omega
theorem cntD_gap {l : List Hld} {r : Rec} : ∀ (n : Nat) (d : Int), 0 ≤ d → (∀ e, d ≤ e → e < d + n → heldB l r e = false) → cntD l r (d + n) = cntD l r d
  | 0, d, _, _ => by simp
  | n + 1, d, h0, h => by
    have := cntD_gap n d h0 (fun e h1 h2 => h e h1 (by omega))
    rw [show d + ((n + 1 : Nat) : Int) = (d + n) + 1 by omega, cntD_free (by omega) (h _ (by omega) (by omega)), this]
theorem cntN_bound (l : List Hld) (r : Rec) : ∀ n : Nat, 0 ≤ cntN l r n ∧ cntN l r n ≤ n
  | 0 => by simp [cntN]
  | n + 1 => by
    have := cntN_bound l r n
    rw [cntN]; split <;> omega
theorem cntD_bound (l : List Hld) (r : Rec) {d : Int} (h : 0 ≤ d) : 0 ≤ cntD l r d ∧ cntD l r d ≤ d := by
  have := cntN_bound l r d.toNat
  unfold cntD; omega
theorem freeI_spec {l : List Hld} {r : Rec} : ∀ (n : Nat) (d : Int), (∀ c, freeI l r n d = some c → (∀ e, d ≤ e → e < c → heldB l r e = true) ∧ heldB l r c = false) ∧ (freeI l r n d = none → ∀ e, d ≤ e → e < d + n → heldB l r e = true)
  | 0, d => ⟨fun c h => (by cases h), fun _ e h1 h2 => by omega⟩
  | n + 1, d => by
    have ih := freeI_spec (l := l) (r := r) n (d + 1)
    cases hd : heldB l r d with
    | true =>
      rw [freeI, if_pos hd]
      refine ⟨fun c h => ⟨fun e h1 h2 => ?_, (ih.1 c h).2⟩, fun h e h1 h2 => ?_⟩
      · by_cases he : e = d
        · rw [he]; exact hd
        · exact (ih.1 c h).1 e (by omega) h2
      · by_cases he : e = d
        · rw [he]; exact hd
        · exact ih.2 h e (by omega) (by omega)
    | false =>
      rw [freeI, if_neg (by rw [hd]; exact Bool.false_ne_true)]
      refine ⟨fun c h => ?_, fun h => by cases h⟩
      cases h
      exact ⟨fun e h1 h2 => by omega, hd⟩
/-- The first free day, or the day past the last. -/
def freeE (l : List Hld) (r : Rec) (d : Int) : Int := (freeO l r d).getD 20001
theorem freeE_spec {l : List Hld} {r : Rec} {d : Int} (h : d ≤ 20000) : d ≤ freeE l r d ∧ freeE l r d ≤ 20001 ∧ (∀ e, d ≤ e → e < freeE l r d → heldB l r e = true) ∧ (freeE l r d ≤ 20000 → heldB l r (freeE l r d) = false) := by
  have hs := freeI_spec (l := l) (r := r) (20001 - d).toNat d
  unfold freeE
  cases hf : freeO l r d with
  | none => exact ⟨by simp only [Option.getD_none]; omega, Int.le_refl _, fun e h1 h2 => hs.2 hf e h1 (by simp only [Option.getD_none] at h2; omega), fun h => by simp only [Option.getD_none] at h; omega⟩
  | some c =>
    have h1 := freeO_le hf
    obtain ⟨h2, h3⟩ := hs.1 c hf
    exact ⟨h1.1, by simp only [Option.getD_some]; omega, h2, fun _ => h3⟩
theorem cntD_freeE {l : List Hld} {r : Rec} {d : Int} (h0 : 0 ≤ d) (h : d ≤ 20000) : cntD l r (freeE l r d) = cntD l r d + (freeE l r d - d) := by
  obtain ⟨h1, h2, h3, _⟩ := freeE_spec (l := l) (r := r) h
  have := cntD_run (l := l) (r := r) (freeE l r d - d).toNat d h0 (fun e a b => h3 e a (by omega))
  rw [show d + ((freeE l r d - d).toNat : Int) = freeE l r d by omega] at this
  rw [this]; omega
def least (a b : Int) : Int := if a < b then a else b
/-- The next day after c on which a hold begins that covers the record then. -/
def nxstep (r : Rec) (c s : Int) (h : Hld) : Int := if (decide (c < h.fr) && cov h r h.fr) = true then least s h.fr else s
def nxtF (l : List Hld) (r : Rec) (c : Int) (k : Nat) : Int := (l.take k).foldl (nxstep r c) 20001
theorem nxtF_step {l : List Hld} {r : Rec} {c : Int} {k : Nat} {h : Hld} (hx : l[k]? = some h) : nxtF l r c (k + 1) = nxstep r c (nxtF l r c k) h := by
  unfold nxtF; rw [List.take_add_one, hx, List.foldl_append]; rfl
theorem nx_yes {r : Rec} {c s : Int} {h : Hld} (hc : (decide (c < h.fr) && cov h r h.fr) = true) : nxstep r c s h = least s h.fr := if_pos hc
theorem nx_no {r : Rec} {c s : Int} {h : Hld} (hc : (decide (c < h.fr) && cov h r h.fr) = false) : nxstep r c s h = s := if_neg (by rw [hc]; exact Bool.false_ne_true)
theorem nxtF_spec {l : List Hld} {r : Rec} {c : Int} (hc : c ≤ 20001) (hok : ∀ h ∈ l, okH h = true) : ∀ k, k ≤ l.length → (nxtF l r c k ≤ 20001 ∧ (nxtF l r c k = 20001 ∨ c < nxtF l r c k) ∧ ∀ h ∈ l.take k, c < h.fr → cov h r h.fr = true → nxtF l r c k ≤ h.fr)
  | 0, _ => ⟨Int.le_refl _, .inl rfl, by simp⟩
  | k + 1, hk => by
    obtain ⟨x, hx⟩ := get_of_lt (show k < l.length by omega)
    obtain ⟨h1, h2, h3⟩ := nxtF_spec hc hok k (by omega)
    have hp := (okH_parts (hok x (List.mem_of_getElem? hx))).2.1
    rw [nxtF_step hx]
    have hm : ∀ y ∈ l.take (k + 1), y ∈ l.take k ∨ y = x := by
      intro y hy
      rw [List.take_add_one, hx] at hy
      rcases List.mem_append.1 hy with hy | hy
      · exact .inl hy
      · simp at hy; exact .inr hy
    cases hd : (decide (c < x.fr) && cov x r x.fr) with
    | true =>
      rw [nx_yes hd]
      simp only [Bool.and_eq_true, decide_eq_true_eq] at hd
      unfold least
      refine ⟨by split <;> omega, by split <;> omega, fun y hy h4 h5 => ?_⟩
      rcases hm y hy with hy | rfl
      · have := h3 y hy h4 h5; split <;> omega
      · split <;> omega
    | false =>
      rw [nx_no hd]
      refine ⟨h1, h2, fun y hy h4 h5 => ?_⟩
      rcases hm y hy with hy | rfl
      · exact h3 y hy h4 h5
      · rw [h5, Bool.and_true] at hd; exact absurd h4 (of_decide_eq_false hd)
theorem cntD_next {l : List Hld} (hok : ∀ h ∈ l, okH h = true) {r : Rec} {d : Int} (h0 : 0 ≤ d) (h : d ≤ 20000) :
    cntD l r (nxtF l r (freeE l r d) l.length) = cntD l r d + (freeE l r d - d) ∧ d < nxtF l r (freeE l r d) l.length ∧ nxtF l r (freeE l r d) l.length ≤ 20001 := by
  obtain ⟨h1, h2, h3, h4⟩ := freeE_spec (l := l) (r := r) h
  obtain ⟨g1, g2, g3⟩ := nxtF_spec (r := r) h2 hok l.length (Nat.le_refl _)
  rw [List.take_length] at g3
  have hle : freeE l r d ≤ nxtF l r (freeE l r d) l.length := by omega
  refine ⟨?_, by omega, g1⟩
  rw [← cntD_freeE h0 h]
  have := cntD_gap (l := l) (r := r) (nxtF l r (freeE l r d) l.length - freeE l r d).toNat (freeE l r d) (by omega) (fun e a b => ?_)
  · rw [show freeE l r d + ((nxtF l r (freeE l r d) l.length - freeE l r d).toNat : Int) = nxtF l r (freeE l r d) l.length by omega] at this
    exact this
  · cases he : heldB l r e with
    | false => rfl
    | true =>
      exfalso
      obtain ⟨x, hx, hc⟩ := List.any_eq_true.1 he
      obtain ⟨c1, c2⟩ := cov_parts hc
      by_cases hf : freeE l r d < x.fr
      · have := g3 x hx hf (cov_move hc (Int.le_refl _) (by rcases c2 with c2 | c2; exact .inl c2; exact .inr (by omega)))
        omega
      · have h5 := h4 (by omega)
        rw [held_of hx (cov_move hc (by omega) (by rcases c2 with c2 | c2; exact .inl c2; exact .inr (by omega)))] at h5
        cases h5
def hdaysO (l : List Hld) (r : Rec) : Int := if askedH l r 0 = true then cntD l r 20001 else 0
theorem hdaysO_yes {l : List Hld} {r : Rec} (h : askedH l r 0 = true) : hdaysO l r = cntD l r 20001 := if_pos h
theorem hdaysO_no {l : List Hld} {r : Rec} (h : askedH l r 0 = false) : hdaysO l r = 0 := if_neg (by rw [h]; exact Bool.false_ne_true)
theorem cntD_zero (l : List Hld) (r : Rec) : cntD l r 0 = 0 := rfl
end Go.Rd
