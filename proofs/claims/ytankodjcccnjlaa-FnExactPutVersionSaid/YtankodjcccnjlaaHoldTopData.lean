/- Free days, destruction days, held records as plain functions; without a program; no condition. -/
import Derived.Test.YtankodjcccnjlaaFreeData
import Derived.Test.YtankodjcccnjlaaDecData
namespace Go.Rd
theorem freeI_le {l : List Hld} {r : Rec} : ∀ (n : Nat) (d c : Int), freeI l r n d = some c → d ≤ c ∧ c < d + n
  | 0, _, _, h => by cases h
  | n + 1, d, c, h => by
    rw [freeI] at h
    split at h
    · have := freeI_le n (d + 1) c h; omega
    · cases h; omega
theorem freeO_le {l : List Hld} {r : Rec} {d c : Int} (h : freeO l r d = some c) : d ≤ c ∧ c ≤ 20000 := by
  have := freeI_le _ _ _ h; omega
def freeDO (l : List Hld) (r : Rec) (day : Int) : Option Int := if askedH l r day = true then freeO l r day else none
theorem freeDO_yes {l : List Hld} {r : Rec} {day : Int} (h : askedH l r day = true) : freeDO l r day = freeO l r day := if_pos h
theorem freeDO_no {l : List Hld} {r : Rec} {day : Int} (h : askedH l r day = false) : freeDO l r day = none := if_neg (by rw [h]; exact Bool.false_ne_true)
theorem asked_parts {l : List Hld} {r : Rec} {day : Int} (h : askedH l r day = true) : goodHs l = true ∧ okRec r = true ∧ 0 ≤ day ∧ day ≤ 20000 := by
  simp only [askedH, Bool.and_eq_true, inB_true] at h
  exact ⟨h.1.1, h.1.2, h.2.1, h.2.2⟩
/-- A rule that decides has a day. -/
theorem decF_act {r : Rec} (hr : okRec r = true) : ∀ (l : List Rul), (∀ x ∈ l, 0 ≤ x.dy) → ∀ (s : Rul × Int), (s.1.ac = 0 ∨ 0 ≤ s.2) → ∀ t, l.foldl (dstep r) (some s) = some t → t.1.ac = 0 ∨ 0 ≤ t.2
  | [], _, s, hs, t, ht => by simp only [List.foldl_nil, Option.some.injEq] at ht; subst ht; exact hs
  | x :: l, hx, (b, d), hs, t, ht => by
    rw [List.foldl_cons] at ht
    cases hw : waitP r x with
    | true => simp only [dstep, hw, if_true] at ht; rw [dstep_fold_none] at ht; cases ht
    | false =>
      cases hc : dcond x b (negO (endO r x)) d with
      | true =>
        simp only [dstep, hw, hc, Bool.false_eq_true, if_false, if_true] at ht
        refine decF_act hr l (fun y hy => hx y (List.mem_cons_of_mem _ hy)) _ (.inr ?_) t ht
        have := neg_waitP hr (hx x List.mem_cons_self)
        rw [hw] at this
        have := of_decide_eq_false this
        simp only; omega
      | false =>
        simp only [dstep, hw, hc, Bool.false_eq_true, if_false] at ht
        exact decF_act hr l (fun y hy => hx y (List.mem_cons_of_mem _ hy)) _ hs t ht
theorem decD_act {r : Rec} {sch : List Rul} (hr : okRec r = true) (hg : goodR sch = true) : (decD r sch).1.ac = 0 ∨ 0 ≤ (decD r sch).2 := by
  unfold decD
  cases h : decF r (forR sch r.se) with
  | none => simp
  | some t => exact decF_act hr _ (fun x hx => by obtain ⟨i, hi, rfl⟩ := List.mem_iff_getElem.1 hx; exact (forR_dy hg (List.getElem?_eq_getElem hi)).1) _ (.inl rfl) t h
def mayOk (l : List Hld) (r : Rec) (sch : List Rul) (day : Int) : Bool := askedH l r day && goodR sch
def mayB (l : List Hld) (r : Rec) (sch : List Rul) (day : Int) : Bool := mayOk l r sch day && ((decD r sch).1.ac == 3 && inB (decD r sch).2 0 day && !heldB l r day)
theorem mayB_eq (l : List Hld) (r : Rec) (sch : List Rul) (day : Int) : mayB l r sch day = (mayOk l r sch day && ((decD r sch).1.ac == 3 && inB (decD r sch).2 0 day && !heldB l r day)) := rfl
def firstOk (l : List Hld) (r : Rec) (sch : List Rul) : Bool := askedH l r 0 && goodR sch && (decD r sch).1.ac == 3
def firstO (l : List Hld) (r : Rec) (sch : List Rul) : Option Int := if firstOk l r sch = true then freeO l r (decD r sch).2 else none
theorem firstO_yes {l : List Hld} {r : Rec} {sch : List Rul} (h : firstOk l r sch = true) : firstO l r sch = freeO l r (decD r sch).2 := if_pos h
theorem firstO_no {l : List Hld} {r : Rec} {sch : List Rul} (h : firstOk l r sch = false) : firstO l r sch = none := if_neg (by rw [h]; exact Bool.false_ne_true)
def heldOk (l : List Hld) (rs : List Rec) (day : Int) : Bool := goodHs l && goodRs rs && inB day 0 20000
def heldRL (l : List Hld) (rs : List Rec) (day : Int) : List Int := if heldOk l rs day = true then (rs.filter fun r => heldB l r day).map (·.id) else []
theorem heldRL_yes {l : List Hld} {rs : List Rec} {day : Int} (h : heldOk l rs day = true) : heldRL l rs day = (rs.filter fun r => heldB l r day).map (·.id) := if_pos h
theorem heldRL_no {l : List Hld} {rs : List Rec} {day : Int} (h : heldOk l rs day = false) : heldRL l rs day = [] := if_neg (by rw [h]; exact Bool.false_ne_true)
theorem heldRL_length (l : List Hld) (rs : List Rec) (day : Int) : (heldRL l rs day).length ≤ rs.length := by
  unfold heldRL; split
  · rw [List.length_map]; exact List.length_filter_le _ _
  · simp
end Go.Rd
