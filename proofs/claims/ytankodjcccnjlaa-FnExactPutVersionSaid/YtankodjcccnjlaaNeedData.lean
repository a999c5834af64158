/- The holds that alone cover some record, as plain functions; without a program; no condition. -/
import Derived.Test.YtankodjcccnjlaaHoldTopData
import Derived.Test.YtankodjcccnjlaaPutData
namespace Go.Rd
/-- The hold alone covers the record on the day. -/
def aloneB (l : List Hld) (day : Int) (h : Hld) (r : Rec) : Bool := decide (onL l r day = [h.id])
def needB (l : List Hld) (rs : List Rec) (day : Int) (h : Hld) : Bool := rs.any (aloneB l day h)
def needS (l : List Hld) (rs : List Rec) (day : Int) : List Int := (l.filter (needB l rs day)).map (·.id)
def needRL (l : List Hld) (rs : List Rec) (day : Int) : List Int := if heldOk l rs day = true then needS l rs day else []
theorem needRL_yes {l : List Hld} {rs : List Rec} {day : Int} (h : heldOk l rs day = true) : needRL l rs day = needS l rs day := if_pos h
theorem needRL_no {l : List Hld} {rs : List Rec} {day : Int} (h : heldOk l rs day = false) : needRL l rs day = [] := if_neg (by rw [h]; exact Bool.false_ne_true)
theorem needS_length (l : List Hld) (rs : List Rec) (day : Int) : (needS l rs day).length ≤ l.length := by
  unfold needS; rw [List.length_map]; exact List.length_filter_le _ _
theorem needRL_length (l : List Hld) (rs : List Rec) (day : Int) : (needRL l rs day).length ≤ l.length := by
  unfold needRL; split
  · exact needS_length l rs day
  · simp
theorem rise_of_steps : ∀ {l : List Int}, (∀ i x y, l[i]? = some x → l[i + 1]? = some y → x < y) → RiseI l
  | [], _ => List.Pairwise.nil
  | [_], _ => List.pairwise_singleton _ _
  | x :: y :: l, h => by
    have ih := rise_of_steps (l := y :: l) fun i a b ha hb => h (i + 1) a b (by simpa using ha) (by simpa using hb)
    have hxy := h 0 x y rfl rfl
    refine List.pairwise_cons.2 ⟨fun z hz => ?_, ih⟩
    rcases List.mem_cons.1 hz with rfl | hz
    · exact hxy
    · have := (List.pairwise_cons.1 ih).1 z hz; omega
theorem goodHs_rise {l : List Hld} (h : goodHs l = true) : RiseI (l.map (·.id)) := by
  simp only [goodHs, Bool.and_eq_true] at h
  have h1 := ascB_spec h.1
  refine rise_of_steps fun i x y hx hy => ?_
  rw [List.getElem?_map] at hx hy
  cases ha : l[i]? with
  | none => rw [ha] at hx; cases hx
  | some a =>
    cases hb : l[i + 1]? with
    | none => rw [hb] at hy; cases hy
    | some b =>
      rw [ha] at hx; rw [hb] at hy
      simp only [Option.map_some, Option.some.injEq] at hx hy
      have := (h1 (i + 1) (List.getElem?_eq_some_iff.1 hb).1).2 (by omega)
      rw [List.getD_eq_getElem?_getD, List.getD_eq_getElem?_getD, Nat.add_sub_cancel, ha, hb] at this
      have := of_decide_eq_true this
      simp only [Option.getD_some] at this
      omega
theorem needS_rise {l : List Hld} (h : goodHs l = true) (rs : List Rec) (day : Int) : RiseI (needS l rs day) := filter_map_rise _ _ (goodHs_rise h)
theorem needS_mem (l : List Hld) (rs : List Rec) (day : Int) (x : Int) : x ∈ needS l rs day ↔ ∃ h ∈ l, h.id = x ∧ ∃ r ∈ rs, onL l r day = [h.id] := by
  unfold needS needB aloneB
  simp only [List.mem_map, List.mem_filter, List.any_eq_true, decide_eq_true_eq]
  constructor
  · rintro ⟨h, ⟨h1, r, h2, h3⟩, h4⟩; exact ⟨h, h1, h4, r, h2, h3⟩
  · rintro ⟨h, h1, h4, r, h2, h3⟩; exact ⟨h, ⟨h1, r, h2, h3⟩, h4⟩
theorem mem_take_step {α : Type} {l : List α} {k : Nat} {x : α} (h : l[k]? = some x) (y : α) : y ∈ l.take (k + 1) ↔ y ∈ l.take k ∨ y = x := by
  rw [List.take_add_one, h]; simp
theorem need_one {l : List Hld} (hg : goodHs l = true) {rs : List Rec} {day : Int} {k : Nat} {r : Rec} (hx : rs[k]? = some r) {x : Int} (ho : onL l r day = [x]) :
    needS l (rs.take (k + 1)) day = putI (needS l (rs.take k) day) x := by
  refine rise_ext (needS_rise hg _ _) (putI_rise _ (needS_rise hg _ _)) fun y => ?_
  rw [putI_mem, needS_mem, needS_mem]
  constructor
  · rintro ⟨h, h1, h2, r', h3, h4⟩
    rcases (mem_take_step hx r').1 h3 with h5 | rfl
    · exact .inr ⟨h, h1, h2, r', h5, h4⟩
    · rw [ho] at h4; simp only [List.cons.injEq, and_true] at h4; exact .inl (by rw [← h2, h4])
  · rintro (rfl | ⟨h, h1, h2, r', h3, h4⟩)
    · have hm : y ∈ onL l r day := by rw [ho]; exact List.mem_cons_self
      unfold onL at hm
      obtain ⟨h, h1, h2⟩ := List.mem_map.1 hm
      exact ⟨h, (List.mem_filter.1 h1).1, h2, r, (mem_take_step hx r).2 (.inr rfl), by rw [ho, h2]⟩
    · exact ⟨h, h1, h2, r', (mem_take_step hx r').2 (.inl h3), h4⟩
theorem need_has {l : List Hld} (hg : goodHs l = true) {rs : List Rec} {day : Int} {k : Nat} {r : Rec} (hx : rs[k]? = some r) {x : Int} (ho : onL l r day = [x]) (hc : (needS l (rs.take k) day).contains x = true) :
    needS l (rs.take (k + 1)) day = needS l (rs.take k) day := by
  rw [need_one hg hx ho]
  refine rise_ext (putI_rise _ (needS_rise hg _ _)) (needS_rise hg _ _) fun y => ?_
  rw [putI_mem]
  exact ⟨fun h => h.elim (fun h => by subst h; simpa using hc) id, .inr⟩
theorem need_other {l : List Hld} {rs : List Rec} {day : Int} {k : Nat} {r : Rec} (hx : rs[k]? = some r) (ho : (onL l r day).length ≠ 1) :
    needS l (rs.take (k + 1)) day = needS l (rs.take k) day := by
  unfold needS
  congr 2
  funext h
  unfold needB
  have e : (rs.take (k + 1)).any (aloneB l day h) = ((rs.take k).any (aloneB l day h) || aloneB l day h r) := by
    rw [List.take_add_one, hx, List.any_append]; simp
  rw [e, show aloneB l day h r = false from decide_eq_false fun h' => ho (by rw [h']; rfl), Bool.or_false]
end Go.Rd
