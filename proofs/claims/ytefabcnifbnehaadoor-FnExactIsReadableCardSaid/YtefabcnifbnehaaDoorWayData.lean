/- The formats to which there is a path, as a rising list, and what makes a list that list; without a program; no condition. -/
import Derived.Test.YtefabcnifbnehaaDoorFmtGood
import Derived.Test.YtefabcnifbnehaaDoorPutData
import Derived.Test.YtefabcnifbnehaaDoorSortData
namespace Go.Rd
open Go.Sort Go.RowKit
/-- On the day there is a path from the format id to the other one. -/
inductive WayTo (l : List Fmt) (id day : Int) : Int → Prop
  | start : WayTo l id day id
  | step {f : Fmt} {y : Int} : f ∈ l → day ≤ f.un → y ∈ f.rd → WayTo l id day y → WayTo l id day f.id
open Classical in
noncomputable def waysL (l : List Fmt) (id day : Int) : List Int := (l.filter fun f => decide (WayTo l id day f.id)).map (·.id)
theorem steps_rise : ∀ {l : List Int}, (∀ i x y, l[i]? = some x → l[i + 1]? = some y → x < y) → RiseI l
  | [], _ => List.Pairwise.nil
  | [_], _ => List.pairwise_singleton _ _
  | x :: y :: l, h => by
    have ih := steps_rise (l := y :: l) fun i a b ha hb => h (i + 1) a b (by simpa using ha) (by simpa using hb)
    have hxy := h 0 x y rfl rfl
    refine List.pairwise_cons.2 ⟨fun z hz => ?_, ih⟩
    rcases List.mem_cons.1 hz with rfl | hz
    · exact hxy
    · have := (List.pairwise_cons.1 ih).1 z hz; omega
theorem goodW_rise {P : Fmt → Bool} {l : List Fmt} (h : goodW P l = true) : RiseI (l.map (·.id)) := by
  have h1 := (goodW_spec h).1
  refine steps_rise fun i x y hx hy => ?_
  rw [List.getElem?_map] at hx hy
  cases ha : l[i]? with
  | none => rw [ha] at hx; cases hx
  | some a =>
    cases hb : l[i + 1]? with
    | none => rw [hb] at hy; cases hy
    | some b =>
      rw [ha] at hx; rw [hb] at hy
      simp only [Option.map_some, Option.some.injEq] at hx hy
      have := h1 (i + 1) (List.getElem?_eq_some_iff.1 hb).1
      rw [fOk_eq hb (fun _ => by rw [Nat.add_sub_cancel]; exact ha)] at this
      simp only [Bool.and_eq_true, Bool.not_eq_true', Bool.and_eq_false_iff, decide_eq_false_iff_not] at this
      omega
theorem goodF_rise {l : List Fmt} (h : goodF l = true) : RiseI (l.map (·.id)) := goodW_rise h
theorem goodF_len {l : List Fmt} (h : goodF l = true) : l.length ≤ 10 := (goodW_spec h).2
theorem okS_parts {l : List Fmt} {x : Fmt} (h : okS l x = true) : (1 ≤ x.id ∧ x.id ≤ 50) ∧ (0 ≤ x.un ∧ x.un ≤ 20000) ∧ x.rd.length ≤ 10 ∧ ∀ y ∈ x.rd, 0 ≤ atF l y := by
  simp only [okS, Bool.and_eq_true, Bool.not_eq_true', decide_eq_true_eq, List.all_eq_true, inB_true] at h
  obtain ⟨h1, h2, h3, h4, h5, h6, h7⟩ := h
  exact ⟨h1, h3, h4, h7⟩
theorem goodF_mem {l : List Fmt} (h : goodF l = true) {x : Fmt} (hx : x ∈ l) : (1 ≤ x.id ∧ x.id ≤ 50) ∧ (0 ≤ x.un ∧ x.un ≤ 20000) ∧ x.rd.length ≤ 10 ∧ ∀ y ∈ x.rd, 0 ≤ atF l y := okS_parts (goodW_mem h hx)
theorem rise_inj {α : Type} (f : α → Int) : ∀ {l : List α}, RiseI (l.map f) → ∀ {x y : α}, x ∈ l → y ∈ l → f x = f y → x = y
  | a :: l, h, x, y, hx, hy, he => by
    have h' := List.pairwise_cons.1 (show List.Pairwise (· < ·) (f a :: l.map f) from h)
    rcases List.mem_cons.1 hx with hx1 | hx1 <;> rcases List.mem_cons.1 hy with hy1 | hy1
    · rw [hx1, hy1]
    · have := h'.1 _ (List.mem_map_of_mem hy1); rw [hx1] at he; omega
    · have := h'.1 _ (List.mem_map_of_mem hx1); rw [hy1] at he; omega
    · exact rise_inj f h'.2 hx1 hy1 he
/-- The format with an Id that is in the list. -/
theorem atF_mem {l : List Fmt} {id : Int} (h : 0 ≤ atF l id) : ∃ (j : Nat) (y : Fmt), atF l id = (j : Int) ∧ l[j]? = some y ∧ y.id = id := by
  rcases atF_cases l id with h1 | h1
  · omega
  · exact h1
theorem atF_of_mem {l : List Fmt} {x : Fmt} (h : x ∈ l) : 0 ≤ atF l x.id := by
  unfold atF
  have := idxOf_any (fun y : Fmt => y.id == x.id) l
  rw [show l.any (fun y : Fmt => y.id == x.id) = true from List.any_eq_true.2 ⟨x, h, by simp⟩] at this
  simpa using this
theorem wayTo_at {l : List Fmt} {id day x : Int} (hid : 0 ≤ atF l id) (h : WayTo l id day x) : ∃ f ∈ l, f.id = x := by
  cases h with
  | start => obtain ⟨j, y, _, h1, h2⟩ := atF_mem hid; exact ⟨y, List.mem_of_getElem? h1, h2⟩
  | step h1 h2 h3 h4 => exact ⟨_, h1, rfl⟩
theorem waysL_mem {l : List Fmt} {id day x : Int} (hid : 0 ≤ atF l id) : x ∈ waysL l id day ↔ WayTo l id day x := by
  unfold waysL
  simp only [List.mem_map, List.mem_filter, decide_eq_true_eq]
  constructor
  · rintro ⟨f, ⟨_, h1⟩, rfl⟩; exact h1
  · intro h
    obtain ⟨f, h1, rfl⟩ := wayTo_at hid h
    exact ⟨f, ⟨h1, h⟩, rfl⟩
theorem waysL_rise {l : List Fmt} (hg : goodF l = true) (id day : Int) : RiseI (waysL l id day) := filter_map_rise _ _ (goodF_rise hg)
theorem waysL_length (l : List Fmt) (id day : Int) : (waysL l id day).length ≤ l.length := by
  unfold waysL; rw [List.length_map]; exact List.length_filter_le _ _
/-- Closed under the steps that can be used on the day. -/
def ClosedW (l : List Fmt) (day : Int) (S : List Int) : Prop := ∀ f ∈ l, day ≤ f.un → ∀ y ∈ f.rd, y ∈ S → f.id ∈ S
theorem ways_eq {l : List Fmt} {id day : Int} {S : List Int} (hg : goodF l = true) (hid : 0 ≤ atF l id) (hr : RiseI S) (h1 : id ∈ S) (h2 : ∀ x ∈ S, WayTo l id day x) (h3 : ClosedW l day S) : S = waysL l id day := by
  refine rise_ext hr (waysL_rise hg id day) fun x => ?_
  rw [waysL_mem hid]
  refine ⟨h2 x, fun h => ?_⟩
  induction h with
  | start => exact h1
  | step a b c _ ih => exact h3 _ a b _ c ih
theorem ways_len {l : List Fmt} {id day : Int} {S : List Int} (hid : 0 ≤ atF l id) (hn : S.Nodup) (h2 : ∀ x ∈ S, WayTo l id day x) : S.length ≤ l.length := by
  have hs : S ⊆ l.map (·.id) := fun x hx => by
    obtain ⟨f, h3, h4⟩ := wayTo_at hid (h2 x hx)
    exact List.mem_map.2 ⟨f, h3, h4⟩
  have := List.Nodup.length_le_of_subset hn hs
  simpa using this
theorem rise_nodup {l : List Int} (h : RiseI l) : l.Nodup := List.Pairwise.imp (fun h => by omega) h
theorem sort_rise {l : List Int} (h : l.Nodup) : RiseI (l.mergeSort fun x y => decide (x ≤ y)) := by
  have h1 := sort_sorted l
  have h2 : (l.mergeSort fun x y => decide (x ≤ y)).Nodup := (List.mergeSort_perm l _).nodup_iff.2 h
  exact List.Pairwise.imp₂ (fun a b h h' => by omega) h1 h2
def waysOk (l : List Fmt) (id day : Int) : Bool := goodF l && decide (0 ≤ atF l id) && inB day 0 20000
noncomputable def waysR (l : List Fmt) (id day : Int) : List Int := if waysOk l id day = true then waysL l id day else []
theorem waysR_yes {l : List Fmt} {id day : Int} (h : waysOk l id day = true) : waysR l id day = waysL l id day := if_pos h
theorem waysR_no {l : List Fmt} {id day : Int} (h : waysOk l id day = false) : waysR l id day = [] := if_neg (by rw [h]; exact Bool.false_ne_true)
theorem waysR_length (l : List Fmt) (id day : Int) : (waysR l id day).length ≤ l.length := by
  unfold waysR; split
  · exact waysL_length l id day
  · simp
end Go.Rd
