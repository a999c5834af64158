/- The formats to which there is a path, as a rising list, and what makes a list that list; without a program; no condition. -/
import Derived.Test.YtefabcnifbnehaaDoorFmtGood
import Derived.Test.YtefabcnifbnehaaDoorPutData
import Derived.Test.YtefabcnifbnehaaDoorSortData
namespace Go.Rd
open Go.Sort Go.RowKit
/-- On the day there is a path from the format id to the other one. -/
inductive WayTo (l : List Fmt) (id day : Int) : Int → Prop
  | start : WayTo l id day id
  | step {f : Fmt} {y : Int} : f ∈ l → day ≤ f.un → y ∈ f.rd → WayTo l id day y → WayTo l id day f.id
open Classical in
noncomputable def waysL (l : List Fmt) (id day : Int) : List Int := (l.filter fun f => decide (WayTo l id day f.id)).map (·.id)
theorem steps_rise : ∀ {l : List Int}, (∀ i x y, l[i]? = some x → l[i + 1]? = some y → x < y) → RiseI l
  | [], _ => List.Pairwise.nil
  | [_], _ => List.pairwise_singleton _ _
  | x :: y :: l, h => by
    have ih := steps_rise (l := y :: l) fun i a b ha hb => h (i + 1) a b (by simpa using ha) (by simpa using hb)
    have hxy := h 0 x y rfl rfl
    refine List.pairwise_cons.2 ⟨fun z hz => ?_, ih⟩
    rcases List.mem_cons.1 hz with rfl | hz
    · exact hxy
    · have := (List.pairwise_cons.1 ih).1 z hz; omega
theorem goodW_rise {P : Fmt → Bool} {l : List Fmt} (h : goodW P l = true) : RiseI (l.map (·.id)) := by
  have h1 := (goodW_spec h).1
  refine steps_rise fun i x y hx hy => ?_
  rw [List.getElem?_map] at hx hy
  cases ha : l[i]? with
  | none => rw [ha] at hx; cases hx
  | some a =>
    cases hb : l[i + 1]? with
    | none => rw [hb] at hy; cases hy
    | some b =>
      rw [ha] at hx; rw [hb] at hy
      simp only [Option.map_some, Option.some.injEq] at hx hy
      have := h1 (i + 1) (List.getElem?_eq_some_iff.1 hb).1
      rw [fOk_eq hb (fun _ => by rw [Nat.add_sub_cancel]; exact ha)] at this
      simp only [Bool.and_eq_true, Bool.not_eq_true', Bool.and_eq_false_iff, decide_eq_false_iff_not] at this
      omega
theorem goodF_rise {l : List Fmt} (h : goodF l = true) : RiseI (l.map (·.id)) := goodW_rise h
theorem goodF_len {l : List Fmt} (h : goodF l = true) : l.length ≤ 10 := (goodW_spec h).2
theorem okS_parts {l : List Fmt} {x : Fmt} (h : okS l x = true) : (1 ≤ x.id ∧ x.id ≤ 50) ∧ (0 ≤ x.un ∧ x.un ≤ 20000) ∧ x.rd.length ≤ 10 ∧ ∀ y ∈ x.rd, 0 ≤ atF l y := by
  simp only [okS, Bool.and_eq_true, Bool.not_eq_true', decide_eq_true_eq, List.all_eq_true, inB_true] at h
  obtain ⟨h1, h2, h3, h4, h5, h6, h7⟩ := h
  exact ⟨h1, h3, h4, h7⟩
theorem goodF_mem {l : List Fmt} (h : goodF l = true) {x : Fmt} (hx : x ∈ l) : (1 ≤ x.id ∧ x.id ≤ 50) ∧ (0 ≤ x.un ∧ x.un ≤ 20000) ∧ x.rd.length ≤ 10 ∧ ∀ y ∈ x.rd, 0 ≤ atF l y := okS_parts (goodW_mem h hx)
theorem rise_inj {α : Type} (f : α → Int) : ∀ {l : List α}, RiseI (l.map f) → ∀ {x y : α}, x ∈ l → y ∈ l → f x = f y → x = y
  | a :: l, h, x, y, hx, hy, he => by
    have h' := List.pairwise_cons.1 (show List.Pairwise (· < ·) (f a :: l.map f) from h)
    rcases List.mem_cons.1 hx with hx1 | hx1 <;> rcases List.mem_cons.1 hy with hy1 | hy1
    · rw [hx1, hy1]
    · have := h'.1 _ (List.mem_map_of_mem hy1); rw [hx1] at he; omega
    · have := h'.1 _ (List.mem_map_of_mem hx1); rw [hy1] at he; omega
    · exact rise_inj f h'.2 hx1 hy1 he
/-- The format with an Id that is in the list. -/
theorem atF_mem {l : List Fmt} {id : Int} (h : 0 ≤ atF l id) : ∃ (j : Nat) (y : Fmt), atF l id = (j : Int) ∧ l[j]? = some y ∧ y.id = id := by
  rcases atF_cases l id with h1 | h1
  · omega
  · exact h1
theorem atF_of_mem {l : List Fmt} {x : Fmt} (h : x ∈ l) : 0 ≤ atF l x.id := by
  unfold atF
  have := idxOf_any (fun y : Fmt => y.id == x.id) l
  rw [show l.any (fun y : Fmt => y.id == x.id) = true from List.any_eq_true.2 ⟨x, h, by simp⟩] at this
  simpa using this
theorem wayTo_at {l : List Fmt} {id day x : Int} (hid : 0 ≤ atF l id) (h : WayTo l id day x) : ∃ f ∈ l, f.id = x := by
  cases h with
  | start => obtain ⟨j, y, _, h1, h2⟩ := atF_mem hid; exact ⟨y, List.mem_of_getElem? h1, h2⟩
  | step h1 h2 h3 h4 => exact ⟨_, h1, rfl⟩
theorem waysL_mem {l : List Fmt} {id day x : Int} (hid : 0 ≤ atF l id) : x ∈ waysL l id day ↔ WayTo l id day x := by
  unfold waysL
  simp only [List.mem_map, List.mem_filter, decide_eq_true_eq]
  constructor
  · rintro ⟨f, ⟨_, h1⟩, rfl⟩; exact h1
  · intro h
    obtain ⟨f, h1, rfl⟩ := wayTo_at hid h
    exact ⟨f, ⟨h1, h⟩, rfl⟩
theorem waysL_rise {l : List Fmt} (hg : goodF l = true) (id day : Int) : RiseI (waysL l id day) := filter_map_rise _ _ (goodF_rise hg)
theorem waysL_length (l : List Fmt) (id day : Int) : (waysL l id day).length ≤ l.length := by
  unfold waysL; rw [List.length_map]; exact List.length_filter_le _ _
/-- Closed under the steps that can be used on the day. -/
def ClosedW (l : List Fmt) (day : Int) (S : List Int) : Prop := ∀ f ∈ l, day ≤ f.un → ∀ y ∈ f.rd, y ∈ S → f.id ∈ S
theorem ways_eq {l : List Fmt} {id day : Int} {S : List Int} (hg : goodF l = true) (hid : 0 ≤ atF l id) (hr : RiseI S) (h1 : id ∈ S) (h2 : ∀ x ∈ S, WayTo l id day x) (h3 : ClosedW l day S) : S = waysL l id day := by
  refine rise_ext hr (waysL_rise hg id day) fun x => ?_
  rw [waysL_mem hid]
  refine ⟨h2 x, fun h => ?_⟩
  induction h with
  | start => exact h1
  | step a b c _ ih => exact h3 _ a b _ c ih
theorem ways_len {l : List Fmt} {id day : Int} {S : List Int} (hid : 0 ≤ atF l id) (hn : S.Nodup) (h2 : ∀ x ∈ S, WayTo l id day x) : S.length ≤ l.length := by
  have hs : S ⊆ l.map (·.id) := fun x hx => by
    obtain ⟨f, h3, h4⟩ := wayTo_at hid (h2 x hx)
    exact List.mem_map.2 ⟨f, h3, h4⟩
  have := List.Nodup.length_le_of_subset hn hs
  simpa using this
theorem rise_nodup {l : List Int} (h : RiseI l) : l.Nodup := List.Pairwise.imp (fun h => by omega) h
theorem sort_rise {l : List Int} (h : l.Nodup) : RiseI (l.mergeSort fun x y => decide (x ≤ y)) := by
  have h1 := sort_sorted l
  have h2 : (l.mergeSort fun x y => decide (x ≤ y)).Nodup := (List.mergeSort_perm l _).nodup_iff.2 h
  exact List.Pairwise.imp₂ (fun a b h h' => by omega) h1 h2
def waysOk (l : List Fmt) (id day : Int) : Bool := goodF l && decide (0 ≤ atF l id) && inB day 0 20000
noncomputable def waysR (l : List Fmt) (id day : Int) : List Int := if waysOk l id day = true then waysL l id day else []
theorem waysR_yes {l : List Fmt} {id day : Int} (h : waysOk l id day = true) : waysR l id day = waysL l id day := if_pos h
theorem waysR_no {l : List Fmt} {id day : Int} (h : waysOk l id day = false) : waysR l id day = [] := if_neg (by rw [h]; exact Bool.false_ne_true)
theorem waysR_length (l : List Fmt) (id day : Int) : (waysR l id day).length ≤ l.length := by
  unfold waysR; split
  · exact waysL_length l id day
  · simp
/-- The program of the format f, which can be used on the day, reads the format u. -/
def leadB (day u : Int) (f : Fmt) : Bool := f.rd.contains u && decide (day ≤ f.un)
/-- A rising list of formats to which there is a path. -/
structure WayS (l : List Fmt) (id day : Int) (S : List Int) : Prop where
  rise : RiseI S
  here : id ∈ S
  way : ∀ x ∈ S, WayTo l id day x
theorem WayS.len {l : List Fmt} {id day : Int} {S : List Int} (h : WayS l id day S) (hid : 0 ≤ atF l id) : S.length ≤ l.length := ways_len hid (rise_nodup h.rise) h.way
theorem WayS.start (l : List Fmt) (id day : Int) : WayS l id day [id] := ⟨List.pairwise_singleton _ _, List.mem_cons_self, fun x hx => by simp only [List.mem_singleton] at hx; subst hx; exact .start⟩
theorem WayS.put {l : List Fmt} {id day : Int} {S : List Int} (h : WayS l id day S) {f : Fmt} {y : Int} (hf : f ∈ l) (hd : day ≤ f.un) (hy : y ∈ f.rd) (hS : y ∈ S) : WayS l id day (putI S f.id) :=
  ⟨putI_rise _ h.rise, (putI_mem _ _ _).2 (.inr h.here), fun x hx => by
    rcases (putI_mem _ _ _).1 hx with rfl | hx
    · exact .step hf hd hy (h.way y hS)
    · exact h.way x hx⟩
theorem putI_new {S : List Int} {x : Int} (h : x ∉ S) : (putI S x).length = S.length + 1 := by
  unfold putI
  rw [if_neg fun h' => h (List.mem_of_getElem? h')]
  have := lessN_le S x
  simp only [List.length_append, List.length_take, List.length_drop, List.length_singleton]; omega
/-- The search of the program: formats to which there is a path, each once; those ahead of place k are done. -/
structure WayQ (l : List Fmt) (id day : Int) (S : List Int) : Prop where
  nodup : S.Nodup
  here : id ∈ S
  way : ∀ x ∈ S, WayTo l id day x
theorem WayQ.len {l : List Fmt} {id day : Int} {S : List Int} (h : WayQ l id day S) (hid : 0 ≤ atF l id) : S.length ≤ l.length := ways_len hid h.nodup h.way
theorem WayQ.start (l : List Fmt) (id day : Int) : WayQ l id day [id] := ⟨by simp, List.mem_cons_self, fun x hx => by simp only [List.mem_singleton] at hx; subst hx; exact .start⟩
theorem WayQ.put {l : List Fmt} {id day : Int} {S : List Int} (h : WayQ l id day S) {f : Fmt} {y : Int} (hf : f ∈ l) (hl : leadB day y f = true) (hS : y ∈ S) (hn : f.id ∉ S) : WayQ l id day (S ++ [f.id]) := by
  simp only [leadB, Bool.and_eq_true, decide_eq_true_eq] at hl
  refine ⟨List.nodup_append.2 ⟨h.nodup, by simp, fun a ha b hb => ?_⟩, List.mem_append_left _ h.here, fun x hx => ?_⟩
  · simp only [List.mem_singleton] at hb
    rintro rfl
    subst hb
    exact hn ha
  · rcases List.mem_append.1 hx with hx | hx
    · exact h.way x hx
    · simp only [List.mem_singleton] at hx
      subst hx
      exact .step hf hl.2 (by simpa using hl.1) (h.way y hS)
/-- From the elements ahead of place k no step leads out. -/
def DoneQ (l : List Fmt) (day : Int) (S : List Int) (k : Nat) : Prop := ∀ j x, j < k → S[j]? = some x → ∀ f ∈ l, leadB day x f = true → f.id ∈ S
theorem wayQ_end {l : List Fmt} {id day : Int} {S : List Int} (hg : goodF l = true) (hid : 0 ≤ atF l id) (h : WayQ l id day S) (hd : DoneQ l day S S.length) : (S.mergeSort fun x y => decide (x ≤ y)) = waysL l id day := by
  refine ways_eq hg hid (sort_rise h.nodup) (mem_sort.2 h.here) (fun x hx => h.way x (mem_sort.1 hx)) fun f hf hu y hy hS => mem_sort.2 ?_
  obtain ⟨j, hj⟩ := List.mem_iff_getElem?.1 (mem_sort.1 hS)
  exact hd j y (List.getElem?_eq_some_iff.1 hj).1 hj f hf (by simp [leadB, hy, hu])
end Go.Rd
