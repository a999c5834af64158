/- The release of a hold as a plain function; without a program; no condition. -/
import Derived.Test.YtkbhonafbecbfaaNeedData
import Derived.Test.YtkbhonafbecbfaaHoldData
namespace Go.Rd
def setUn (h : Hld) (d : Int) : Hld := { h with un := d }
def relP (id day : Int) (h : Hld) : Bool := h.id == id && (h.un == -1 && inB day (h.fr + 1) 20000)
def relO (l : List Hld) (id day : Int) : Option (List Hld) :=
  if goodHs l = true ∧ 0 ≤ idxOf (relP id day) l then some (l.set (idxOf (relP id day) l).toNat (setUn (l.getD (idxOf (relP id day) l).toNat default) day)) else none
theorem relO_bad {l : List Hld} {id day : Int} (h : goodHs l = false) : relO l id day = none := if_neg fun h' => by rw [h] at h'; exact Bool.false_ne_true h'.1
theorem relO_none {l : List Hld} {id day : Int} (h : ∀ (j : Nat) y, l[j]? = some y → relP id day y = false) : relO l id day = none := if_neg fun h' => by rw [idxOf_none h] at h'; omega
theorem relO_at {l : List Hld} {id day : Int} {k : Nat} {h : Hld} (hg : goodHs l = true) (hk : l[k]? = some h) (hp : relP id day h = true) (hall : ∀ j y, j < k → l[j]? = some y → relP id day y = false) : relO l id day = some (l.set k (setUn h day)) := by
  unfold relO
  rw [idxOf_at hk hp hall, if_pos ⟨hg, Int.natCast_nonneg k⟩, Int.toNat_natCast, List.getD_eq_getElem?_getD, hk]; rfl
theorem goodHs_ids {l : List Hld} (h : goodHs l = true) {i j : Nat} {x y : Hld} (hx : l[i]? = some x) (hy : l[j]? = some y) (hid : x.id = y.id) : i = j := by
  have h1 : RiseI (l.map (·.id)) := by
    refine rise_of_steps fun i x y hx hy => ?_
    rw [List.getElem?_map] at hx hy
    cases ha : l[i]? with
    | none => rw [ha] at hx; cases hx
    | some a =>
      cases hb : l[i + 1]? with
      | none => rw [hb] at hy; cases hy
      | some b =>
        rw [ha] at hx; rw [hb] at hy
        simp only [Option.map_some, Option.some.injEq] at hx hy
        simp only [goodHs, Bool.and_eq_true] at h
        have := (ascB_spec h.1 (i + 1) (List.getElem?_eq_some_iff.1 hb).1).2 (by omega)
        rw [List.getD_eq_getElem?_getD, List.getD_eq_getElem?_getD, Nat.add_sub_cancel, ha, hb] at this
        have := of_decide_eq_true this
        simp only [Option.getD_some] at this
        omega
  have h2 := List.pairwise_iff_getElem.1 h1
  have hi := (List.getElem?_eq_some_iff.1 hx)
  have hj := (List.getElem?_eq_some_iff.1 hy)
  rcases Nat.lt_trichotomy i j with hlt | heq | hlt
  · have := h2 i j (by rw [List.length_map]; exact hi.1) (by rw [List.length_map]; exact hj.1) hlt
    simp only [List.getElem_map] at this
    rw [hi.2, hj.2] at this; omega
  · exact heq
  · have := h2 j i (by rw [List.length_map]; exact hj.1) (by rw [List.length_map]; exact hi.1) hlt
    simp only [List.getElem_map] at this
    rw [hi.2, hj.2] at this; omega
/-- No other hold has the id: so one hold alone decides. -/
theorem relO_only {l : List Hld} {id day : Int} {k : Nat} {h : Hld} (hg : goodHs l = true) (hk : l[k]? = some h) (hid : h.id = id) (hp : relP id day h = false) : relO l id day = none := by
  refine relO_none fun j y hy => ?_
  by_cases hjk : j = k
  · subst hjk
    rw [hk] at hy
    simp only [Option.some.injEq] at hy
    rw [← hy]; exact hp
  · have : y.id ≠ id := fun he => hjk (goodHs_ids hg hy hk (by rw [he, hid]))
    simp [relP, this]
theorem relP_un {h : Hld} {id day : Int} (hu : 0 ≤ h.un) : relP id day h = false := by
  have : (h.un == -1) = false := beq_eq_false_iff_ne.2 (by omega)
  simp [relP, this]
theorem relP_day {h : Hld} {id day : Int} (hh : okH h = true) (hd : inB day 0 20000 = false) : relP id day h = false := by
  have h1 := (okH_parts hh).2.1
  have : inB day (h.fr + 1) 20000 = false := by
    cases hb : inB day (h.fr + 1) 20000
    · rfl
    · have := inB_true.1 hb
      have : inB day 0 20000 = true := inB_true.2 (by omega)
      rw [this] at hd; cases hd
  simp [relP, this]
theorem okH_set {h : Hld} {day : Int} (hh : okH h = true) (hd : inB day 0 20000 = true) : okH (setUn h day) = inB day (h.fr + 1) 20000 := by
  have hd := inB_true.1 hd
  have h1 : (day == -1) = false := beq_eq_false_iff_ne.2 (by omega)
  simp only [okH, Bool.and_eq_true] at hh
  simp only [okH, setUn, hh.1.1.1.1.1, hh.1.1.1.1.2, hh.1.1.2, hh.1.2, hh.2, h1, Bool.true_and, Bool.and_true, Bool.false_or]
theorem goodHs_set {l : List Hld} {k : Nat} {h : Hld} {day : Int} (hg : goodHs l = true) (hk : l[k]? = some h) (hd : inB day 0 20000 = true) : goodHs (l.set k (setUn h day)) = inB day (h.fr + 1) 20000 := by
  have hkl := (List.getElem?_eq_some_iff.1 hk).1
  have hok := okH_set (goodHs_mem hg (List.mem_of_getElem? hk)) hd
  simp only [goodHs, Bool.and_eq_true] at hg
  have hget : ∀ i, i ≠ k → (l.set k (setUn h day)).getD i default = l.getD i default := fun i hi => by
    rw [List.getD_eq_getElem?_getD, List.getD_eq_getElem?_getD, List.getElem?_set_ne (Ne.symm hi)]
  have hgk : (l.set k (setUn h day)).getD k default = setUn h day := by
    rw [List.getD_eq_getElem?_getD, List.getElem?_set_self hkl]; rfl
  have hgk2 : l.getD k default = h := by rw [List.getD_eq_getElem?_getD, hk]; rfl
  have hid : ∀ i, ((l.set k (setUn h day)).getD i default).id = (l.getD i default).id := fun i => by
    by_cases hi : i = k
    · subst hi; rw [hgk, hgk2]; rfl
    · rw [hget i hi]
  unfold goodHs
  rw [List.length_set, hg.2, Bool.and_true]
  cases hb : inB day (h.fr + 1) 20000
  case false =>
    refine ascB_false (k := k) (by rw [List.length_set]; exact hkl) (not_ascAt_ok (x := setUn h day) (by rw [List.getElem?_set_self hkl]) (by rw [hok, hb]))
  case true =>
    refine ascB_true fun i hi => ?_
    rw [List.length_set] at hi
    obtain ⟨h1, h2⟩ := ascB_spec hg.1 i hi
    refine ⟨?_, fun h0 => ?_⟩
    · by_cases hik : i = k
      · subst hik; rw [hgk, hok, hb]
      · rw [hget i hik]; exact h1
    · have := h2 h0
      unfold ltH at this ⊢
      rw [hid, hid]; exact this
theorem relO_bound (l : List Hld) (id day : Int) : ((relO l id day).getD []).length + Hld.wt ((relO l id day).getD []) ≤ l.length + Hld.wt l := by
  unfold relO
  split
  · obtain ⟨k, hk⟩ : ∃ k, (idxOf (relP id day) l).toNat = k := ⟨_, rfl⟩
    rw [hk]
    simp only [Option.getD_some, List.length_set]
    have : Hld.wt (l.set k (setUn (l.getD k default) day)) = Hld.wt l := by
      unfold Hld.wt
      congr 1
      apply List.ext_getElem?
      intro i
      rw [List.getElem?_map, List.getElem?_map, List.getElem?_set]
      by_cases hi : k = i
      · subst hi
        rw [if_pos rfl]
        by_cases hk : k < l.length
        · rw [if_pos hk, List.getElem?_eq_getElem hk, List.getD_eq_getElem?_getD, List.getElem?_eq_getElem hk]; rfl
        · rw [if_neg hk, List.getElem?_eq_none (by omega)]
      · rw [if_neg hi]
    omega
  · simp [Hld.wt]
end Go.Rd
