/- What makes a list of formats good: the reference's test of one format and the program's, and that they come to one; without a program; no condition. -/
import Derived.Test.YtefabcnifbnehaaDoorFmtData
import Derived.Test.YtefabcnifbnehaaDoorWordData
namespace Go.Rd
open Go.Sort Go.RowKit
def atF (l : List Fmt) (id : Int) : Int := idxOf (fun x => x.id == id) l
theorem atF_cases (l : List Fmt) (id : Int) : atF l id = -1 ∨ ∃ (j : Nat) (y : Fmt), atF l id = (j : Int) ∧ l[j]? = some y ∧ y.id = id := by
  cases h : l.findIdx? (fun x => x.id == id) with
  | none => exact .inl (by unfold atF idxOf; rw [h])
  | some j =>
    obtain ⟨hj, h1, _⟩ := List.findIdx?_eq_some_iff_getElem.1 h
    exact .inr ⟨j, l[j], by unfold atF idxOf; rw [h], List.getElem?_eq_getElem hj, by simpa using h1⟩
theorem atF_ge (l : List Fmt) (id : Int) : -1 ≤ atF l id := by
  rcases atF_cases l id with h | ⟨j, _, h, _⟩ <;> omega
def okS (l : List Fmt) (x : Fmt) : Bool := inB x.id 1 50 && (okW x.na && (inB x.un 0 20000 && (decide (x.rd.length ≤ 10) && (riseB 1 50 x.rd && (!x.rd.contains x.id && x.rd.all fun y => decide (0 ≤ atF l y))))))
def okY (l : List Fmt) (x : Fmt) (y : Int) : Bool := !(y == x.id) && decide (0 ≤ atF l y)
def ltY (a b : Int) : Bool := decide (a < b)
def rdI (l : List Fmt) (x : Fmt) : Bool := ascB (okY l x) ltY x.rd && decide (x.rd.length ≤ 10)
def okI (l : List Fmt) (x : Fmt) : Bool := inB x.id 1 50 && (okW x.na && (inB x.un 0 20000 && rdI l x))
/-- The test of a format by P, its Id greater than the one's before it, its name like none of those before it. -/
def fOk (P : Fmt → Bool) (l : List Fmt) (k : Nat) : Bool :=
  P (l.getD k default) && (!(decide (0 < k) && decide ((l.getD k default).id ≤ (l.getD (k - 1) default).id)) && (l.take k).all fun g => !decide (g.na = (l.getD k default).na))
def goodW (P : Fmt → Bool) (l : List Fmt) : Bool := ((List.range l.length).all (fOk P l)) && decide (l.length ≤ 10)
def goodF (l : List Fmt) : Bool := goodW (okS l) l
theorem fOk_eq {P : Fmt → Bool} {l : List Fmt} {k : Nat} {x q : Fmt} (hx : l[k]? = some x) (hy : 0 < k → l[k - 1]? = some q) : fOk P l k = (P x && (!(decide (0 < k) && decide (x.id ≤ q.id)) && (l.take k).all fun g => !decide (g.na = x.na))) := by
  unfold fOk
  rw [show l.getD k default = x by rw [List.getD_eq_getElem?_getD, hx]; rfl]
  by_cases h0 : 0 < k
  · rw [show l.getD (k - 1) default = q by rw [List.getD_eq_getElem?_getD, hy h0]; rfl]
  · rw [decide_eq_false h0]; simp
theorem goodW_false {P : Fmt → Bool} {l : List Fmt} {k : Nat} (hk : k < l.length) (h : fOk P l k = false) : goodW P l = false := by
  unfold goodW
  rw [show ((List.range l.length).all (fOk P l)) = false by rw [List.all_eq_false]; exact ⟨k, List.mem_range.2 hk, by rw [h]; exact Bool.false_ne_true⟩]; rfl
theorem goodW_true {P : Fmt → Bool} {l : List Fmt} (h : ∀ k, k < l.length → fOk P l k = true) : goodW P l = decide (l.length ≤ 10) := by
  unfold goodW
  rw [show ((List.range l.length).all (fOk P l)) = true by rw [List.all_eq_true]; exact fun k hk => h k (List.mem_range.1 hk)]; rfl
theorem goodW_spec {P : Fmt → Bool} {l : List Fmt} (h : goodW P l = true) : (∀ k, k < l.length → fOk P l k = true) ∧ l.length ≤ 10 := by
  unfold goodW at h
  rw [Bool.and_eq_true, List.all_eq_true, decide_eq_true_eq] at h
  exact ⟨fun k hk => h.1 k (List.mem_range.2 hk), h.2⟩
theorem goodW_mem {P : Fmt → Bool} {l : List Fmt} (h : goodW P l = true) {x : Fmt} (hx : x ∈ l) : P x = true := by
  obtain ⟨i, hi, rfl⟩ := List.mem_iff_getElem.1 hx
  have := (goodW_spec h).1 i hi
  unfold fOk at this
  rw [Bool.and_eq_true, List.getD_eq_getElem?_getD, List.getElem?_eq_getElem hi] at this
  exact this.1
theorem goodW_congr {P Q : Fmt → Bool} {l : List Fmt} (h : ∀ x ∈ l, P x = Q x) : goodW P l = goodW Q l := by
  unfold goodW
  congr 1
  rw [Bool.eq_iff_iff, List.all_eq_true, List.all_eq_true]
  have : ∀ k ∈ List.range l.length, fOk P l k = fOk Q l k := by
    intro k hk
    have hk := List.mem_range.1 hk
    unfold fOk
    rw [h (l.getD k default) (by rw [List.getD_eq_getElem?_getD, List.getElem?_eq_getElem hk]; exact List.getElem_mem hk)]
  constructor
  · intro h1 k hk; rw [← this k hk]; exact h1 k hk
  · intro h1 k hk; rw [this k hk]; exact h1 k hk
theorem getD_mem {l : List Int} {i : Nat} (hi : i < l.length) : l.getD i default ∈ l := by
  rw [List.getD_eq_getElem?_getD, List.getElem?_eq_getElem hi]; exact List.getElem_mem hi
theorem okS_okI {l : List Fmt} {x : Fmt} (h : okS l x = true) : okI l x = true := by
  simp only [okS, Bool.and_eq_true, Bool.not_eq_true', decide_eq_true_eq, List.all_eq_true] at h
  obtain ⟨h1, h2, h3, h4, h5, h6, h7⟩ := h
  have h8 := ascB_spec h5
  unfold okI rdI
  rw [h1, h2, h3, decide_eq_true h4]
  simp only [Bool.true_and, Bool.and_true]
  refine ascB_true fun i hi => ?_
  refine ⟨?_, fun h0 => ?_⟩
  · unfold okY
    rw [decide_eq_true (h7 _ (getD_mem hi)), Bool.and_true, Bool.not_eq_true']
    refine beq_eq_false_iff_ne.2 fun he => ?_
    have : x.rd.contains x.id = true := by rw [List.contains_iff_mem, ← he]; exact getD_mem hi
    rw [this] at h6; exact Bool.noConfusion h6
  · exact (h8 i hi).2 h0
theorem okI_okS {l : List Fmt} (hall : ∀ x ∈ l, okI l x = true) {x : Fmt} (hx : x ∈ l) : okS l x = true := by
  have h := hall x hx
  simp only [okI, rdI, Bool.and_eq_true, decide_eq_true_eq] at h
  obtain ⟨h1, h2, h3, h4, h5⟩ := h
  have h8 := ascB_spec h4
  have hy : ∀ y ∈ x.rd, (y ≠ x.id ∧ 0 ≤ atF l y) := by
    intro y hy
    obtain ⟨i, hi, rfl⟩ := List.mem_iff_getElem.1 hy
    have := (h8 i hi).1
    rw [List.getD_eq_getElem?_getD, List.getElem?_eq_getElem hi] at this
    simp only [Option.getD_some, okY, Bool.and_eq_true, Bool.not_eq_true', decide_eq_true_eq, beq_eq_false_iff_ne] at this
    exact this
  unfold okS
  rw [h1, h2, h3, decide_eq_true h5]
  simp only [Bool.true_and, Bool.and_eq_true, Bool.not_eq_true', List.all_eq_true, decide_eq_true_eq]
  refine ⟨ascB_true fun i hi => ⟨?_, fun h0 => (h8 i hi).2 h0⟩, ?_, fun y hm => (hy y hm).2⟩
  · rcases atF_cases l (x.rd.getD i default) with hn | ⟨j, z, _, hz, hzid⟩
    · have := (hy _ (getD_mem hi)).2; omega
    · have hzz := hall z (List.mem_of_getElem? hz)
      simp only [okI, Bool.and_eq_true] at hzz
      rw [← hzid]; exact hzz.1
  · cases hc : x.rd.contains x.id
    · rfl
    · exact absurd rfl (hy _ (List.contains_iff_mem.1 hc)).1
theorem goodI_eq (l : List Fmt) : goodW (okI l) l = goodF l := by
  unfold goodF
  cases h : goodW (okI l) l
  · cases h2 : goodW (okS l) l
    · rfl
    · rw [goodW_congr (fun x hx => by rw [okS_okI (goodW_mem h2 hx), goodW_mem h2 hx] : ∀ x ∈ l, okI l x = okS l x), h2] at h; exact h.symm
  · rw [← h]
    exact goodW_congr fun x hx => by rw [okI_okS (fun y hy => goodW_mem h hy) hx, goodW_mem h hx]
theorem all_take_step {α : Type} {p : α → Bool} {l : List α} {k : Nat} {x : α} (hx : l[k]? = some x) (ht : (l.take k).all p = true) (hp : p x = true) : (l.take (k + 1)).all p = true := by
  rw [List.take_add_one, hx, List.all_append, ht]; simp [hp]
theorem all_take_no {α : Type} {p : α → Bool} {l : List α} {k j : Nat} {x : α} (hx : l[j]? = some x) (hj : j < k) (hp : p x = false) : (l.take k).all p = false := by
  rw [List.all_eq_false]
  exact ⟨x, List.mem_of_getElem? (i := j) (by rw [List.getElem?_take, if_pos hj]; exact hx), by rw [hp]; exact Bool.false_ne_true⟩
theorem all_no' {α : Type} {p : α → Bool} {l : List α} {j : Nat} {x : α} (hx : l[j]? = some x) (hp : p x = false) : l.all p = false := by
  rw [List.all_eq_false]; exact ⟨x, List.mem_of_getElem? hx, by rw [hp]; exact Bool.false_ne_true⟩
theorem Fmt.Rd.take {w : World} {b off n cap : Nat} {l : List Fmt} (h : Fmt.Rd w (.slice (some ⟨b, off, none⟩) n cap) l) {k : Nat} (hk : k ≤ l.length) : Fmt.Rd w (.slice (some ⟨b, off, none⟩) k cap) (l.take k) := by
  obtain ⟨pl, rfl, h1, h2⟩ := h
  refine ⟨pl.take k, by rw [List.map_take], ?_, fun p hp => h2 p (List.mem_of_mem_take hp)⟩
  simp only [List.length_map] at hk
  have hlen : (pl.take k).length = k := by rw [List.length_take]; omega
  refine ⟨flat_length Fmt.enc 4 Fmt.enc_len _, some ⟨b, off, none⟩, cap, by rw [hlen], ?_⟩
  rw [hlen]
  by_cases h0 : k = 0
  · exact .inl h0
  obtain ⟨_, b', off', ha, hc⟩ := h1.at (by omega)
  simp only [Option.some.injEq, Addr.mk.injEq, and_true] at ha
  obtain ⟨rfl, rfl⟩ := ha
  refine .inr ⟨b, off, rfl, fun j hj => ?_⟩
  have e : (pl.take k).flatMap Fmt.enc = (pl.flatMap Fmt.enc).take (k * 4) := by
    have e2 := flat_take_length Fmt.enc 4 Fmt.enc_len pl k (by omega)
    conv => rhs; rw [← List.take_append_drop k pl, List.flatMap_append]
    rw [List.take_left' e2]
  rw [e, List.getElem?_take, if_pos (by omega)]
  exact hc j (by omega)
end Go.Rd
