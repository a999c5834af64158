/- What versions decide for a record, as plain functions; without a program; no condition. -/
import Derived.Test.YtkbhonafbecbfaaVersData
import Derived.Test.YtkbhonafbecbfaaDecData
namespace Go.Rd
theorem at_some {l : List Ver} {day : Int} (h : 0 ≤ onVs l day) : ∃ v, l[(onVs l day).toNat]? = some v := by
  have := onV_bound l day l.length
  exact get_of_lt (by unfold onVs at *; omega)
/-- Why a record is due or not, by number: 0 not asked, 1 no version, 2 no series, 3 an event lacks, 4 too early, 5 due. -/
def whyV (r : Rec) (rs : List Rul) (day : Int) : Nat := if (forR rs r.se).length = 0 then 2 else if (decD r rs).2 < 0 then 3 else if day < (decD r rs).2 then 4 else 5
def whyN (l : List Ver) (r : Rec) (day : Int) : Nat :=
  if askedV l r day = true then (if 0 ≤ onVs l day then whyV r ((l[(onVs l day).toNat]?).getD default).rs day else 1) else 0
theorem whyN_0 {l : List Ver} {r : Rec} {day : Int} (h : askedV l r day = false) : whyN l r day = 0 := if_neg (by rw [h]; exact Bool.false_ne_true)
theorem whyN_1 {l : List Ver} {r : Rec} {day : Int} (h : askedV l r day = true) (h1 : ¬ 0 ≤ onVs l day) : whyN l r day = 1 := by
  unfold whyN; rw [if_pos h, if_neg h1]
theorem whyN_v {l : List Ver} {r : Rec} {day : Int} (h : askedV l r day = true) (h1 : 0 ≤ onVs l day) {v : Ver} (hv : l[(onVs l day).toNat]? = some v) : whyN l r day = whyV r v.rs day := by
  unfold whyN; rw [if_pos h, if_pos h1, hv]; rfl
theorem whyV_2 {r : Rec} {rs : List Rul} {day : Int} (h : (forR rs r.se).length = 0) : whyV r rs day = 2 := if_pos h
theorem whyV_3 {r : Rec} {rs : List Rul} {day : Int} (h : ¬ (forR rs r.se).length = 0) (h1 : (decD r rs).2 < 0) : whyV r rs day = 3 := by
  unfold whyV; rw [if_neg h, if_pos h1]
theorem whyV_4 {r : Rec} {rs : List Rul} {day : Int} (h : ¬ (forR rs r.se).length = 0) (h1 : ¬ (decD r rs).2 < 0) (h2 : day < (decD r rs).2) : whyV r rs day = 4 := by
  unfold whyV; rw [if_neg h, if_neg h1, if_pos h2]
theorem whyV_5 {r : Rec} {rs : List Rul} {day : Int} (h : ¬ (forR rs r.se).length = 0) (h1 : ¬ (decD r rs).2 < 0) (h2 : ¬ day < (decD r rs).2) : whyV r rs day = 5 := by
  unfold whyV; rw [if_neg h, if_neg h1, if_neg h2]
theorem decD_empty {r : Rec} {rs : List Rul} (h : (forR rs r.se).length = 0) : (decD r rs).2 = -1 := by
  have : forR rs r.se = [] := List.eq_nil_of_length_eq_zero h
  unfold decD; rw [this]; rfl
theorem whyV_due (r : Rec) (rs : List Rul) (day : Int) : (whyV r rs day == 5) = inB (decD r rs).2 0 day := by
  unfold whyV
  by_cases h : (forR rs r.se).length = 0
  · rw [if_pos h, decD_empty h]; simp [inB]
  · rw [if_neg h]
    by_cases h1 : (decD r rs).2 < 0
    · rw [if_pos h1]; simp [inB]; omega
    · rw [if_neg h1]
      by_cases h2 : day < (decD r rs).2
      · rw [if_pos h2]; simp [inB]; omega
      · rw [if_neg h2]; simp [inB]; omega
def wordB : Nat → ByteArray
  | 0 => ⟨#[]⟩
  | 1 => ⟨#[110, 111, 110, 101]⟩
  | 2 => ⟨#[115, 101, 114, 105, 101, 115]⟩
  | 3 => ⟨#[101, 118, 101, 110, 116]⟩
  | 4 => ⟨#[101, 97, 114, 108, 121]⟩
  | _ => ⟨#[100, 117, 101]⟩
def dueDs (l : List Ver) (r : Rec) : List Int := l.map fun v => (decD r v.rs).2
def dueDL (l : List Ver) (r : Rec) : List Int := if askedV l r 0 = true then dueDs l r else []
theorem dueDL_yes {l : List Ver} {r : Rec} (h : askedV l r 0 = true) : dueDL l r = dueDs l r := if_pos h
theorem dueDL_no {l : List Ver} {r : Rec} (h : askedV l r 0 = false) : dueDL l r = [] := if_neg (by rw [h]; exact Bool.false_ne_true)
theorem dueDs_length (l : List Ver) (r : Rec) : (dueDs l r).length = l.length := by unfold dueDs; rw [List.length_map]
theorem dueDL_length (l : List Ver) (r : Rec) : (dueDL l r).length ≤ l.length := by
  unfold dueDL; split
  · rw [dueDs_length]; exact Nat.le_refl _
  · simp
theorem dueDs_step {l : List Ver} {r : Rec} {k : Nat} {v : Ver} (h : l[k]? = some v) : dueDs (l.take (k + 1)) r = dueDs (l.take k) r ++ [(decD r v.rs).2] := by
  unfold dueDs; rw [List.take_add_one, h]; simp
/-- The last day of version k. -/
def lastV (l : List Ver) (k : Nat) : Int := match l[k + 1]? with | some v => v.fr - 1 | none => 20000
def hitV (l : List Ver) (r : Rec) (k : Nat) : Option Int :=
  match l[k]? with
  | some v => if 0 ≤ (decD r v.rs).2 ∧ (decD r v.rs).2 ≤ lastV l k then some (max (decD r v.rs).2 v.fr) else none
  | none => none
def scanV (l : List Ver) (r : Rec) : Nat → Nat → Option Int
  | 0, _ => none
  | n + 1, k => match hitV l r k with | some x => some x | none => scanV l r n (k + 1)
def firstVO (l : List Ver) (r : Rec) : Option Int := if askedV l r 0 = true then scanV l r l.length 0 else none
theorem firstVO_yes {l : List Ver} {r : Rec} (h : askedV l r 0 = true) : firstVO l r = scanV l r l.length 0 := if_pos h
theorem firstVO_no {l : List Ver} {r : Rec} (h : askedV l r 0 = false) : firstVO l r = none := if_neg (by rw [h]; exact Bool.false_ne_true)
theorem scanV_hit {l : List Ver} {r : Rec} {k : Nat} {v : Ver} (hk : k < l.length) (hx : l[k]? = some v) (h : 0 ≤ (decD r v.rs).2 ∧ (decD r v.rs).2 ≤ lastV l k) : scanV l r (l.length - k) k = some (max (decD r v.rs).2 v.fr) := by
  rw [show l.length - k = (l.length - (k + 1)) + 1 by omega, scanV]
  have : hitV l r k = some (max (decD r v.rs).2 v.fr) := by unfold hitV; rw [hx]; exact if_pos h
  rw [this]
theorem scanV_miss {l : List Ver} {r : Rec} {k : Nat} {v : Ver} (hk : k < l.length) (hx : l[k]? = some v) (h : ¬ (0 ≤ (decD r v.rs).2 ∧ (decD r v.rs).2 ≤ lastV l k)) : scanV l r (l.length - k) k = scanV l r (l.length - (k + 1)) (k + 1) := by
  rw [show l.length - k = (l.length - (k + 1)) + 1 by omega, scanV]
  have : hitV l r k = none := by unfold hitV; rw [hx]; exact if_neg h
  rw [this]
theorem scanV_end {l : List Ver} {r : Rec} {k : Nat} (h : l.length ≤ k) : scanV l r (l.length - k) k = none := by
  rw [show l.length - k = 0 by omega]; rfl
theorem lastV_next {l : List Ver} {k : Nat} {v : Ver} (h : l[k + 1]? = some v) : lastV l k = v.fr - 1 := by unfold lastV; rw [h]
theorem lastV_end {l : List Ver} {k : Nat} (h : l.length ≤ k + 1) : lastV l k = 20000 := by unfold lastV; rw [List.getElem?_eq_none h]
/-- A version begins before its last day. -/
theorem lastV_fr {l : List Ver} (hg : goodVs l = true) {k : Nat} {v : Ver} (hx : l[k]? = some v) : v.fr ≤ lastV l k := by
  have hk := (List.getElem?_eq_some_iff.1 hx).1
  have hv := (okV_parts (goodVs_mem hg (List.mem_of_getElem? hx))).1
  by_cases h : k + 1 < l.length
  · obtain ⟨u, hu⟩ := get_of_lt h
    rw [lastV_next hu]
    simp only [goodVs, Bool.and_eq_true] at hg
    have := (ascAt_iff (ok := okV) (lt := ltV) (l := l) (k := k + 1) (y := v) hu (fun _ => by simpa using hx)).1 (ascB_spec hg.1 (k + 1) h)
    have h2 := this.2 (by omega)
    simp only [ltV, decide_eq_true_eq] at h2
    omega
  · rw [lastV_end (by omega)]; omega
end Go.Rd
