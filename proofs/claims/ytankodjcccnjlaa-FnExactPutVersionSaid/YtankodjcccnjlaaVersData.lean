/- Versions as plain functions; without a program; no condition. -/
import Derived.Test.YtankodjcccnjlaaRecData
namespace Go.Rd
def okV (v : Ver) : Bool := inB v.fr 0 20000 && goodR v.rs
def ltV (a b : Ver) : Bool := decide (a.fr < b.fr)
def goodVs (l : List Ver) : Bool := ascB okV ltV l && decide (l.length ≤ 5)
theorem geV_not (a b : Ver) : decide (b.fr ≤ a.fr) = !ltV a b := by
  unfold ltV; rw [Bool.eq_iff_iff]; simp
theorem goodVs_mem {l : List Ver} (h : goodVs l = true) {x : Ver} (hx : x ∈ l) : okV x = true := by
  simp only [goodVs, Bool.and_eq_true] at h
  obtain ⟨i, hi, rfl⟩ := List.mem_iff_getElem.1 hx
  have := (ascB_spec h.1 i hi).1
  rwa [List.getD_eq_getElem?_getD, List.getElem?_eq_getElem hi] at this
theorem goodVs_len {l : List Ver} (h : goodVs l = true) : l.length ≤ 5 := by
  simp only [goodVs, Bool.and_eq_true, decide_eq_true_eq] at h; exact h.2
theorem okV_parts {v : Ver} (h : okV v = true) : (0 ≤ v.fr ∧ v.fr ≤ 20000) ∧ goodR v.rs = true := by
  simp only [okV, Bool.and_eq_true, inB_true] at h; exact h
/-- The index of the last version from a day not after the given one; -1 where there is none. -/
def onV (l : List Ver) (day : Int) : Nat → Int
  | 0 => -1
  | k + 1 => if ((l[k]?).any fun v => decide (v.fr ≤ day)) = true then (k : Int) else onV l day k
theorem onV_yes {l : List Ver} {day : Int} {k : Nat} {v : Ver} (hx : l[k]? = some v) (h : decide (v.fr ≤ day) = true) : onV l day (k + 1) = k := by
  rw [onV, hx, Option.any_some, if_pos h]
theorem onV_no {l : List Ver} {day : Int} {k : Nat} {v : Ver} (hx : l[k]? = some v) (h : decide (v.fr ≤ day) = false) : onV l day (k + 1) = onV l day k := by
  rw [onV, hx, Option.any_some, if_neg (by rw [h]; exact Bool.false_ne_true)]
theorem onV_bound (l : List Ver) (day : Int) : ∀ n : Nat, -1 ≤ onV l day n ∧ onV l day n < n
  | 0 => by simp [onV]
  | n + 1 => by
    have := onV_bound l day n
    rw [onV]; split <;> omega
def onVs (l : List Ver) (day : Int) : Int := onV l day l.length
def verOk (l : List Ver) (day : Int) : Bool := goodVs l && inB day 0 20000 && decide (0 ≤ onVs l day)
def verO (l : List Ver) (day : Int) : Int := if verOk l day = true then onVs l day else 0
theorem verO_yes {l : List Ver} {day : Int} (h : verOk l day = true) : verO l day = onVs l day := if_pos h
theorem verO_no {l : List Ver} {day : Int} (h : verOk l day = false) : verO l day = 0 := if_neg (by rw [h]; exact Bool.false_ne_true)
def askedV (l : List Ver) (r : Rec) (day : Int) : Bool := goodVs l && okRec r && inB day 0 20000
theorem askedV_parts {l : List Ver} {r : Rec} {day : Int} (h : askedV l r day = true) : goodVs l = true ∧ okRec r = true ∧ 0 ≤ day ∧ day ≤ 20000 := by
  simp only [askedV, Bool.and_eq_true, inB_true] at h
  exact ⟨h.1.1, h.1.2, h.2.1, h.2.2⟩
end Go.Rd
