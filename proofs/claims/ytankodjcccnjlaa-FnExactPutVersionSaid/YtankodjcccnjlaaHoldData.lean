/- Holds as plain functions; without a program; no condition. -/
import Derived.Test.YtankodjcccnjlaaRecData
import Derived.Test.YtankodjcccnjlaaFmData
namespace Go.Rd
def okH (h : Hld) : Bool := inB h.id 1 99 && inB h.fr 0 20000 && (h.un == -1 || inB h.un (h.fr + 1) 20000) && seriesOk h.ss 5 && inB h.fi 0 20000 && inB h.la h.fi 20000
def ltH (a b : Hld) : Bool := decide (a.id < b.id)
def goodHs (l : List Hld) : Bool := ascB okH ltH l && decide (l.length ≤ 8)
/-- The hold covers the record on the day. -/
def cov (h : Hld) (r : Rec) (day : Int) : Bool := decide (h.fr ≤ day) && (h.un == -1 || decide (day < h.un)) && (decide (h.ss.length = 0) || h.ss.contains r.se) && inB r.ma h.fi h.la
def onL (l : List Hld) (r : Rec) (day : Int) : List Int := (l.filter fun h => cov h r day).map (·.id)
def askedH (l : List Hld) (r : Rec) (day : Int) : Bool := goodHs l && okRec r && inB day 0 20000
theorem goodHs_mem {l : List Hld} (h : goodHs l = true) {x : Hld} (hx : x ∈ l) : okH x = true := by
  simp only [goodHs, Bool.and_eq_true] at h
  obtain ⟨i, hi, rfl⟩ := List.mem_iff_getElem.1 hx
  have := (ascB_spec h.1 i hi).1
  rwa [List.getD_eq_getElem?_getD, List.getElem?_eq_getElem hi] at this
theorem goodHs_len {l : List Hld} (h : goodHs l = true) : l.length ≤ 8 := by
  simp only [goodHs, Bool.and_eq_true, decide_eq_true_eq] at h; exact h.2
theorem okH_parts {h : Hld} (hh : okH h = true) : (1 ≤ h.id ∧ h.id ≤ 99) ∧ (0 ≤ h.fr ∧ h.fr ≤ 20000) ∧ (h.un = -1 ∨ (h.fr + 1 ≤ h.un ∧ h.un ≤ 20000)) ∧ h.ss.length ≤ 5 := by
  simp only [okH, seriesOk, Bool.and_eq_true, Bool.or_eq_true, inB_true, decide_eq_true_eq, beq_iff_eq] at hh
  obtain ⟨⟨⟨⟨⟨h1, h2⟩, h3⟩, h4, h5⟩, _⟩, _⟩ := hh
  exact ⟨h1, h2, h3, by omega⟩
theorem onL_length (l : List Hld) (r : Rec) (day : Int) : (onL l r day).length ≤ l.length := by
  unfold onL; rw [List.length_map]; exact List.length_filter_le _ _
theorem geHld_not (a b : Hld) : decide (b.id ≤ a.id) = !ltH a b := by
  unfold ltH; rw [Bool.eq_iff_iff]; simp
end Go.Rd
