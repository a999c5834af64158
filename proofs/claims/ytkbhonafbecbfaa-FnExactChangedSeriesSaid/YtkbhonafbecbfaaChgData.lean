/- The series for which a version has other rules than the one before it, as plain functions; without a program; no condition beyond the lists that are named. -/
import Derived.Test.YtkbhonafbecbfaaVersData
import Derived.Test.YtkbhonafbecbfaaDecData
import Derived.Test.YtkbhonafbecbfaaPutData
import Derived.Test.YtkbhonafbecbfaaSortData
namespace Go.Rd
def same (b o : List Rul) (s : Int) : Bool := decide (forR b s = forR o s)
/-- 1, .., n. -/
def upTo (n : Nat) : List Int := (List.range n).map fun i : Nat => (i : Int) + 1
def chgK (b o : List Rul) (n : Nat) : List Int := (upTo n).filter fun s => !same b o s
theorem upTo_rise (n : Nat) : RiseI (upTo n) := by
  unfold upTo RiseI
  rw [List.pairwise_map]
  exact (List.pairwise_lt_range (n := n)).imp fun h => by omega
theorem upTo_mem {n : Nat} {x : Int} : x ∈ upTo n ↔ 1 ≤ x ∧ x ≤ n := by
  unfold upTo
  simp only [List.mem_map, List.mem_range]
  constructor
  · rintro ⟨i, h1, rfl⟩; omega
  · intro h; exact ⟨(x - 1).toNat, by omega, by omega⟩
theorem upTo_succ (n : Nat) : upTo (n + 1) = upTo n ++ [(n : Int) + 1] := by unfold upTo; rw [List.range_succ]; simp
theorem chgK_zero (b o : List Rul) : chgK b o 0 = [] := rfl
theorem chgK_yes {b o : List Rul} {n : Nat} (h : same b o ((n : Int) + 1) = false) : chgK b o (n + 1) = chgK b o n ++ [(n : Int) + 1] := by
  unfold chgK; rw [upTo_succ, List.filter_append]; simp [h]
theorem chgK_no {b o : List Rul} {n : Nat} (h : same b o ((n : Int) + 1) = true) : chgK b o (n + 1) = chgK b o n := by
  unfold chgK; rw [upTo_succ, List.filter_append]; simp [h]
theorem chgK_len (b o : List Rul) (n : Nat) : (chgK b o n).length ≤ n := by
  unfold chgK; exact Nat.le_trans (List.length_filter_le _ _) (by simp [upTo])
theorem addN_mem {o : List Int} {x y : Int} : y ∈ addN o x ↔ y ∈ o ∨ y = x := by
  unfold addN
  split
  · rename_i h
    constructor
    · exact .inl
    · rintro (h1 | rfl)
      · exact h1
      · simpa using h
  · simp
theorem sIn_mem {l : List Rul} {x : Int} : x ∈ sIn l ↔ ∃ r ∈ l, r.se = x := by
  unfold sIn
  suffices h : ∀ (l : List Rul) (o : List Int), x ∈ l.foldl (fun o r => addN o r.se) o ↔ x ∈ o ∨ ∃ r ∈ l, r.se = x by simpa using h l []
  intro l
  induction l with
  | nil => simp
  | cons r l ih =>
    intro o
    rw [List.foldl_cons, ih, addN_mem]
    constructor
    · rintro ((h | rfl) | ⟨r', h1, h2⟩)
      · exact .inl h
      · exact .inr ⟨r, List.mem_cons_self, rfl⟩
      · exact .inr ⟨r', List.mem_cons_of_mem _ h1, h2⟩
    · rintro (h | ⟨r', h1, h2⟩)
      · exact .inl (.inl h)
      · rcases List.mem_cons.1 h1 with rfl | h1
        · exact .inl (.inr h2.symm)
        · exact .inr ⟨r', h1, h2⟩
theorem forR_none {l : List Rul} {x : Int} (h : x ∉ sIn l) : forR l x = [] := by
  unfold forR
  rw [List.filter_eq_nil_iff]
  intro r hr hs
  exact h (sIn_mem.2 ⟨r, hr, by simpa using hs⟩)
theorem sIn_bounds {l : List Rul} (hg : goodR l = true) {x : Int} (h : x ∈ sIn l) : 1 ≤ x ∧ x ≤ 99 := by
  obtain ⟨r, hr, rfl⟩ := sIn_mem.1 h
  have := goodR_mem hg hr
  simp only [okR, Bool.and_eq_true, inB_true] at this
  omega
/-- The program's way: all series of the two, sorted, each once, without those whose rules are the same. -/
theorem chg_eq {b o : List Rul} (hb : goodR b = true) (ho : goodR o = true) : ((Lib.compact ((sIn b ++ sIn o).mergeSort fun x y => decide (x ≤ y))).filter fun s => !same b o s) = chgK b o 99 := by
  refine rise_ext ((compact_strict (sort_sorted _)).sublist List.filter_sublist) ((upTo_rise 99).sublist List.filter_sublist) fun x => ?_
  unfold chgK
  rw [List.mem_filter, List.mem_filter, mem_compact, mem_sort, upTo_mem, List.mem_append]
  constructor
  · rintro ⟨h1 | h1, h2⟩
    · exact ⟨by have := sIn_bounds hb h1; omega, h2⟩
    · exact ⟨by have := sIn_bounds ho h1; omega, h2⟩
  · rintro ⟨_, h2⟩
    refine ⟨?_, h2⟩
    by_cases h3 : x ∈ sIn b
    · exact .inl h3
    · by_cases h4 : x ∈ sIn o
      · exact .inr h4
      · exfalso
        rw [show same b o x = true by unfold same; rw [forR_none h3, forR_none h4]; rfl] at h2
        cases h2
def chgOk (l : List Ver) (v : Int) : Bool := goodVs l && inB v 1 ((l.length : Int) - 1)
def rulesAt (l : List Ver) (i : Int) : List Rul := (l.getD i.toNat default).rs
def chgL (l : List Ver) (v : Int) : List Int := if chgOk l v = true then chgK (rulesAt l (v - 1)) (rulesAt l v) 99 else []
theorem chgL_yes {l : List Ver} {v : Int} (h : chgOk l v = true) : chgL l v = chgK (rulesAt l (v - 1)) (rulesAt l v) 99 := if_pos h
theorem chgL_no {l : List Ver} {v : Int} (h : chgOk l v = false) : chgL l v = [] := if_neg (by rw [h]; exact Bool.false_ne_true)
theorem chgL_length (l : List Ver) (v : Int) : (chgL l v).length ≤ 99 := by
  unfold chgL; split
  · exact chgK_len _ _ _
  · simp
theorem rulesAt_at {l : List Ver} {i : Int} {u : Ver} (h : l[i.toNat]? = some u) : rulesAt l i = u.rs := by
  unfold rulesAt; rw [List.getD_eq_getElem?_getD, h]; rfl
end Go.Rd
