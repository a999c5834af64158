/- The format that lives longest among those to which there is a path, as plain functions; without a program; no condition beyond the lists that are named. -/
import Derived.Test.YtefabcnifbnehaaDoorFmtOps
namespace Go.Rd
open Go.Sort Go.RowKit
def bestK (l : List Fmt) (ws : List Int) (k : Nat) : Int × Int := (ws.take k).foldl (bestF l) (0, -1)
theorem bestK_succ (l : List Fmt) {ws : List Int} {k : Nat} {x : Int} (h : ws[k]? = some x) : bestK l ws (k + 1) = bestF l (bestK l ws k) x := by
  unfold bestK; rw [List.take_add_one, h, List.foldl_append]; rfl
theorem bestK_yes {l : List Fmt} {ws : List Int} {k : Nat} {x : Int} (h : ws[k]? = some x) (hc : (bestK l ws k).2 < unF l x) : bestK l ws (k + 1) = (x, unF l x) := by
  rw [bestK_succ l h, bestF, if_pos hc]
theorem bestK_no {l : List Fmt} {ws : List Int} {k : Nat} {x : Int} (h : ws[k]? = some x) (hc : ¬ (bestK l ws k).2 < unF l x) : bestK l ws (k + 1) = bestK l ws k := by
  rw [bestK_succ l h, bestF, if_neg hc]
theorem bestK_zero (l : List Fmt) (ws : List Int) : bestK l ws 0 = (0, -1) := by simp [bestK]
theorem bestK_end {l : List Fmt} {ws : List Int} {k : Nat} (h : ws.length ≤ k) : bestK l ws k = bestK l ws ws.length := by
  unfold bestK; rw [List.take_of_length_le h, List.take_length]
theorem ways_id {l : List Fmt} {id day : Int} (hid : 0 ≤ atF l id) {x : Int} (hx : x ∈ waysL l id day) : 0 ≤ atF l x := by
  obtain ⟨f, hf, rfl⟩ := wayTo_at hid ((waysL_mem hid).1 hx)
  exact atF_of_mem hf
theorem unF_nonneg {l : List Fmt} (hg : goodF l = true) {x : Int} (hx : 0 ≤ atF l x) : 0 ≤ unF l x := by
  obtain ⟨j, y, h1, h2, _⟩ := atF_mem hx
  rw [unF_at h1 h2]
  exact (goodF_mem hg (List.mem_of_getElem? h2)).2.1.1
/-- From the first step on the greatest day is that of the format found. -/
theorem bestK_snd {l : List Fmt} (hg : goodF l = true) {ws : List Int} (hw : ∀ x ∈ ws, 0 ≤ atF l x) : ∀ k, k < ws.length → ((bestK l ws (k + 1)).2 = unF l (bestK l ws (k + 1)).1 ∧ (bestK l ws (k + 1)).1 ∈ ws)
  | 0, h => by
    obtain ⟨x, hx⟩ := get_of_lt h
    have hm := List.mem_of_getElem? hx
    have := unF_nonneg hg (hw x hm)
    rw [bestK_yes hx (by rw [bestK_zero]; simp only; omega)]
    exact ⟨rfl, hm⟩
  | k + 1, h => by
    have ih := bestK_snd hg hw k (by omega)
    obtain ⟨x, hx⟩ := get_of_lt h
    by_cases hc : (bestK l ws (k + 1)).2 < unF l x
    · rw [bestK_yes hx hc]; exact ⟨rfl, List.mem_of_getElem? hx⟩
    · rw [bestK_no hx hc]; exact ih
noncomputable def longL (l : List Fmt) (id day : Int) : Int := if waysOk l id day = true then (bestK l (waysL l id day) (waysL l id day).length).1 else 0
theorem longL_yes {l : List Fmt} {id day : Int} (h : waysOk l id day = true) : longL l id day = (bestK l (waysL l id day) (waysL l id day).length).1 := if_pos h
theorem longL_no {l : List Fmt} {id day : Int} (h : waysOk l id day = false) : longL l id day = 0 := if_neg (by rw [h]; exact Bool.false_ne_true)
theorem ways_pos {l : List Fmt} {id day : Int} (hid : 0 ≤ atF l id) : 0 < (waysL l id day).length := List.length_pos_of_mem ((waysL_mem hid).2 .start)
end Go.Rd
