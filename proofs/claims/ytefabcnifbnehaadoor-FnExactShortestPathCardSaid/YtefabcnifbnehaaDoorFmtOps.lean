/- Last readable days, copies, lost records, sums of sizes, unseen copies, as plain functions; without a program; no condition beyond the lists that are named. -/
import Derived.Test.YtefabcnifbnehaaDoorWayData
namespace Go.Rd
open Go.Sort Go.RowKit
/-- The last day of the format at the place of an Id; 0 where there is none. -/
def unF (l : List Fmt) (id : Int) : Int := (l.getD (atF l id).toNat default).un
def lastK (l : List Fmt) (id : Int) (k : Nat) : Int := ((l.take k).filter fun f => f.rd.contains id).foldl (fun a f => max a f.un) (unF l id)
def lastR (l : List Fmt) (id : Int) : Int := lastK l id l.length
theorem lastK_zero (l : List Fmt) (id : Int) : lastK l id 0 = unF l id := by simp [lastK]
theorem lastK_yes {l : List Fmt} {id : Int} {k : Nat} {x : Fmt} (h : l[k]? = some x) (hc : x.rd.contains id = true) : lastK l id (k + 1) = max (lastK l id k) x.un := by
  unfold lastK; rw [filter_step _ l k x h, if_pos hc, List.foldl_append]; rfl
theorem lastK_no {l : List Fmt} {id : Int} {k : Nat} {x : Fmt} (h : l[k]? = some x) (hc : x.rd.contains id = false) : lastK l id (k + 1) = lastK l id k := by
  unfold lastK; rw [filter_step _ l k x h, if_neg (by rw [hc]; exact Bool.false_ne_true), List.append_nil]
theorem lastK_end {l : List Fmt} {id : Int} {k : Nat} (h : l.length ≤ k) : lastK l id k = lastR l id := by
  unfold lastR lastK; rw [List.take_of_length_le h, List.take_of_length_le (Nat.le_refl _)]
theorem unF_at {l : List Fmt} {id : Int} {j : Nat} {y : Fmt} (h : atF l id = (j : Int)) (hy : l[j]? = some y) : unF l id = y.un := by
  unfold unF; rw [h, Int.toNat_natCast, List.getD_eq_getElem?_getD, hy]; rfl
def lastOk (l : List Fmt) (id : Int) : Bool := goodF l && decide (0 ≤ atF l id)
def lastD (l : List Fmt) (id : Int) : Int := if lastOk l id = true then lastR l id else 0
theorem lastD_yes {l : List Fmt} {id : Int} (h : lastOk l id = true) : lastD l id = lastR l id := if_pos h
theorem lastD_no {l : List Fmt} {id : Int} (h : lastOk l id = false) : lastD l id = 0 := if_neg (by rw [h]; exact Bool.false_ne_true)
def readB (l : List Fmt) (id day : Int) : Bool := waysOk l id day && decide (day ≤ lastR l id)
/-! ### Copies -/
def okCp (l : List Fmt) (c : Cpy) : Bool := inB c.re 1 999 && (decide (0 ≤ atF l c.fo) && (inB c.si 1 1000000 && inB c.sn 0 20000))
def ltCp (a b : Cpy) : Bool := decide (a.re < b.re) || (a.re == b.re && decide (a.fo < b.fo))
def goodCs (l : List Fmt) (cs : List Cpy) : Bool := goodF l && (ascB (okCp l) ltCp cs && decide (cs.length ≤ 15))
theorem ltCp_not (s t : Cpy) : (decide (t.re < s.re) || (s.re == t.re && decide (t.fo ≤ s.fo))) = !ltCp s t := by
  unfold ltCp
  rw [Bool.eq_iff_iff]
  simp
  omega
theorem ltCp_cmp (s t : Cpy) : decide (0 ≤ orI (cmpI s.re t.re) (cmpI s.fo t.fo)) = !ltCp s t := by
  rw [← ltCp_not]
  unfold orI cmpI
  by_cases h1 : s.re < t.re <;> by_cases h2 : t.re < s.re <;> by_cases h3 : s.fo < t.fo <;> by_cases h4 : t.fo < s.fo <;>
    simp [h1, h2, h3, h4] <;> omega
theorem goodCs_parts {l : List Fmt} {cs : List Cpy} (h : goodCs l cs = true) : goodF l = true ∧ cs.length ≤ 15 ∧ ∀ x ∈ cs, (1 ≤ x.re ∧ x.re ≤ 999) ∧ 0 ≤ atF l x.fo ∧ (1 ≤ x.si ∧ x.si ≤ 1000000) ∧ (0 ≤ x.sn ∧ x.sn ≤ 20000) := by
  simp only [goodCs, Bool.and_eq_true, decide_eq_true_eq] at h
  obtain ⟨h1, h2, h3⟩ := h
  refine ⟨h1, h3, fun x hx => ?_⟩
  obtain ⟨i, hi, rfl⟩ := List.mem_iff_getElem.1 hx
  have := (ascB_spec h2 i hi).1
  rw [List.getD_eq_getElem?_getD, List.getElem?_eq_getElem hi] at this
  simp only [Option.getD_some, okCp, Bool.and_eq_true, inB_true, decide_eq_true_eq] at this
  exact this
/-- Records do not fall from one copy to the next. -/
theorem goodCs_step {l : List Fmt} {cs : List Cpy} (h : goodCs l cs = true) {k : Nat} {x y : Cpy} (hy : cs[k]? = some y) (hx : cs[k + 1]? = some x) : y.re ≤ x.re := by
  simp only [goodCs, Bool.and_eq_true, decide_eq_true_eq] at h
  have := (ascB_spec h.2.1 (k + 1) (List.getElem?_eq_some_iff.1 hx).1).2 (by omega)
  rw [List.getD_eq_getElem?_getD, List.getD_eq_getElem?_getD, Nat.add_sub_cancel, hx, hy] at this
  simp only [Option.getD_some, ltCp, Bool.or_eq_true, Bool.and_eq_true, decide_eq_true_eq, beq_iff_eq] at this
  omega
/-! ### Lost records -/
def lostP (l : List Fmt) (cs : List Cpy) (day re : Int) : Bool := !(cs.any fun d => d.re == re && decide (day ≤ lastR l d.fo))
def lostF (P : Int → Bool) (out : List Int) (c : Cpy) : List Int := if (P c.re && !out.contains c.re) = true then out ++ [c.re] else out
def lostK (P : Int → Bool) (cs : List Cpy) (k : Nat) : List Int := (cs.take k).foldl (lostF P) []
theorem lostK_succ (P : Int → Bool) {cs : List Cpy} {k : Nat} {x : Cpy} (h : cs[k]? = some x) : lostK P cs (k + 1) = lostF P (lostK P cs k) x := by
  unfold lostK; rw [List.take_add_one, h, List.foldl_append]; rfl
theorem lostK_add (P : Int → Bool) {cs : List Cpy} {k : Nat} {x : Cpy} (h : cs[k]? = some x) (hp : P x.re = true) (hc : (lostK P cs k).contains x.re = false) : lostK P cs (k + 1) = lostK P cs k ++ [x.re] := by
  rw [lostK_succ P h, lostF, if_pos (by rw [hp, hc]; rfl)]
theorem lostK_not (P : Int → Bool) {cs : List Cpy} {k : Nat} {x : Cpy} (h : cs[k]? = some x) (hp : P x.re = false) : lostK P cs (k + 1) = lostK P cs k := by
  rw [lostK_succ P h, lostF, if_neg (by rw [hp]; exact Bool.false_ne_true)]
theorem lostK_has (P : Int → Bool) {cs : List Cpy} {k : Nat} {x : Cpy} (h : cs[k]? = some x) (hc : (lostK P cs k).contains x.re = true) : lostK P cs (k + 1) = lostK P cs k := by
  rw [lostK_succ P h, lostF, if_neg (by rw [hc, Bool.not_true, Bool.and_false]; exact Bool.false_ne_true)]
theorem lostK_len (P : Int → Bool) (cs : List Cpy) : ∀ k, (lostK P cs k).length ≤ k
  | 0 => by simp [lostK]
  | k + 1 => by
    have ih := lostK_len P cs k
    cases h : cs[k]? with
    | none => unfold lostK at ih ⊢; rw [List.take_add_one, h]; simp only [Option.toList_none, List.append_nil]; omega
    | some x =>
      rw [lostK_succ P h, lostF]
      split
      · simp; omega
      · omega
theorem lostK_mem (P : Int → Bool) (cs : List Cpy) : ∀ k x, x ∈ lostK P cs k → ∃ j y, j < k ∧ cs[j]? = some y ∧ y.re = x
  | 0, x, h => by simp [lostK] at h
  | k + 1, x, h => by
    cases hk : cs[k]? with
    | none =>
      have e : lostK P cs (k + 1) = lostK P cs k := by unfold lostK; rw [List.take_add_one, hk]; simp
      rw [e] at h
      obtain ⟨j, y, h1, h2, h3⟩ := lostK_mem P cs k x h
      exact ⟨j, y, by omega, h2, h3⟩
    | some z =>
      rw [lostK_succ P hk, lostF] at h
      split at h
      · rcases List.mem_append.1 h with h | h
        · obtain ⟨j, y, h1, h2, h3⟩ := lostK_mem P cs k x h
          exact ⟨j, y, by omega, h2, h3⟩
        · simp only [List.mem_singleton] at h
          exact ⟨k, z, by omega, hk, h.symm⟩
      · obtain ⟨j, y, h1, h2, h3⟩ := lostK_mem P cs k x h
        exact ⟨j, y, by omega, h2, h3⟩
theorem re_mono {l : List Fmt} {cs : List Cpy} (hg : goodCs l cs = true) : ∀ (d i : Nat) (x y : Cpy), cs[i]? = some x → cs[i + d]? = some y → x.re ≤ y.re
  | 0, i, x, y, hx, hy => by rw [Nat.add_zero, hx] at hy; cases hy; omega
  | d + 1, i, x, y, hx, hy => by
    have hlt := (List.getElem?_eq_some_iff.1 hy).1
    obtain ⟨z, hz⟩ := get_of_lt (l := cs) (k := i + d) (by omega)
    have h1 := re_mono hg d i x z hx hz
    have h2 := goodCs_step hg hz (x := y) (by rw [← hy]; rfl)
    omega
/-- The copy before is of the same record: what is lost is told already. -/
theorem lostK_same (P : Int → Bool) {cs : List Cpy} {k : Nat} {x y : Cpy} (hy : cs[k]? = some y) (hx : cs[k + 1]? = some x) (he : y.re = x.re) : lostK P cs (k + 2) = lostK P cs (k + 1) := by
  cases hp : P x.re
  · exact lostK_not P hx hp
  · refine lostK_has P hx ?_
    rw [lostK_succ P hy, lostF, ← he]
    rw [← he] at hp
    cases hc : (lostK P cs k).contains y.re
    · rw [if_pos (by rw [hp]; rfl)]; simp
    · rw [if_neg (by simp)]; exact hc
/-- The copy before is of another record: this one is not told yet. -/
theorem lostK_new {l : List Fmt} {cs : List Cpy} (hg : goodCs l cs = true) (P : Int → Bool) {k : Nat} {x : Cpy} (hx : cs[k]? = some x) (hd : ∀ y, 0 < k → cs[k - 1]? = some y → y.re ≠ x.re) : (lostK P cs k).contains x.re = false := by
  cases hc : (lostK P cs k).contains x.re
  · rfl
  · exfalso
    obtain ⟨j, y, h1, h2, h3⟩ := lostK_mem P cs k x.re (by simpa using hc)
    have hlt := (List.getElem?_eq_some_iff.1 hx).1
    obtain ⟨z, hz⟩ := get_of_lt (l := cs) (k := k - 1) (by omega)
    have h4 := hd z (by omega) hz
    have h5 := re_mono hg (k - 1 - j) j y z h2 (by rw [show j + (k - 1 - j) = k - 1 by omega]; exact hz)
    have h6 := goodCs_step hg hz (x := x) (by rw [show k - 1 + 1 = k by omega]; exact hx)
    omega
def lostOk (l : List Fmt) (cs : List Cpy) (day : Int) : Bool := goodCs l cs && inB day 0 20000
def lostL (l : List Fmt) (cs : List Cpy) (day : Int) : List Int := if lostOk l cs day = true then lostK (lostP l cs day) cs cs.length else []
theorem lostL_yes {l : List Fmt} {cs : List Cpy} {day : Int} (h : lostOk l cs day = true) : lostL l cs day = lostK (lostP l cs day) cs cs.length := if_pos h
theorem lostL_no {l : List Fmt} {cs : List Cpy} {day : Int} (h : lostOk l cs day = false) : lostL l cs day = [] := if_neg (by rw [h]; exact Bool.false_ne_true)
theorem lostL_length (l : List Fmt) (cs : List Cpy) (day : Int) : (lostL l cs day).length ≤ cs.length := by
  unfold lostL; split
  · exact lostK_len _ _ _
  · simp
/-! ### Sums of sizes -/
def sumF (cs : List Cpy) (k : Nat) (id : Int) : Int := (((cs.take k).filter fun c => c.fo == id).map (·.si)).sum
theorem sumF_zero (cs : List Cpy) (id : Int) : sumF cs 0 id = 0 := by simp [sumF]
theorem sumF_yes {cs : List Cpy} {k : Nat} {x : Cpy} (h : cs[k]? = some x) {id : Int} (hc : (x.fo == id) = true) : sumF cs (k + 1) id = sumF cs k id + x.si := by
  unfold sumF; rw [filter_step _ cs k x h, if_pos hc, List.map_append, List.sum_append]; simp
theorem sumF_no {cs : List Cpy} {k : Nat} {x : Cpy} (h : cs[k]? = some x) {id : Int} (hc : (x.fo == id) = false) : sumF cs (k + 1) id = sumF cs k id := by
  unfold sumF; rw [filter_step _ cs k x h, if_neg (by rw [hc]; exact Bool.false_ne_true), List.append_nil]
theorem sumF_bound {l : List Fmt} {cs : List Cpy} (hg : goodCs l cs = true) (id : Int) : ∀ k, 0 ≤ sumF cs k id ∧ sumF cs k id ≤ 1000000 * k
  | 0 => by rw [sumF_zero]; omega
  | k + 1 => by
    have ih := sumF_bound hg id k
    cases h : cs[k]? with
    | none =>
      have e : sumF cs (k + 1) id = sumF cs k id := by unfold sumF; rw [List.take_add_one, h]; simp
      rw [e]; omega
    | some x =>
      have := ((goodCs_parts hg).2.2 x (List.mem_of_getElem? h)).2.2.1
      cases hc : (x.fo == id)
      · rw [sumF_no h hc]; omega
      · rw [sumF_yes h hc]; omega
def sizeS (l : List Fmt) (cs : List Cpy) (k : Nat) : List Int := l.map fun f => sumF cs k f.id
def sizeL (l : List Fmt) (cs : List Cpy) : List Int := if goodCs l cs = true then sizeS l cs cs.length else []
theorem sizeL_yes {l : List Fmt} {cs : List Cpy} (h : goodCs l cs = true) : sizeL l cs = sizeS l cs cs.length := if_pos h
theorem sizeL_no {l : List Fmt} {cs : List Cpy} (h : goodCs l cs = false) : sizeL l cs = [] := if_neg (by rw [h]; exact Bool.false_ne_true)
theorem sizeL_length (l : List Fmt) (cs : List Cpy) : (sizeL l cs).length ≤ l.length := by
  unfold sizeL; split
  · simp [sizeS]
  · simp
/-- One copy's size goes to the place of its format. -/
theorem sizeS_step {l : List Fmt} {cs : List Cpy} (hg : goodCs l cs = true) {k j : Nat} {x : Cpy} (hx : cs[k]? = some x) (hj : atF l x.fo = (j : Int)) {z : Int} (hz : (sizeS l cs k)[j]? = some z) :
    sizeS l cs (k + 1) = (sizeS l cs k).set j (z + x.si) := by
  have hrise := goodF_rise (goodCs_parts hg).1
  rcases atF_cases l x.fo with h | ⟨j', y, h1, h2, h3⟩
  · omega
  have hjj : j' = j := by omega
  subst hjj
  apply List.ext_getElem?
  intro i
  rw [List.getElem?_set]
  unfold sizeS at hz ⊢
  simp only [List.getElem?_map, List.length_map] at hz ⊢
  have hlt := (List.getElem?_eq_some_iff.1 h2).1
  by_cases hij : j' = i
  · subst hij
    rw [if_pos rfl, if_pos hlt, h2]
    rw [h2] at hz
    simp only [Option.map_some, Option.some.injEq] at hz ⊢
    rw [sumF_yes hx (by rw [h3]; simp), hz]
  · rw [if_neg hij]
    cases hi : l[i]? with
    | none => rfl
    | some f =>
      simp only [Option.map_some, Option.some.injEq]
      refine sumF_no hx (beq_eq_false_iff_ne.2 fun he => hij ?_)
      have hfy : f = y := rise_inj (·.id) hrise (List.mem_of_getElem? hi) (List.mem_of_getElem? h2) (by rw [h3, he])
      subst hfy
      have hn : l.Nodup := (List.pairwise_map.1 hrise).imp fun h he => by subst he; omega
      obtain ⟨a1, a2⟩ := List.getElem?_eq_some_iff.1 h2
      obtain ⟨b1, b2⟩ := List.getElem?_eq_some_iff.1 hi
      exact (List.getElem_inj hn).1 (a2.trans b2.symm)
/-! ### Unseen copies -/
def unsB (cs : List Cpy) (day : Int) : Bool := cs.all fun c => decide (c.sn ≤ day)
def unsK (day days : Int) (cs : List Cpy) (k : Nat) : List Int := ((List.range k).filter fun i => decide (days < day - (cs.getD i default).sn)).map fun i : Nat => (i : Int)
theorem unsK_zero (day days : Int) (cs : List Cpy) : unsK day days cs 0 = [] := rfl
theorem unsK_step {day days : Int} {cs : List Cpy} {k : Nat} {x : Cpy} (h : cs[k]? = some x) : unsK day days cs (k + 1) = unsK day days cs k ++ if days < day - x.sn then [(k : Int)] else [] := by
  unfold unsK
  rw [List.range_succ, List.filter_append, List.map_append]
  congr 1
  rw [List.filter_cons, show cs.getD k default = x by rw [List.getD_eq_getElem?_getD, h]; rfl]
  by_cases hc : days < day - x.sn <;> simp [hc]
theorem unsK_yes {day days : Int} {cs : List Cpy} {k : Nat} {x : Cpy} (h : cs[k]? = some x) (hc : days < day - x.sn) : unsK day days cs (k + 1) = unsK day days cs k ++ [(k : Int)] := by rw [unsK_step h, if_pos hc]
theorem unsK_no {day days : Int} {cs : List Cpy} {k : Nat} {x : Cpy} (h : cs[k]? = some x) (hc : ¬ days < day - x.sn) : unsK day days cs (k + 1) = unsK day days cs k := by rw [unsK_step h, if_neg hc, List.append_nil]
theorem unsK_len (day days : Int) (cs : List Cpy) (k : Nat) : (unsK day days cs k).length ≤ k := by
  unfold unsK; rw [List.length_map]; exact Nat.le_trans (List.length_filter_le _ _) (by simp)
def unsOk (l : List Fmt) (cs : List Cpy) (day days : Int) : Bool := goodCs l cs && (inB day 0 20000 && (inB days 0 20000 && unsB cs day))
def unsL (l : List Fmt) (cs : List Cpy) (day days : Int) : List Int := if unsOk l cs day days = true then unsK day days cs cs.length else []
theorem unsL_yes {l : List Fmt} {cs : List Cpy} {day days : Int} (h : unsOk l cs day days = true) : unsL l cs day days = unsK day days cs cs.length := if_pos h
theorem unsL_no {l : List Fmt} {cs : List Cpy} {day days : Int} (h : unsOk l cs day days = false) : unsL l cs day days = [] := if_neg (by rw [h]; exact Bool.false_ne_true)
theorem unsL_length (l : List Fmt) (cs : List Cpy) (day days : Int) : (unsL l cs day days).length ≤ cs.length := by
  unfold unsL; split
  · exact unsK_len _ _ _ _
  · simp
/-! ### The format that lives longest -/
/-- One step of the search for the greatest last day. -/
def bestF (l : List Fmt) (s : Int × Int) (x : Int) : Int × Int := if s.2 < unF l x then (x, unF l x) else s
end Go.Rd
