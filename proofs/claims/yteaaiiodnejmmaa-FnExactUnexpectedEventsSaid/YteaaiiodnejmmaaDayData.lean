/- Expected days of events as plain functions, and: where the search finds no cycle there is none; without a program; no condition beyond the lists that are named. -/
import Derived.Test.YteaaiiodnejmmaaCycData
namespace Go.Rd
/-- Each kind follows the next one. -/
def Walk (l : List Trig) : List Int → Prop
  | [] => True
  | [_] => True
  | a :: b :: r => follB l a b = true ∧ Walk l (b :: r)
theorem walk_glue {l : List Trig} : ∀ {u : List Int} {x : Int} {v : List Int}, Walk l (u ++ x :: v) ↔ Walk l (u ++ [x]) ∧ Walk l (x :: v)
  | [], x, v => by simp [Walk]
  | [a], x, v => by simp [Walk]
  | a :: b :: u, x, v => by
    have ih := walk_glue (l := l) (u := b :: u) (x := x) (v := v)
    simp only [List.cons_append, Walk] at ih ⊢
    rw [ih]; exact (and_assoc).symm
theorem dup_split : ∀ {c : List Int}, ¬ c.Nodup → ∃ p y q s, c = p ++ y :: q ++ y :: s
  | [], h => absurd List.nodup_nil h
  | a :: c, h => by
    by_cases ha : a ∈ c
    · obtain ⟨q, s, rfl⟩ := List.append_of_mem ha
      exact ⟨[], a, q, s, by simp⟩
    · have hc : ¬ c.Nodup := fun hn => h (List.nodup_cons.2 ⟨ha, hn⟩)
      obtain ⟨p, y, q, s, rfl⟩ := dup_split hc
      exact ⟨a :: p, y, q, s, by simp⟩
theorem walk_simple {l : List Trig} : ∀ (n : Nat) (x : Int) (r : List Int), r.length < n → Walk l (x :: r ++ [x]) → ∃ y q, Walk l (y :: q ++ [y]) ∧ (y :: q).Nodup
  | 0, _, _, h, _ => by omega
  | n + 1, x, r, hn, hw => by
    by_cases hd : (x :: r).Nodup
    · exact ⟨x, r, hw, hd⟩
    · obtain ⟨p, y, q, s, hc⟩ := dup_split hd
      have hlen := congrArg List.length hc
      simp only [List.length_cons, List.length_append] at hlen
      rw [hc] at hw
      have h1 : Walk l (p ++ y :: (q ++ y :: (s ++ [x]))) := by simpa using hw
      have h2 := (walk_glue.1 h1).2
      have h3 : Walk l ((y :: q) ++ y :: (s ++ [x])) := by simpa using h2
      exact walk_simple n y q (by omega) (walk_glue.1 h3).1
theorem walk_rotate {l : List Trig} {x m : Int} {r p s : List Int} (hw : Walk l (x :: r ++ [x])) (hc : x :: r = p ++ m :: s) : Walk l (m :: (s ++ p) ++ [m]) := by
  rw [hc] at hw
  cases p with
  | nil =>
    simp only [List.nil_append, List.cons.injEq] at hc
    obtain ⟨rfl, rfl⟩ := hc
    simpa using hw
  | cons a p =>
    simp only [List.cons_append, List.cons.injEq] at hc
    obtain ⟨rfl, _⟩ := hc
    have h1 : Walk l ((x :: p) ++ m :: (s ++ [x])) := by simpa using hw
    obtain ⟨h2, h3⟩ := walk_glue.1 h1
    have h4 : Walk l ((m :: s) ++ x :: (p ++ [m])) := walk_glue.2 ⟨by simpa using h3, by simpa using h2⟩
    simpa using h4
theorem least_split : ∀ {c : List Int}, c ≠ [] → ∃ p m s, c = p ++ m :: s ∧ ∀ y ∈ c, m ≤ y
  | [], h => absurd rfl h
  | [a], _ => ⟨[], a, [], rfl, by simp⟩
  | a :: b :: c, _ => by
    obtain ⟨p, m, s, hc, hm⟩ := least_split (c := b :: c) (by simp)
    by_cases h : a ≤ m
    · refine ⟨[], a, b :: c, rfl, fun y hy => ?_⟩
      rcases List.mem_cons.1 hy with rfl | hy
      · exact Int.le_refl _
      · exact Int.le_trans h (hm y hy)
    · refine ⟨a :: p, m, s, by rw [hc]; rfl, fun y hy => ?_⟩
      rcases List.mem_cons.1 hy with rfl | hy
      · omega
      · exact hm y hy
theorem someFrom_isSome {α : Type} {f : Int → Option α} {k : Int} (hk : (f k).isSome = true) : ∀ {m : Nat} {a : Int}, a ≤ k → k < a + m → (someFrom f m a).isSome = true
  | 0, _, _, _ => by omega
  | m + 1, a, h1, h2 => by
    cases hf : f a with
    | some r => rw [someFrom_some hf]; rfl
    | none =>
      rw [someFrom_none hf]
      have : a ≠ k := by rintro rfl; rw [hf] at hk; cases hk
      exact someFrom_isSome hk (by omega) (by omega)
theorem chainM_finds {l : List Trig} : ∀ (rest c : List Int) (n : Nat) (fi la : Int), c.headD 0 = fi → c.getLastD 0 = la → c ≠ [] → rest.length < n → Walk l (la :: rest ++ [fi]) → (∀ k ∈ rest, fi < k ∧ k ≤ 9) → (c ++ rest).Nodup → (chainM n l c).isSome = true
  | rest, c, 0, _, _, _, _, _, h, _, _, _ => by omega
  | [], c, n + 1, fi, la, hfi, hla, _, _, hw, _, _ => by
    have : follB l la fi = true := by simpa [Walk] using hw
    rw [chainM_yes (by rw [hla, hfi]; exact this)]; rfl
  | k :: rest, c, n + 1, fi, la, hfi, hla, hne, hn, hw, hr, hd => by
    cases hf : follB l la fi
    case true => rw [chainM_yes (by rw [hla, hfi]; exact hf)]; rfl
    rw [chainM_no (by rw [hla, hfi]; exact hf), hfi]
    have hk := hr k (List.mem_cons_self ..)
    simp only [List.cons_append, Walk] at hw
    have hcont : c.contains k = false := by
      cases hc : c.contains k
      · rfl
      · have hmem : k ∈ c := by simpa using hc
        exact absurd rfl ((List.nodup_append.1 hd).2.2 k hmem k (List.mem_cons_self ..))
    refine someFrom_isSome (k := k) ?_ (by omega) (by omega)
    rw [stepK_go (by rw [hla, hw.1, hcont]; rfl)]
    refine chainM_finds rest (c ++ [k]) n fi k ?_ ?_ (by simp) (by simp at hn; omega) hw.2 (fun y hy => hr y (List.mem_cons_of_mem _ hy)) (by simpa using hd)
    · cases c with
      | nil => exact absurd rfl hne
      | cons a c => simpa using hfi
    · simp
theorem walk_mem {l : List Trig} : ∀ {r : List Int} {x z : Int}, Walk l (x :: r ++ [z]) → ∀ y ∈ x :: r, ∃ b, follB l y b = true
  | [], x, z, hw, y, hy => by
    have : y = x := by simpa using hy
    subst this
    exact ⟨z, by simpa [Walk] using hw⟩
  | a :: r, x, z, hw, y, hy => by
    simp only [List.cons_append, Walk] at hw
    rcases List.mem_cons.1 hy with rfl | hy
    · exact ⟨a, hw.1⟩
    · exact walk_mem (r := r) (x := a) (z := z) hw.2 y hy
theorem goodT_mem {l : List Trig} (h : goodT l = true) {t : Trig} (ht : t ∈ l) : okT t = true := by
  simp only [goodT, Bool.and_eq_true] at h
  obtain ⟨i, hi, rfl⟩ := List.mem_iff_getElem.1 ht
  have := (ascB_spec h.1 i hi).1
  rwa [List.getD_eq_getElem?_getD, List.getElem?_eq_getElem hi] at this
theorem okT_bounds {t : Trig} (h : okT t = true) : 1 ≤ t.ev ∧ t.ev ≤ 9 ∧ 0 ≤ t.af ∧ t.af ≤ 9 ∧ 0 ≤ t.dy ∧ t.dy ≤ 10000 := by
  simp only [okT, Bool.and_eq_true, inB_true] at h
  omega
theorem follB_bounds {l : List Trig} (h : goodT l = true) {a b : Int} (hf : follB l a b = true) : 1 ≤ a ∧ a ≤ 9 := by
  unfold follB at hf
  obtain ⟨t, ht, hq⟩ := List.any_eq_true.1 hf
  have := okT_bounds (goodT_mem h ht)
  simp only [Bool.and_eq_true, beq_iff_eq] at hq
  omega
theorem few_kinds : ∀ (rest c : List Int), (c ++ rest).Nodup → (∀ k ∈ rest, 1 ≤ k ∧ k ≤ 9) → rest.length ≤ avail c
  | [], _, _, _ => Nat.zero_le _
  | k :: rest, c, hd, hr => by
    have hk := hr k (List.mem_cons_self ..)
    have hcont : c.contains k = false := by
      cases hc : c.contains k
      · rfl
      · have hmem : k ∈ c := by simpa using hc
        exact absurd rfl ((List.nodup_append.1 hd).2.2 k hmem k (List.mem_cons_self ..))
    have h1 := avail_lt hk.1 hk.2 hcont
    have h2 := few_kinds rest (c ++ [k]) (by simpa using hd) (fun y hy => hr y (List.mem_cons_of_mem _ hy))
    simp only [List.length_cons]; omega
theorem no_cycle {l : List Trig} (hg : goodT l = true) (hn : firstCyc l = none) (x : Int) (r : List Int) : ¬ Walk l (x :: r ++ [x]) := by
  intro hw
  obtain ⟨y, q, hw2, hd⟩ := walk_simple (r.length + 1) x r (by omega) hw
  obtain ⟨p, m, s, hc, hm⟩ := least_split (c := y :: q) (by simp)
  have hw3 := walk_rotate hw2 hc
  have hran : ∀ k ∈ y :: q, 1 ≤ k ∧ k ≤ 9 := fun k hk => by
    obtain ⟨b, hb⟩ := walk_mem hw2 k hk
    exact follB_bounds hg hb
  have hd2 : (m :: (s ++ p)).Nodup := by
    rw [hc] at hd
    have : (p ++ m :: s).Perm (m :: (s ++ p)) := List.perm_append_comm
    exact this.nodup_iff.1 hd
  have hsub : ∀ k ∈ s ++ p, k ∈ y :: q := fun k hk => by
    rw [hc]; simp only [List.mem_append, List.mem_cons] at hk ⊢
    rcases hk with h | h
    · exact .inr (.inr h)
    · exact .inl h
  have hmm : m ∈ y :: q := by rw [hc]; simp
  have hlen : (s ++ p).length < 10 := by
    have h1 : (m :: (s ++ p)).length ≤ 9 := by
      refine Nat.le_trans (few_kinds (m :: (s ++ p)) [] (by simpa using hd2) fun k hk => ?_) (avail_le [])
      exact hran k (by rcases List.mem_cons.1 hk with rfl | h; exact hmm; exact hsub k h)
    simp only [List.length_cons] at h1
    omega
  have hfind := chainM_finds (l := l) (s ++ p) [m] 10 m m rfl rfl (by simp) hlen hw3 (fun k hk => by
    have h1 := hm k (hsub k hk)
    have h2 := (hran k (hsub k hk)).2
    have h3 : m ≠ k := fun h => (List.nodup_cons.1 hd2).1 (h ▸ hk)
    omega) (by simpa using hd2)
  have := someFrom_isSome (f := fun k => chainM 10 l [k]) (k := m) hfind (m := 9) (a := 1) (hran m hmm).1 (by have := (hran m hmm).2; omega)
  unfold firstCyc at hn
  rw [hn] at this
  cases this
/-- The trigger's own event leads to a kind that the path has not. -/
theorem path_step {l : List Trig} (hg : goodT l = true) (hn : firstCyc l = none) {q : List Int} {ev af : Int} (hw : Walk l (q ++ [ev])) (hf : follB l ev af = true) : Walk l (q ++ [ev] ++ [af]) ∧ (q ++ [ev]).contains af = false := by
  have h1 : Walk l (q ++ ev :: [af]) := walk_glue.2 ⟨hw, ⟨hf, trivial⟩⟩
  have h2 : Walk l ((q ++ [ev]) ++ [af]) := by simpa using h1
  refine ⟨h2, ?_⟩
  cases hc : (q ++ [ev]).contains af
  · rfl
  · have hmem : af ∈ q ++ [ev] := by simpa using hc
    obtain ⟨s, r, hsr⟩ := List.append_of_mem hmem
    rw [hsr] at h2
    have h3 : Walk l (s ++ af :: (r ++ [af])) := by simpa using h2
    exact absurd (walk_glue.1 h3).2 (no_cycle hg hn af r)
def dayStep (f : Int → Option Int) (ev : Int) : List Trig → Option Int → Option Int
  | [], acc => acc
  | t :: ts, acc => if (t.ev == ev) = true then (match f t.af with
    | none => none
    | some d => dayStep f ev ts (some (max (acc.getD 0) (d + t.dy)))) else dayStep f ev ts acc
/-- The expected day of an event; n bounds how deep the triggers are followed. -/
def dayM : Nat → List Trig → Int → Option Int
  | 0, _, _ => none
  | n + 1, l, ev => if (ev == 0) = true then some 0 else dayStep (dayM n l) ev l none
theorem dayM_zero {n : Nat} {l : List Trig} {ev : Int} (h : (ev == 0) = true) : dayM (n + 1) l ev = some 0 := by rw [dayM, if_pos h]
theorem dayM_pos {n : Nat} {l : List Trig} {ev : Int} (h : (ev == 0) = false) : dayM (n + 1) l ev = dayStep (dayM n l) ev l none := by rw [dayM, if_neg (by rw [h]; exact Bool.false_ne_true)]
theorem dayStep_skip {f : Int → Option Int} {ev : Int} {t : Trig} {ts : List Trig} {acc : Option Int} (h : (t.ev == ev) = false) : dayStep f ev (t :: ts) acc = dayStep f ev ts acc := by
  rw [dayStep, if_neg (by rw [h]; exact Bool.false_ne_true)]
theorem dayStep_none {f : Int → Option Int} {ev : Int} {t : Trig} {ts : List Trig} {acc : Option Int} (h : (t.ev == ev) = true) (hf : f t.af = none) : dayStep f ev (t :: ts) acc = none := by
  rw [dayStep, if_pos h, hf]
theorem dayStep_some {f : Int → Option Int} {ev : Int} {t : Trig} {ts : List Trig} {acc : Option Int} {d : Int} (h : (t.ev == ev) = true) (hf : f t.af = some d) : dayStep f ev (t :: ts) acc = dayStep f ev ts (some (max (acc.getD 0) (d + t.dy))) := by
  rw [dayStep, if_pos h, hf]
theorem drop_at {α : Type} {l : List α} {k : Nat} {x : α} (h : l[k]? = some x) : l.drop k = x :: l.drop (k + 1) := by
  obtain ⟨hk, rfl⟩ := List.getElem?_eq_some_iff.1 h
  exact List.drop_eq_getElem_cons hk
theorem dayStep_bounds {f : Int → Option Int} {ev B : Int} (hf : ∀ a d, f a = some d → 0 ≤ d ∧ d + 10000 ≤ B) : ∀ {l : List Trig} {acc : Option Int} {r : Int}, (∀ t ∈ l, 0 ≤ t.dy ∧ t.dy ≤ 10000) → (∀ d, acc = some d → 0 ≤ d ∧ d ≤ B) → dayStep f ev l acc = some r → 0 ≤ r ∧ r ≤ B
  | [], acc, r, _, ha, h => ha r h
  | t :: l, acc, r, hl, ha, h => by
    cases he : (t.ev == ev)
    case false => rw [dayStep_skip he] at h; exact dayStep_bounds hf (fun t ht => hl t (List.mem_cons_of_mem _ ht)) ha h
    cases hd : f t.af with
    | none => rw [dayStep_none he hd] at h; cases h
    | some d =>
      rw [dayStep_some he hd] at h
      refine dayStep_bounds hf (fun t ht => hl t (List.mem_cons_of_mem _ ht)) (fun r' hr' => ?_) h
      simp only [Option.some.injEq] at hr'
      have h1 := hf _ _ hd
      have h2 := hl t (List.mem_cons_self ..)
      have h3 : 0 ≤ acc.getD 0 ∧ acc.getD 0 ≤ B := by
        cases acc with
        | none => simp; omega
        | some a => exact ha a rfl
      omega
theorem dayM_bounds {l : List Trig} (hg : goodT l = true) : ∀ {n : Nat} {ev d : Int}, dayM n l ev = some d → 0 ≤ d ∧ d ≤ 10000 * (n : Int)
  | 0, _, _, h => by simp [dayM] at h
  | n + 1, ev, d, h => by
    cases he : (ev == 0)
    case true =>
      rw [dayM_zero he] at h
      simp only [Option.some.injEq] at h
      omega
    rw [dayM_pos he] at h
    refine dayStep_bounds (B := 10000 * ((n + 1 : Nat) : Int)) (fun a d' hd' => ?_) (fun t ht => ?_) (fun d' hd' => by cases hd') h
    · have := dayM_bounds hg hd'
      omega
    · have := okT_bounds (goodT_mem hg ht)
      omega
def acyB (l : List Trig) : Bool := goodT l && (firstCyc l).isNone
end Go.Rd
