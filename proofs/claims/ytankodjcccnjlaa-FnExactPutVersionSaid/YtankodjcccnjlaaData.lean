/- The program's structs as plain Lean structures, with their cells; no condition. -/
import Derived.Test.YtankodjcccnjlaaBase
namespace Go.Rd
structure Trig where
  ev : Int
  af : Int
  dy : Int
  deriving DecidableEq, Inhabited
def Trig.enc (t : Trig) : List Value := [.int .i64 t.ev, .int .i64 t.af, .int .i64 t.dy]
theorem Trig.enc_len (t : Trig) : t.enc.length = 3 := rfl
structure Rul where
  se : Int
  ev : Int
  dy : Int
  ac : Int
  deriving DecidableEq, Inhabited
def Rul.enc (t : Rul) : List Value := [.int .i64 t.se, .int .i64 t.ev, .int .i64 t.dy, .int .i64 t.ac]
theorem Rul.enc_len (t : Rul) : t.enc.length = 4 := rfl
structure Evt where
  ki : Int
  dy : Int
  deriving DecidableEq, Inhabited
def Evt.enc (t : Evt) : List Value := [.int .i64 t.ki, .int .i64 t.dy]
theorem Evt.enc_len (t : Evt) : t.enc.length = 2 := rfl
structure Cpy where
  re : Int
  fo : Int
  si : Int
  sn : Int
  deriving DecidableEq, Inhabited
def Cpy.enc (t : Cpy) : List Value := [.int .i64 t.re, .int .i64 t.fo, .int .i64 t.si, .int .i64 t.sn]
theorem Cpy.enc_len (t : Cpy) : t.enc.length = 4 := rfl
def encI (n : Int) : List Value := [.int .i64 n]
theorem encI_len (n : Int) : (encI n).length = 1 := rfl

/-- Is x in the bounds? -/
def inB (x a b : Int) : Bool := decide (a ≤ x ∧ x ≤ b)
theorem inB_true {x a b : Int} : inB x a b = true ↔ a ≤ x ∧ x ≤ b := by unfold inB; exact decide_eq_true_iff
theorem inB_false {x a b : Int} : inB x a b = false ↔ ¬ (a ≤ x ∧ x ≤ b) := by unfold inB; exact decide_eq_false_iff_not
/-- Element i and the one ahead of it are as asked. -/
def AscAt {α : Type} [Inhabited α] (ok : α → Bool) (lt : α → α → Bool) (l : List α) (i : Nat) : Prop :=
  ok (l.getD i default) = true ∧ (0 < i → lt (l.getD (i - 1) default) (l.getD i default) = true)
instance {α : Type} [Inhabited α] (ok : α → Bool) (lt : α → α → Bool) (l : List α) (i : Nat) : Decidable (AscAt ok lt l i) := by unfold AscAt; infer_instance
/-- Each element is as asked, and so are any two neighbours. -/
def ascB {α : Type} [Inhabited α] (ok : α → Bool) (lt : α → α → Bool) (l : List α) : Bool := decide (∀ i, i < l.length → AscAt ok lt l i)
theorem ascB_true {α : Type} [Inhabited α] {ok : α → Bool} {lt : α → α → Bool} {l : List α} (h : ∀ i, i < l.length → AscAt ok lt l i) : ascB ok lt l = true := decide_eq_true h
theorem ascB_false {α : Type} [Inhabited α] {ok : α → Bool} {lt : α → α → Bool} {l : List α} {k : Nat} (hk : k < l.length) (h : ¬ AscAt ok lt l k) : ascB ok lt l = false :=
  decide_eq_false fun hall => h (hall k hk)
theorem ascB_spec {α : Type} [Inhabited α] {ok : α → Bool} {lt : α → α → Bool} {l : List α} (h : ascB ok lt l = true) : ∀ i, i < l.length → AscAt ok lt l i := of_decide_eq_true h
theorem not_ascAt_ok {α : Type} [Inhabited α] {ok : α → Bool} {lt : α → α → Bool} {l : List α} {k : Nat} {x : α} (hx : l[k]? = some x) (h : ok x = false) : ¬ AscAt ok lt l k := by
  rintro ⟨h1, _⟩
  rw [List.getD_eq_getElem?_getD, hx] at h1
  simp [h] at h1
theorem not_ascAt_lt {α : Type} [Inhabited α] {ok : α → Bool} {lt : α → α → Bool} {l : List α} {k : Nat} {x y : α} (h0 : 0 < k) (hx : l[k - 1]? = some x) (hy : l[k]? = some y) (h : lt x y = false) : ¬ AscAt ok lt l k := by
  rintro ⟨_, h2⟩
  have := h2 h0
  rw [List.getD_eq_getElem?_getD, List.getD_eq_getElem?_getD, hx, hy] at this
  simp [h] at this
theorem ascAt_zero {α : Type} [Inhabited α] {ok : α → Bool} {lt : α → α → Bool} {l : List α} {x : α} (hx : l[0]? = some x) (h : ok x = true) : AscAt ok lt l 0 :=
  ⟨by rw [List.getD_eq_getElem?_getD, hx]; exact h, fun h0 => absurd h0 (Nat.lt_irrefl _)⟩
theorem ascAt_mk {α : Type} [Inhabited α] {ok : α → Bool} {lt : α → α → Bool} {l : List α} {k : Nat} {x y : α} (hx : l[k - 1]? = some x) (hy : l[k]? = some y) (h1 : ok y = true) (h2 : lt x y = true) : AscAt ok lt l k :=
  ⟨by rw [List.getD_eq_getElem?_getD, hy]; exact h1, fun _ => by rw [List.getD_eq_getElem?_getD, List.getD_eq_getElem?_getD, hx, hy]; exact h2⟩
theorem ascAt_step {α : Type} [Inhabited α] {ok : α → Bool} {lt : α → α → Bool} {l : List α} {k : Nat} (h : ∀ i, i < k → AscAt ok lt l i) (hk : AscAt ok lt l k) : ∀ i, i < k + 1 → AscAt ok lt l i := fun i hi => by
  by_cases h' : i < k
  · exact h i h'
  · have : i = k := by omega
    subst this; exact hk

/-- Whether element k, which is ahead of the end, stands behind the one before it. -/
theorem ascAt_iff {α : Type} [Inhabited α] {ok : α → Bool} {lt : α → α → Bool} {l : List α} {k : Nat} {x y : α} (hx : l[k]? = some x) (hy : 0 < k → l[k - 1]? = some y) : AscAt ok lt l k ↔ ok x = true ∧ (0 < k → lt y x = true) := by
  unfold AscAt
  rw [show l.getD k default = x by rw [List.getD_eq_getElem?_getD, hx]; rfl]
  constructor
  · rintro ⟨h1, h2⟩
    refine ⟨h1, fun h0 => ?_⟩
    have := h2 h0
    rwa [show l.getD (k - 1) default = y by rw [List.getD_eq_getElem?_getD, hy h0]; rfl] at this
  · rintro ⟨h1, h2⟩
    refine ⟨h1, fun h0 => ?_⟩
    rw [show l.getD (k - 1) default = y by rw [List.getD_eq_getElem?_getD, hy h0]; rfl]
    exact h2 h0
/-- cmp.Compare on integers. -/
def cmpI (a b : Int) : Int := if a < b then -1 else if b < a then 1 else 0
theorem cmpI_lt {a b : Int} (h : a < b) : cmpI a b = -1 := if_pos h
theorem cmpI_gt {a b : Int} (h : b < a) : cmpI a b = 1 := by unfold cmpI; rw [if_neg (by omega), if_pos h]
theorem cmpI_eq {a b : Int} (h : a = b) : cmpI a b = 0 := by unfold cmpI; rw [if_neg (by omega), if_neg (by omega)]
/-- cmp.Or of two integers. -/
def orI (x y : Int) : Int := if x = 0 then y else x
theorem orI_zero (y : Int) : orI 0 y = y := rfl
theorem orI_ne {x : Int} (h : x ≠ 0) (y : Int) : orI x y = x := if_neg h
/-- The place of the first element of which p holds, or -1. -/
def idxOf {α : Type} (p : α → Bool) (l : List α) : Int := match l.findIdx? p with | some i => i | none => -1
theorem findIdx_at {α : Type} {p : α → Bool} : ∀ {l : List α} {k : Nat} {x : α}, l[k]? = some x → p x = true → (∀ j y, j < k → l[j]? = some y → p y = false) → l.findIdx? p = some k
  | [], k, x, h, _, _ => by simp at h
  | y :: l, 0, x, h, hp, _ => by simp at h; subst h; simp [List.findIdx?_cons, hp]
  | y :: l, k + 1, x, h, hp, hall => by
    have hy := hall 0 y (by omega) rfl
    have := findIdx_at (l := l) (k := k) (x := x) (by simpa using h) hp (fun j z hj hz => hall (j + 1) z (by omega) (by simpa using hz))
    simp [List.findIdx?_cons, hy, this]
theorem idxOf_at {α : Type} {p : α → Bool} {l : List α} {k : Nat} {x : α} (h : l[k]? = some x) (hp : p x = true) (hall : ∀ j y, j < k → l[j]? = some y → p y = false) : idxOf p l = k := by
  unfold idxOf; rw [findIdx_at h hp hall]
theorem idxOf_none {α : Type} {p : α → Bool} {l : List α} (h : ∀ (j : Nat) y, l[j]? = some y → p y = false) : idxOf p l = -1 := by
  unfold idxOf
  rw [List.findIdx?_eq_none_iff.2 fun x hx => by obtain ⟨j, hj⟩ := List.mem_iff_getElem?.1 hx; exact h j x hj]
theorem idxOf_any {α : Type} (p : α → Bool) (l : List α) : decide (0 ≤ idxOf p l) = l.any p := by
  unfold idxOf
  cases h : l.findIdx? p with
  | none =>
    have := List.findIdx?_eq_none_iff.1 h
    have hn : l.any p = false := by rw [List.any_eq_false]; intro x hx; rw [this x hx]; simp
    rw [hn]; rfl
  | some i =>
    obtain ⟨hi, hpi, _⟩ := List.findIdx?_eq_some_iff_getElem.1 h
    have hy : l.any p = true := List.any_eq_true.2 ⟨l[i], List.getElem_mem _, hpi⟩
    rw [hy]; exact decide_eq_true (Int.natCast_nonneg i)
theorem first_of_any {α : Type} {p : α → Bool} {l : List α} (h : l.any p = true) : ∃ (i : Nat) (x : α), l[i]? = some x ∧ p x = true ∧ ∀ j y, j < i → l[j]? = some y → p y = false := by
  cases hf : l.findIdx? p with
  | none =>
    have h1 := List.findIdx?_eq_none_iff.1 hf
    obtain ⟨x, hx, hp⟩ := List.any_eq_true.1 h
    rw [h1 x hx] at hp
    cases hp
  | some i =>
    obtain ⟨hi, hpi, hall⟩ := List.findIdx?_eq_some_iff_getElem.1 hf
    refine ⟨i, l[i], List.getElem?_eq_getElem hi, hpi, fun j y hj hy => ?_⟩
    obtain ⟨hjl, rfl⟩ := List.getElem?_eq_some_iff.1 hy
    simpa using hall j hj
/-- What is kept of the elements up to the first that goes. -/
theorem filter_first {α : Type} {p : α → Bool} {l : List α} {i : Nat} {x : α} (hx : l[i]? = some x) (hp : p x = true) (hall : ∀ j y, j < i → l[j]? = some y → p y = false) :
    (l.take (i + 1)).filter (fun x => !p x) = l.take i := by
  obtain ⟨hi, rfl⟩ := List.getElem?_eq_some_iff.1 hx
  rw [List.take_succ_eq_append_getElem hi, List.filter_append]
  have h1 : (l.take i).filter (fun x => !p x) = l.take i := List.filter_eq_self.2 fun y hy => by
    obtain ⟨j, hj⟩ := List.mem_iff_getElem?.1 hy
    have hjl := (List.getElem?_eq_some_iff.1 hj).1
    rw [List.length_take] at hjl
    rw [List.getElem?_take, if_pos (by omega)] at hj
    rw [hall j y (by omega) hj]; rfl
  rw [h1]
  simp [hp]
theorem flat_some {α : Type} {enc : α → List Value} {sz : Nat} (henc : ∀ x, (enc x).length = sz) {l : List α} {k : Nat} {x : α} (hx : l[k]? = some x) {j : Nat} {u : Value} (hu : (enc x)[j]? = some u) : (l.flatMap enc)[k * sz + j]? = some u := by
  obtain ⟨hk, rfl⟩ := List.getElem?_eq_some_iff.1 hx
  have hj : j < sz := by have := (List.getElem?_eq_some_iff.1 hu).1; rwa [henc] at this
  rw [flat_get enc sz henc l k hk j hj, hu]
theorem _root_.Go.Rd.Filled.of_owns_take {α : Type} {enc : α → List Value} {sz : Nat} (henc : ∀ x, (enc x).length = sz) {w : World} {base g cap : Nat} {e : TypeId} {l : List α} (h : w.ownsRow base e sz (.slice (some ⟨g, 0, none⟩) l.length cap) l.length (l.flatMap enc)) {k : Nat} (hk : k ≤ l.length) :
    Filled w g e (cap * sz) ((l.take k).flatMap enc) := by
  rcases h.2 with ⟨h1, _⟩ | ⟨g', cap', cur, h1, _, hg, _, _, hs, ht⟩
  · simp at h1
  · simp only [Value.slice.injEq, Option.some.injEq, Addr.mk.injEq, and_true, true_and] at h1
    obtain ⟨rfl, rfl⟩ := h1
    refine ⟨cur, hg, hs, ?_⟩
    rw [flat_take_length enc sz henc l k hk]
    have e1 : l.flatMap enc = (l.take k).flatMap enc ++ (l.drop k).flatMap enc := by rw [← List.flatMap_append, List.take_append_drop]
    have e2 : k * sz ≤ l.length * sz := Nat.mul_le_mul_right _ hk
    have e3 := congrArg (List.take (k * sz)) ht
    rw [List.take_take, Nat.min_eq_left e2, e1, List.take_left' (flat_take_length enc sz henc l k hk)] at e3
    exact e3
theorem asc_bad {o lt : Bool} {k : Nat} (h : (!o || (decide (0 < k) && !lt)) = true) : ¬ (o = true ∧ (0 < k → lt = true)) := by
  rintro ⟨rfl, h2⟩
  simp only [Bool.not_true, Bool.false_or, Bool.and_eq_true, decide_eq_true_eq, Bool.not_eq_true'] at h
  rw [h2 h.1] at h
  cases h.2
theorem asc_fine {o lt : Bool} {k : Nat} (h : (!o || (decide (0 < k) && !lt)) = false) : o = true ∧ (0 < k → lt = true) := by
  simp only [Bool.or_eq_false_iff, Bool.not_eq_false', Bool.and_eq_false_iff, decide_eq_false_iff_not] at h
  exact ⟨h.1, fun h0 => h.2.resolve_left (fun h' => h' h0)⟩
/-! ### Triggers -/
def okT (t : Trig) : Bool := inB t.ev 1 9 && inB t.af 0 9 && !(t.af == t.ev) && inB t.dy 0 10000
def ltT (s t : Trig) : Bool := decide (s.ev < t.ev) || (s.ev == t.ev && decide (s.af < t.af))
theorem not_good {α : Type} [Inhabited α] {ok : α → Bool} {lt : α → α → Bool} {l : List α} {k m : Nat} (hk : k < l.length) (h : ¬ AscAt ok lt l k) : (ascB ok lt l && decide (l.length ≤ m)) = false := by
  rw [ascB_false hk h]; rfl
theorem ltT_not (s t : Trig) : (decide (t.ev < s.ev) || (s.ev == t.ev && decide (t.af ≤ s.af))) = !ltT s t := by
  unfold ltT
  rw [Bool.eq_iff_iff]
  simp
  omega
theorem ltT_cmp (s t : Trig) : decide (0 ≤ orI (cmpI s.ev t.ev) (cmpI s.af t.af)) = !ltT s t := by
  rw [← ltT_not]
  unfold orI cmpI
  by_cases h1 : s.ev < t.ev <;> by_cases h2 : t.ev < s.ev <;> by_cases h3 : s.af < t.af <;> by_cases h4 : t.af < s.af <;>
    simp [h1, h2, h3, h4] <;> omega
def goodT (l : List Trig) : Bool := ascB okT ltT l && decide (l.length ≤ 10)
theorem Trig.one (t : Trig) : ∀ u ∈ t.enc, u.oneCell' = true := by intro u hu; simp [Trig.enc] at hu; rcases hu with rfl | rfl | rfl <;> rfl
theorem Rul.one (t : Rul) : ∀ u ∈ t.enc, u.oneCell' = true := by intro u hu; simp [Rul.enc] at hu; rcases hu with rfl | rfl | rfl | rfl <;> rfl
theorem Evt.one (t : Evt) : ∀ u ∈ t.enc, u.oneCell' = true := by intro u hu; simp [Evt.enc] at hu; rcases hu with rfl | rfl <;> rfl
theorem encI_one (n : Int) : ∀ u ∈ encI n, u.oneCell' = true := by intro u hu; simp [encI] at hu; subst hu; rfl
/-- What is left when the triggers of an event, or after it, are dropped. -/
def keepT (ev : Int) (t : Trig) : Bool := (t.ev != ev) && (t.af != ev)
def dropOk (l : List Trig) (ev : Int) : Bool := goodT l && inB ev 0 9
def dropL (l : List Trig) (ev : Int) : List Trig := if dropOk l ev = true then l.filter (keepT ev) else []
theorem dropL_yes {l : List Trig} {ev : Int} (h : dropOk l ev = true) : dropL l ev = l.filter (keepT ev) := if_pos h
theorem dropL_no {l : List Trig} {ev : Int} (h : dropOk l ev = false) : dropL l ev = [] := if_neg (by rw [h]; exact Bool.false_ne_true)
theorem dropL_length (l : List Trig) (ev : Int) : (dropL l ev).length ≤ l.length := by
  unfold dropL; split
  · exact List.length_filter_le _ _
  · simp
theorem filter_step {α : Type} (p : α → Bool) (l : List α) (k : Nat) (x : α) (h : l[k]? = some x) : (l.take (k + 1)).filter p = (l.take k).filter p ++ if p x = true then [x] else [] := by
  obtain ⟨hk, rfl⟩ := List.getElem?_eq_some_iff.1 h
  rw [List.take_succ_eq_append_getElem hk, List.filter_append]
  simp [List.filter_cons]
/-! ### Rules -/
def okR (r : Rul) : Bool := inB r.se 1 99 && inB r.ev 0 9 && inB r.dy 0 20000 && inB r.ac 1 3
def ltR (s t : Rul) : Bool := decide (s.se < t.se) || (s.se == t.se && decide (s.ev < t.ev))
def goodR (l : List Rul) : Bool := ascB okR ltR l && decide (l.length ≤ 8)
def forR (l : List Rul) (s : Int) : List Rul := l.filter fun r => r.se == s
theorem forR_length (l : List Rul) (s : Int) : (forR l s).length ≤ l.length := List.length_filter_le _ _
def cmpR (s t : Rul) : Int := orI (cmpI s.se t.se) (cmpI s.ev t.ev)
theorem ltR_cmp (s t : Rul) : decide (0 ≤ cmpR s t) = !ltR s t := by
  unfold cmpR orI cmpI ltR
  by_cases h1 : s.se < t.se <;> by_cases h2 : t.se < s.se <;> by_cases h3 : s.ev < t.ev <;> by_cases h4 : t.ev < s.ev <;>
    simp [h1, h2, h3, h4] <;> omega
/-! ### Series -/
/-- Rising numbers within bounds. -/
def riseB (lo hi : Int) (l : List Int) : Bool := ascB (fun x => inB x lo hi) (fun a b => decide (a < b)) l
def seriesOk (l : List Int) (most : Int) : Bool := riseB 1 99 l && decide ((l.length : Int) ≤ most)
def gapOk (sch : List Rul) (l : List Int) : Bool := goodR sch && seriesOk l 20
def gapL (sch : List Rul) (l : List Int) : List Int := if gapOk sch l = true then l.filter (fun s => decide ((forR sch s).length = 0)) else []
theorem gapL_yes {sch : List Rul} {l : List Int} (h : gapOk sch l = true) : gapL sch l = l.filter (fun s => decide ((forR sch s).length = 0)) := if_pos h
theorem gapL_no {sch : List Rul} {l : List Int} (h : gapOk sch l = false) : gapL sch l = [] := if_neg (by rw [h]; exact Bool.false_ne_true)
theorem gapL_length (sch : List Rul) (l : List Int) : (gapL sch l).length ≤ l.length := by
  unfold gapL; split
  · exact List.length_filter_le _ _
  · simp
end Go.Rd
