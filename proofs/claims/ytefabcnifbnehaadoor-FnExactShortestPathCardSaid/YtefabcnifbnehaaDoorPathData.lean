/- The shortest path between formats that is the first in lexicographic order; without a program; no condition beyond the lists that are named. -/
import Derived.Test.YtefabcnifbnehaaDoorWayData
namespace Go.Rd
open Go.Sort Go.RowKit
/-- On the day the program of the format v reads the format u. -/
def Lead (l : List Fmt) (day u v : Int) : Prop := ∃ f ∈ l, f.id = v ∧ day ≤ f.un ∧ u ∈ f.rd
/-- A path of n steps from u to t. -/
def PathN (l : List Fmt) (day : Int) : Nat → Int → Int → List Int → Prop
  | 0, u, t, p => p = [u] ∧ u = t
  | n + 1, u, t, p => ∃ v q, Lead l day u v ∧ PathN l day n v t q ∧ p = u :: q
def Lex : List Int → List Int → Prop
  | [], _ => True
  | _ :: _, [] => False
  | x :: p, y :: q => x < y ∨ (x = y ∧ Lex p q)
theorem Lex.refl : ∀ p, Lex p p
  | [] => trivial
  | _ :: p => .inr ⟨rfl, Lex.refl p⟩
theorem Lex.antisymm : ∀ {p q}, Lex p q → Lex q p → p = q
  | [], [], _, _ => rfl
  | [], _ :: _, _, h => h.elim
  | _ :: _, [], h, _ => h.elim
  | x :: p, y :: q, h, k => by
    rcases h with h | ⟨rfl, h⟩
    · rcases k with k | ⟨rfl, _⟩ <;> omega
    · rcases k with k | ⟨_, k⟩
      · omega
      · rw [Lex.antisymm h k]
theorem Lex.trans : ∀ {p q r}, Lex p q → Lex q r → Lex p r
  | [], _, _, _, _ => trivial
  | _ :: _, [], _, h, _ => h.elim
  | _ :: _, _ :: _, [], _, h => h.elim
  | x :: p, y :: q, z :: r, h, k => by
    rcases h with h | ⟨rfl, h⟩ <;> rcases k with k | ⟨rfl, k⟩
    · exact .inl (by omega)
    · exact .inl h
    · exact .inl k
    · exact .inr ⟨rfl, Lex.trans h k⟩
theorem Lex.snoc : ∀ {p q : List Int} {a b : Int}, p.length = q.length → Lex p q → (p = q → a ≤ b) → Lex (p ++ [a]) (q ++ [b])
  | [], [], a, b, _, _, h => by
    have := h rfl
    by_cases he : a = b
    · exact .inr ⟨he, trivial⟩
    · exact .inl (by omega)
  | [], _ :: _, _, _, hl, _, _ => by simp at hl
  | _ :: _, [], _, _, hl, _, _ => by simp at hl
  | x :: p, y :: q, a, b, hl, h, hab => by
    rcases h with h | ⟨rfl, h⟩
    · exact .inl h
    · exact .inr ⟨rfl, Lex.snoc (by simpa using hl) h fun e => hab (by rw [e])⟩
theorem PathN.len {l : List Fmt} {day : Int} : ∀ {n : Nat} {u t : Int} {p : List Int}, PathN l day n u t p → p.length = n + 1
  | 0, _, _, _, h => by obtain ⟨rfl, _⟩ := h; rfl
  | n + 1, _, _, _, h => by obtain ⟨v, q, _, h2, rfl⟩ := h; simp [PathN.len h2]
theorem PathN.last {l : List Fmt} {day : Int} : ∀ {n : Nat} {u t : Int} {p : List Int}, PathN l day n u t p → p.getLast? = some t
  | 0, _, _, _, h => by obtain ⟨rfl, rfl⟩ := h; rfl
  | n + 1, _, _, _, h => by
    obtain ⟨v, q, _, h2, rfl⟩ := h
    have h3 := PathN.last h2
    cases q with
    | nil => simp at h3
    | cons a q => rw [List.getLast?_cons_cons]; exact h3
theorem PathN.snoc {l : List Fmt} {day : Int} : ∀ {n : Nat} {u v t : Int} {q : List Int}, PathN l day n u v q → Lead l day v t → PathN l day (n + 1) u t (q ++ [t])
  | 0, _, _, t, _, h, k => by obtain ⟨rfl, rfl⟩ := h; exact ⟨t, [t], k, ⟨rfl, rfl⟩, rfl⟩
  | n + 1, _, _, _, _, h, k => by
    obtain ⟨v, q, h1, h2, rfl⟩ := h
    exact ⟨v, _, h1, PathN.snoc h2 k, rfl⟩
theorem PathN.unsnoc {l : List Fmt} {day : Int} : ∀ {n : Nat} {u t : Int} {p : List Int}, PathN l day (n + 1) u t p → ∃ v q, PathN l day n u v q ∧ Lead l day v t ∧ p = q ++ [t]
  | 0, u, t, _, h => by
    obtain ⟨v, q, h1, ⟨rfl, rfl⟩, rfl⟩ := h
    exact ⟨u, [u], ⟨rfl, rfl⟩, h1, rfl⟩
  | n + 1, u, t, _, h => by
    obtain ⟨v, q, h1, h2, rfl⟩ := h
    obtain ⟨x, q', h3, h4, rfl⟩ := PathN.unsnoc h2
    exact ⟨x, u :: q', ⟨v, q', h1, h3, rfl⟩, h4, rfl⟩
theorem PathN.comp {l : List Fmt} {day : Int} : ∀ {a b : Nat} {u v t : Int} {p q : List Int}, PathN l day a u v p → PathN l day b v t q → ∃ r, PathN l day (a + b) u t r
  | 0, b, _, _, _, _, q, h, k => by obtain ⟨rfl, rfl⟩ := h; exact ⟨q, by rw [Nat.zero_add]; exact k⟩
  | a + 1, b, u, _, _, _, _, h, k => by
    obtain ⟨x, q', h1, h2, rfl⟩ := h
    obtain ⟨r, hr⟩ := PathN.comp h2 k
    exact ⟨u :: r, by rw [Nat.add_right_comm]; exact ⟨x, r, h1, hr, rfl⟩⟩
/-- The place i of a path: a path leads there, and one from there on. -/
theorem PathN.mid {l : List Fmt} {day : Int} : ∀ {n : Nat} {u t : Int} {p : List Int}, PathN l day n u t p → ∀ i, i ≤ n → ∃ v, p[i]? = some v ∧ (∃ q, PathN l day i u v q) ∧ ∃ q, PathN l day (n - i) v t q
  | n, u, t, p, h, 0, _ => by
    refine ⟨u, ?_, ⟨[u], rfl, rfl⟩, p, h⟩
    cases n with
    | zero => obtain ⟨rfl, _⟩ := h; rfl
    | succ n => obtain ⟨v, q, _, _, rfl⟩ := h; rfl
  | n + 1, u, t, p, h, i + 1, hi => by
    obtain ⟨v, q, h1, h2, rfl⟩ := h
    obtain ⟨x, h3, ⟨q', h4⟩, h5⟩ := PathN.mid h2 i (by omega)
    exact ⟨x, by simpa using h3, ⟨u :: q', v, q', h1, h4, rfl⟩, by rw [Nat.add_sub_add_right]; exact h5⟩
abbrev HasN (l : List Fmt) (day : Int) (n : Nat) (u t : Int) : Prop := ∃ q, PathN l day n u t q
/-- The first one, in lexicographic order, of the paths of n steps. -/
def LeastN (l : List Fmt) (day : Int) (n : Nat) (u t : Int) (p : List Int) : Prop := PathN l day n u t p ∧ ∀ q, PathN l day n u t q → Lex p q
theorem LeastN.uniq {l : List Fmt} {day : Int} {n : Nat} {u t : Int} {p q : List Int} (h : LeastN l day n u t p) (k : LeastN l day n u t q) : p = q := Lex.antisymm (h.2 q k.1) (k.2 p h.1)
theorem lead_at {l : List Fmt} {day u v : Int} (h : Lead l day u v) : ∃ (j : Nat) (f : Fmt), l[j]? = some f ∧ f.id = v ∧ day ≤ f.un ∧ f.rd.contains u = true := by
  obtain ⟨f, h1, h2, h3, h4⟩ := h
  obtain ⟨j, hj⟩ := List.mem_iff_getElem?.1 h1
  exact ⟨j, f, hj, h2, h3, by simpa using h4⟩
theorem rise_lt {α : Type} (f : α → Int) {l : List α} (h : RiseI (l.map f)) {i j : Nat} {x y : α} (hx : l[i]? = some x) (hy : l[j]? = some y) (hij : i < j) : f x < f y := by
  obtain ⟨hi, rfl⟩ := List.getElem?_eq_some_iff.1 hx
  obtain ⟨hj, rfl⟩ := List.getElem?_eq_some_iff.1 hy
  have := (List.pairwise_iff_getElem.1 h) i j (by simpa using hi) (by simpa using hj) hij
  simpa using this
/-- The first format that leads on begins the least path. -/
theorem least_cons {l : List Fmt} (hr : RiseI (l.map (·.id))) {day : Int} {n k : Nat} {u t : Int} {f : Fmt} (hf : l[k]? = some f) (h1 : day ≤ f.un) (h2 : f.rd.contains u = true) {q : List Int} (hq : LeastN l day n f.id t q)
    (hn : ∀ (j : Nat) (g : Fmt), j < k → l[j]? = some g → day ≤ g.un → g.rd.contains u = true → ¬ HasN l day n g.id t) : LeastN l day (n + 1) u t (u :: q) := by
  refine ⟨⟨f.id, q, ⟨f, List.mem_of_getElem? hf, rfl, h1, by simpa using h2⟩, hq.1, rfl⟩, fun p hp => ?_⟩
  obtain ⟨v, q', h3, h4, rfl⟩ := hp
  refine .inr ⟨rfl, ?_⟩
  obtain ⟨j, g, hj, rfl, h5, h6⟩ := lead_at h3
  by_cases hjk : j < k
  · exact absurd ⟨q', h4⟩ (hn j g hjk hj h5 h6)
  · by_cases he : j = k
    · subst he
      rw [hf] at hj
      cases hj
      exact hq.2 q' h4
    · have hlt := rise_lt (·.id) hr hf hj (by omega)
      have e1 : ∀ {m : Nat} {a : Int} {r : List Int}, PathN l day m a t r → ∃ r', r = a :: r' := by
        intro m a r h
        cases m with
        | zero => obtain ⟨rfl, _⟩ := h; exact ⟨[], rfl⟩
        | succ m => obtain ⟨_, q, _, _, rfl⟩ := h; exact ⟨q, rfl⟩
      obtain ⟨a, rfl⟩ := e1 hq.1
      obtain ⟨b, rfl⟩ := e1 h4
      exact .inl hlt
theorem least_ex {l : List Fmt} (hr : RiseI (l.map (·.id))) {day : Int} {t : Int} : ∀ {n : Nat} {u : Int}, HasN l day n u t → ∃ p, LeastN l day n u t p
  | 0, u, h => by
    obtain ⟨q, rfl, rfl⟩ := h
    exact ⟨[u], ⟨rfl, rfl⟩, fun q hq => by obtain ⟨rfl, _⟩ := hq; exact Lex.refl _⟩
  | n + 1, u, h => by
    classical
    obtain ⟨p, v, q, h1, h2, rfl⟩ := h
    obtain ⟨j, g, hj, rfl, h5, h6⟩ := lead_at h1
    have hany : l.any (fun g => decide (day ≤ g.un ∧ g.rd.contains u = true ∧ HasN l day n g.id t)) = true :=
      List.any_eq_true.2 ⟨g, List.mem_of_getElem? hj, decide_eq_true ⟨h5, h6, q, h2⟩⟩
    obtain ⟨i, f, hf, hp, hall⟩ := first_of_any hany
    obtain ⟨a1, a2, a3⟩ := of_decide_eq_true hp
    obtain ⟨q0, hq0⟩ := least_ex hr a3
    exact ⟨u :: q0, least_cons hr hf a1 a2 hq0 fun j g hj hg b1 b2 b3 => by
      have := of_decide_eq_false (hall j g hj hg)
      exact this ⟨b1, b2, b3⟩⟩
open Classical in
noncomputable def leastO (l : List Fmt) (day : Int) (n : Nat) (u t : Int) : Option (List Int) := if h : ∃ p, LeastN l day n u t p then some h.choose else none
theorem leastO_some {l : List Fmt} {day : Int} {n : Nat} {u t : Int} {p : List Int} (h : LeastN l day n u t p) : leastO l day n u t = some p := by
  unfold leastO
  rw [dif_pos ⟨p, h⟩]
  congr 1
  exact (Exists.choose_spec (⟨p, h⟩ : ∃ p, LeastN l day n u t p)).uniq h
theorem leastO_of {l : List Fmt} {day : Int} {n : Nat} {u t : Int} {p : List Int} (h : leastO l day n u t = some p) : LeastN l day n u t p := by
  unfold leastO at h
  split at h
  · rename_i h1
    cases h
    exact h1.choose_spec
  · cases h
theorem leastO_none {l : List Fmt} {day : Int} {n : Nat} {u t : Int} (h : ¬ HasN l day n u t) : leastO l day n u t = none := by
  unfold leastO
  exact dif_neg fun ⟨p, hp⟩ => h ⟨p, hp.1⟩
theorem leastO_not {l : List Fmt} (hr : RiseI (l.map (·.id))) {day : Int} {n : Nat} {u t : Int} (h : leastO l day n u t = none) : ¬ HasN l day n u t := fun hh => by
  obtain ⟨p, hp⟩ := least_ex hr hh
  rw [leastO_some hp] at h; cases h
theorem leastO_len {l : List Fmt} {day : Int} {n : Nat} {u t : Int} : ((leastO l day n u t).getD []).length ≤ n + 1 := by
  cases h : leastO l day n u t with
  | none => simp
  | some p => have := (leastO_of h).1.len; simp [this]
/-! ### The shortest path -/
def ShortP (l : List Fmt) (day u t : Int) (p : List Int) : Prop := ∃ n, LeastN l day n u t p ∧ ∀ m, m < n → ¬ HasN l day m u t
theorem ShortP.uniq {l : List Fmt} {day u t : Int} {p q : List Int} (h : ShortP l day u t p) (k : ShortP l day u t q) : p = q := by
  obtain ⟨n, h1, h2⟩ := h
  obtain ⟨m, k1, k2⟩ := k
  have : n = m := by
    rcases Nat.lt_trichotomy n m with h | h | h
    · exact absurd ⟨_, h1.1⟩ (k2 n h)
    · exact h
    · exact absurd ⟨_, k1.1⟩ (h2 m h)
  subst this
  exact h1.uniq k1
open Classical in
noncomputable def shortO (l : List Fmt) (day u t : Int) : Option (List Int) := if h : ∃ p, ShortP l day u t p then some h.choose else none
theorem shortO_some {l : List Fmt} {day u t : Int} {p : List Int} (h : ShortP l day u t p) : shortO l day u t = some p := by
  unfold shortO
  rw [dif_pos ⟨p, h⟩]
  congr 1
  exact (Exists.choose_spec (⟨p, h⟩ : ∃ p, ShortP l day u t p)).uniq h
theorem shortO_of {l : List Fmt} {day u t : Int} {p : List Int} (h : shortO l day u t = some p) : ShortP l day u t p := by
  unfold shortO at h
  split at h
  · rename_i h1
    cases h
    exact h1.choose_spec
  · cases h
theorem shortO_none {l : List Fmt} {day u t : Int} (h : ∀ n, ¬ HasN l day n u t) : shortO l day u t = none := by
  unfold shortO
  exact dif_neg fun ⟨p, n, hp, _⟩ => h n ⟨p, hp.1⟩
theorem short_ex {l : List Fmt} {day u t : Int} : ∀ n, HasN l day n u t → ∃ m, m ≤ n ∧ HasN l day m u t ∧ ∀ k, k < m → ¬ HasN l day k u t
  | 0, h => ⟨0, Nat.le_refl _, h, fun k hk => by omega⟩
  | n + 1, h => by
    classical
    by_cases hx : ∃ k, k ≤ n ∧ HasN l day k u t
    · obtain ⟨k, hk, hh⟩ := hx
      have : ∀ (b k : Nat), k ≤ b → HasN l day k u t → ∃ m, m ≤ k ∧ HasN l day m u t ∧ ∀ j, j < m → ¬ HasN l day j u t := by
        intro b
        induction b with
        | zero => intro k hk hh; exact ⟨k, Nat.le_refl _, hh, fun j hj => by omega⟩
        | succ b ih =>
          intro k hk hh
          by_cases hy : ∃ j, j < k ∧ HasN l day j u t
          · obtain ⟨j, hj, hhj⟩ := hy
            obtain ⟨m, h1, h2, h3⟩ := ih j (by omega) hhj
            exact ⟨m, by omega, h2, h3⟩
          · exact ⟨k, Nat.le_refl _, hh, fun j hj hn => hy ⟨j, hj, hn⟩⟩
      obtain ⟨m, h1, h2, h3⟩ := this n k hk hh
      exact ⟨m, by omega, h2, h3⟩
    · exact ⟨n + 1, Nat.le_refl _, h, fun k hk hn => hx ⟨k, by omega, hn⟩⟩
theorem wayTo_path {l : List Fmt} {day : Int} : ∀ {n : Nat} {id u t : Int} {p : List Int}, WayTo l id day u → PathN l day n u t p → WayTo l id day t
  | 0, _, _, _, _, h, k => by obtain ⟨_, rfl⟩ := k; exact h
  | n + 1, _, _, _, _, h, k => by
    obtain ⟨v, q, ⟨f, h1, rfl, h3, h4⟩, h2, _⟩ := k
    exact wayTo_path (.step h1 h3 h4 h) h2
theorem path_wayTo {l : List Fmt} {day id x : Int} (h : WayTo l id day x) : ∃ n, HasN l day n id x := by
  induction h with
  | start => exact ⟨0, [id], rfl, rfl⟩
  | step h1 h2 h3 _ ih =>
    obtain ⟨n, q, hq⟩ := ih
    exact ⟨n + 1, _, hq.snoc ⟨_, h1, rfl, h2, h3⟩⟩
/-- A shortest path meets no format twice, so it is no longer than the list of all that can be reached. -/
theorem short_len {l : List Fmt} {day id t : Int} (hid : 0 ≤ atF l id) {n : Nat} (h : HasN l day n id t) (hm : ∀ k, k < n → ¬ HasN l day k id t) : n < (waysL l id day).length := by
  obtain ⟨p, hp⟩ := h
  have hlen := hp.len
  have hnd : p.Nodup := by
    rw [List.nodup_iff_pairwise_ne, List.pairwise_iff_getElem]
    intro i j hi hj hij he
    obtain ⟨v, h1, h2, _⟩ := hp.mid i (by omega)
    obtain ⟨x, h4, _, h6⟩ := hp.mid j (by omega)
    rw [List.getElem?_eq_getElem hi] at h1
    rw [List.getElem?_eq_getElem hj] at h4
    simp only [Option.some.injEq] at h1 h4
    obtain ⟨q1, hq1⟩ := h2
    obtain ⟨q2, hq2⟩ := h6
    rw [← h1] at hq1
    rw [← h4, ← he] at hq2
    obtain ⟨r, hr⟩ := hq1.comp hq2
    exact hm (i + (n - j)) (by omega) ⟨r, hr⟩
  have hs : p ⊆ waysL l id day := fun x hx => by
    obtain ⟨i, hi, rfl⟩ := List.mem_iff_getElem.1 hx
    obtain ⟨v, h1, ⟨q, h2⟩, _⟩ := hp.mid i (by omega)
    rw [List.getElem?_eq_getElem hi] at h1
    simp only [Option.some.injEq] at h1
    rw [h1, waysL_mem hid]
    exact wayTo_path .start h2
  have := List.Nodup.length_le_of_subset hnd hs
  omega
/-! ### The paths of one length, each to a format that no shorter or smaller one reaches -/
theorem pw_inj (f : List Int → Int) : ∀ {P : List (List Int)}, P.Pairwise (fun a b => f a ≠ f b) → ∀ {x y : List Int}, x ∈ P → y ∈ P → f x = f y → x = y
  | a :: P, h, x, y, hx, hy, he => by
    have h' := List.pairwise_cons.1 h
    rcases List.mem_cons.1 hx with hx1 | hx1 <;> rcases List.mem_cons.1 hy with hy1 | hy1
    · rw [hx1, hy1]
    · exact absurd (by rw [← hx1]; exact he) (h'.1 y hy1)
    · exact absurd (by rw [← hy1]; exact he.symm) (h'.1 x hx1)
    · exact pw_inj f h'.2 hx1 hy1 he
def lastI (p : List Int) : Int := p.getLast?.getD 0
theorem lastI_snoc (p : List Int) (x : Int) : lastI (p ++ [x]) = x := by simp [lastI]
theorem PathN.lastI {l : List Fmt} {day : Int} {n : Nat} {u t : Int} {p : List Int} (h : PathN l day n u t p) : Go.Rd.lastI p = t := by unfold Go.Rd.lastI; rw [h.last]; rfl
def candP (l : List Fmt) (day : Int) (p : List Int) : List (List Int) := (l.filter (leadB day (lastI p))).map fun f => p ++ [f.id]
def candL (l : List Fmt) (day : Int) (P : List (List Int)) : List (List Int) := P.flatMap (candP l day)
def ddF (s : List (List Int) × List Int) (c : List Int) : List (List Int) × List Int := if s.2.contains (lastI c) = true then s else (s.1 ++ [c], s.2 ++ [lastI c])
def ddL (S : List Int) (C : List (List Int)) : List (List Int) × List Int := C.foldl ddF ([], S)
structure DdOk (S : List Int) (C : List (List Int)) (s : List (List Int) × List Int) : Prop where
  mem : ∀ c ∈ s.1, c ∈ C
  seen : s.2 = S ++ s.1.map lastI
  all : ∀ c ∈ C, lastI c ∈ s.2
  least : ∀ c ∈ C, lastI c ∉ S → ∃ q ∈ s.1, lastI q = lastI c ∧ Lex q c
  sorted : s.1.Pairwise Lex
theorem ddF_ok {S : List Int} {C : List (List Int)} {c : List Int} {s : List (List Int) × List Int} (h : DdOk S C s) (hc : ∀ a ∈ C, Lex a c) : DdOk S (C ++ [c]) (ddF s c) := by
  unfold ddF
  by_cases hs : s.2.contains (lastI c) = true
  · rw [if_pos hs]
    have hs' : lastI c ∈ s.2 := by simpa using hs
    refine ⟨fun a ha => List.mem_append_left _ (h.mem a ha), h.seen, fun a ha => ?_, fun a ha hn => ?_, h.sorted⟩
    · rcases List.mem_append.1 ha with h1 | h1
      · exact h.all a h1
      · simp only [List.mem_singleton] at h1; subst h1; exact hs'
    · rcases List.mem_append.1 ha with h1 | h1
      · exact h.least a h1 hn
      · simp only [List.mem_singleton] at h1
        subst h1
        rw [h.seen] at hs'
        rcases List.mem_append.1 hs' with h2 | h2
        · exact absurd h2 hn
        · obtain ⟨q, hq, he⟩ := List.mem_map.1 h2
          exact ⟨q, hq, he, hc q (h.mem q hq)⟩
  · rw [if_neg hs]
    refine ⟨fun a ha => ?_, by simp [h.seen], fun a ha => ?_, fun a ha hn => ?_, ?_⟩
    · rcases List.mem_append.1 ha with h1 | h1
      · exact List.mem_append_left _ (h.mem a h1)
      · exact List.mem_append_right _ h1
    · rcases List.mem_append.1 ha with h1 | h1
      · exact List.mem_append_left _ (h.all a h1)
      · simp only [List.mem_singleton] at h1; subst h1; simp
    · rcases List.mem_append.1 ha with h1 | h1
      · obtain ⟨q, h2, h3, h4⟩ := h.least a h1 hn
        exact ⟨q, List.mem_append_left _ h2, h3, h4⟩
      · simp only [List.mem_singleton] at h1
        subst h1
        exact ⟨a, by simp, rfl, Lex.refl _⟩
    · refine List.pairwise_append.2 ⟨h.sorted, List.pairwise_singleton _ _, fun a ha b hb => ?_⟩
      simp only [List.mem_singleton] at hb
      subst hb
      exact hc a (h.mem a ha)
theorem ddL_ok {S : List Int} : ∀ {C : List (List Int)}, C.Pairwise Lex → DdOk S C (ddL S C) := by
  intro C
  unfold ddL
  suffices h : ∀ (D C : List (List Int)) (s : List (List Int) × List Int), (D ++ C).Pairwise Lex → DdOk S D s → DdOk S (D ++ C) (C.foldl ddF s) by
    intro hp
    have := h [] C ([], S) (by simpa using hp) ⟨fun c hc => by simp at hc, by simp, fun c hc => by simp at hc, fun c hc => by simp at hc, List.Pairwise.nil⟩
    simpa using this
  intro D C
  induction C generalizing D with
  | nil => intro s _ h; simpa using h
  | cons c C ih =>
    intro s hp h
    rw [List.foldl_cons]
    have e : D ++ c :: C = (D ++ [c]) ++ C := by simp
    rw [e] at hp ⊢
    refine ih (D ++ [c]) (ddF s c) hp (ddF_ok h fun a ha => ?_)
    have h1 := (List.pairwise_append.1 hp).1
    exact (List.pairwise_append.1 h1).2.2 a ha c (by simp)
/-- What holds before the paths of m steps are looked through. -/
structure Layer (l : List Fmt) (day u : Int) (m : Nat) (P : List (List Int)) (S : List Int) : Prop where
  least : ∀ p ∈ P, LeastN l day m u (lastI p) p
  fresh : ∀ p ∈ P, ∀ k, k < m → ¬ HasN l day k u (lastI p)
  all : ∀ v, HasN l day m u v → (∀ k, k < m → ¬ HasN l day k u v) → ∃ p ∈ P, lastI p = v
  sorted : P.Pairwise fun p q => Lex p q ∧ p ≠ q
  seen : ∀ v, v ∈ S ↔ ∃ k, k ≤ m ∧ HasN l day k u v
  nodup : S.Nodup
theorem layer_zero (l : List Fmt) (day u : Int) : Layer l day u 0 [[u]] [u] := by
  refine ⟨fun p hp => ?_, fun p hp k hk => by omega, fun v h _ => ?_, List.pairwise_singleton _ _, fun v => ?_, by simp⟩
  · simp only [List.mem_singleton] at hp
    subst hp
    exact ⟨⟨rfl, rfl⟩, fun q hq => by obtain ⟨rfl, _⟩ := hq; exact Lex.refl _⟩
  · obtain ⟨q, _, rfl⟩ := h; exact ⟨[u], by simp, rfl⟩
  · constructor
    · intro h; simp only [List.mem_singleton] at h; subst h; exact ⟨0, Nat.le_refl _, [v], rfl, rfl⟩
    · rintro ⟨k, hk, q, hq⟩
      obtain rfl : k = 0 := by omega
      obtain ⟨_, rfl⟩ := hq; simp
theorem cand_mem {l : List Fmt} {day : Int} {P : List (List Int)} {c : List Int} : c ∈ candL l day P ↔ ∃ p ∈ P, ∃ f ∈ l, day ≤ f.un ∧ lastI p ∈ f.rd ∧ c = p ++ [f.id] := by
  unfold candL candP leadB
  simp only [List.mem_flatMap, List.mem_map, List.mem_filter, Bool.and_eq_true, decide_eq_true_eq, List.contains_iff_mem]
  constructor
  · rintro ⟨p, hp, f, ⟨h1, h2, h3⟩, rfl⟩; exact ⟨p, hp, f, h1, h3, h2, rfl⟩
  · rintro ⟨p, hp, f, h1, h3, h2, rfl⟩; exact ⟨p, hp, f, ⟨h1, h2, h3⟩, rfl⟩
theorem cand_sorted {l : List Fmt} (hr : RiseI (l.map (·.id))) {day : Int} {m : Nat} : ∀ {P : List (List Int)}, (∀ p ∈ P, p.length = m) → P.Pairwise (fun p q => Lex p q ∧ p ≠ q) → (candL l day P).Pairwise fun p q => Lex p q ∧ p ≠ q
  | [], _, _ => List.Pairwise.nil
  | p :: P, hl, hp => by
    have hp' := List.pairwise_cons.1 hp
    unfold candL
    rw [List.flatMap_cons]
    refine List.pairwise_append.2 ⟨?_, cand_sorted hr (fun q hq => hl q (List.mem_cons_of_mem _ hq)) hp'.2, fun a ha b hb => ?_⟩
    · unfold candP
      rw [List.pairwise_map]
      have h1 : (l.filter (leadB day (lastI p))).Pairwise fun a b => a.id < b.id := by
        have := List.pairwise_map.1 hr
        exact this.sublist List.filter_sublist
      refine h1.imp fun {a b} hab => ⟨Lex.snoc rfl (Lex.refl _) fun _ => by omega, fun he => ?_⟩
      have := List.append_cancel_left he
      simp only [List.cons.injEq, and_true] at this
      omega
    · unfold candP at ha
      obtain ⟨f, _, rfl⟩ := List.mem_map.1 ha
      obtain ⟨q, hq, g, _, _, _, rfl⟩ := cand_mem.1 hb
      have h3 := hp'.1 q hq
      refine ⟨Lex.snoc (by rw [hl p List.mem_cons_self, hl q (List.mem_cons_of_mem _ hq)]) h3.1 fun e => absurd e h3.2, fun he => h3.2 ?_⟩
      exact (List.append_inj he (by rw [hl p List.mem_cons_self, hl q (List.mem_cons_of_mem _ hq)])).1
theorem layer_next {l : List Fmt} (hr : RiseI (l.map (·.id))) {day u : Int} {m : Nat} {P : List (List Int)} {S : List Int} (h : Layer l day u m P S) :
    Layer l day u (m + 1) (ddL S (candL l day P)).1 (ddL S (candL l day P)).2 := by
  have hcs := cand_sorted hr (day := day) (m := m + 1) (fun p hp => (h.least p hp).1.len) h.sorted
  have hd := ddL_ok (S := S) (hcs.imp fun h => h.1)
  -- a path of m + 1 steps to a format that is not seen comes by a path of the layer
  have key : ∀ v q, v ∉ S → PathN l day (m + 1) u v q → ∃ c ∈ candL l day P, lastI c = v ∧ Lex c q := by
    intro v q hv hq
    obtain ⟨x, q', h1, h2, rfl⟩ := hq.unsnoc
    have hfx : ∀ k, k < m → ¬ HasN l day k u x := fun k hk ⟨r, hr⟩ => hv ((h.seen v).2 ⟨k + 1, by omega, _, hr.snoc h2⟩)
    obtain ⟨p, hp, rfl⟩ := h.all x ⟨q', h1⟩ hfx
    have hlp := h.least p hp
    obtain ⟨f, hf, rfl, h3, h4⟩ := h2
    exact ⟨p ++ [f.id], cand_mem.2 ⟨p, hp, f, hf, h3, h4, rfl⟩, lastI_snoc _ _, Lex.snoc (by rw [hlp.1.len, h1.len]) (hlp.2 _ h1) fun _ => Int.le_refl _⟩
  have hpath : ∀ c ∈ candL l day P, PathN l day (m + 1) u (lastI c) c := by
    intro c hc
    obtain ⟨p, hp, f, hf, h3, h4, rfl⟩ := cand_mem.1 hc
    rw [lastI_snoc]
    exact (h.least p hp).1.snoc ⟨f, hf, rfl, h3, h4⟩
  -- what is kept was not seen
  have hnd : (S ++ (ddL S (candL l day P)).1.map lastI).Nodup := by
    have : ∀ (C : List (List Int)) (s : List (List Int) × List Int), s.2.Nodup → (C.foldl ddF s).2.Nodup := by
      intro C
      induction C with
      | nil => intro s hs; exact hs
      | cons c C ih =>
        intro s hs
        rw [List.foldl_cons]
        apply ih
        unfold ddF
        split
        · exact hs
        · rename_i hn
          refine List.nodup_append.2 ⟨hs, by simp, fun a ha b hb => ?_⟩
          simp only [List.mem_singleton] at hb
          rintro rfl
          subst hb
          exact hn (by simpa using ha)
    rw [← hd.seen]
    exact this _ _ h.nodup
  have hfresh : ∀ q ∈ (ddL S (candL l day P)).1, lastI q ∉ S := fun q hq hs => by
    have := (List.nodup_append.1 hnd).2.2 _ hs _ (List.mem_map_of_mem hq)
    exact this rfl
  refine ⟨fun q hq => ?_, fun q hq k hk hh => hfresh q hq ((h.seen _).2 ⟨k, by omega, hh⟩), fun v hv hn => ?_, ?_, fun v => ?_, ?_⟩
  · refine ⟨hpath q (hd.mem q hq), fun r hr => ?_⟩
    obtain ⟨c, hc, h1, h2⟩ := key _ r (hfresh q hq) hr
    obtain ⟨q', h3, h4, h5⟩ := hd.least c hc (by rw [h1]; exact hfresh q hq)
    have : q' = q := by
      have h6 := (List.nodup_append.1 hnd).2.1
      have h7 : (ddL S (candL l day P)).1.Pairwise fun a b => lastI a ≠ lastI b := List.pairwise_map.1 h6
      exact pw_inj lastI h7 h3 hq (h4.trans h1)
    rw [← this]; exact h5.trans h2
  · obtain ⟨q, hq⟩ := hv
    have hvs : v ∉ S := fun hs => by
      obtain ⟨k, hk, hh⟩ := (h.seen v).1 hs
      exact hn k (by omega) hh
    obtain ⟨c, hc, h1, _⟩ := key v q hvs hq
    obtain ⟨q', h3, h4, _⟩ := hd.least c hc (by rw [h1]; exact hvs)
    exact ⟨q', h3, by rw [h4, h1]⟩
  · have h6 := (List.nodup_append.1 hnd).2.1
    have h7 : (ddL S (candL l day P)).1.Pairwise fun a b => lastI a ≠ lastI b := List.pairwise_map.1 h6
    exact List.Pairwise.imp₂ (fun a b h1 h2 => ⟨h1, fun he => h2 (by rw [he])⟩) hd.sorted h7
  · rw [hd.seen, List.mem_append, h.seen, List.mem_map]
    constructor
    · rintro (⟨k, hk, hh⟩ | ⟨q, hq, rfl⟩)
      · exact ⟨k, by omega, hh⟩
      · exact ⟨m + 1, Nat.le_refl _, q, hpath q (hd.mem q hq)⟩
    · rintro ⟨k, hk, q, hq⟩
      by_cases hv : ∃ k, k ≤ m ∧ HasN l day k u v
      · exact .inl hv
      · right
        obtain rfl : k = m + 1 := by
          by_cases h8 : k ≤ m
          · exact absurd ⟨k, h8, q, hq⟩ hv
          · omega
        have hvs : v ∉ S := fun hs => hv ((h.seen v).1 hs)
        obtain ⟨c, hc, h1, _⟩ := key v q hvs hq
        obtain ⟨q', h3, h4, _⟩ := hd.least c hc (by rw [h1]; exact hvs)
        exact ⟨q', h3, by rw [h4, h1]⟩
  · rw [hd.seen]; exact hnd
theorem layer_found {l : List Fmt} {day u : Int} {m : Nat} {P : List (List Int)} {S : List Int} (h : Layer l day u m P S) {p : List Int} (hp : p ∈ P) : shortO l day u (lastI p) = some p :=
  shortO_some ⟨m, h.least p hp, h.fresh p hp⟩
/-- No path of the layer leads to t: none of m steps, where no shorter one does. -/
theorem layer_step {l : List Fmt} {day u t : Int} {m : Nat} {P : List (List Int)} {S : List Int} (h : Layer l day u m P S) (hn : ∀ k, k < m → ¬ HasN l day k u t) (hp : ∀ p ∈ P, lastI p ≠ t) : ∀ k, k < m + 1 → ¬ HasN l day k u t := by
  intro k hk
  by_cases h1 : k < m
  · exact hn k h1
  · obtain rfl : k = m := by omega
    intro hh
    obtain ⟨p, h2, h3⟩ := h.all t hh hn
    exact hp p h2 h3
theorem layer_empty {l : List Fmt} {day u t : Int} {m : Nat} {S : List Int} (h : Layer l day u m [] S) (hn : ∀ k, k < m → ¬ HasN l day k u t) : shortO l day u t = none := by
  refine shortO_none fun n hh => ?_
  obtain ⟨d, _, ⟨p, hp⟩, h3⟩ := short_ex n hh
  have hd : m ≤ d := by
    by_cases h4 : d < m
    · exact absurd ⟨p, hp⟩ (hn d h4)
    · omega
  obtain ⟨v, _, h5, ⟨q2, h6⟩⟩ := hp.mid m hd
  have hf : ∀ k, k < m → ¬ HasN l day k u v := fun k hk ⟨q, hq⟩ => by
    obtain ⟨r, hr⟩ := hq.comp h6
    exact h3 (k + (d - m)) (by omega) ⟨r, hr⟩
  obtain ⟨p', hp', _⟩ := h.all v h5 hf
  cases hp'
def pathOk (l : List Fmt) (u t day : Int) : Bool := waysOk l u day && decide (0 ≤ atF l t)
noncomputable def pathR (l : List Fmt) (u t day : Int) : Option (List Int) := if pathOk l u t day = true then shortO l day u t else none
theorem pathR_yes {l : List Fmt} {u t day : Int} (h : pathOk l u t day = true) : pathR l u t day = shortO l day u t := if_pos h
theorem pathR_no {l : List Fmt} {u t day : Int} (h : pathOk l u t day = false) : pathR l u t day = none := if_neg (by rw [h]; exact Bool.false_ne_true)
end Go.Rd
