/- A struct with a text and a slice, as a plain Lean structure beside the slice's own value; without a program; no condition. -/
import Derived.Test.YtefabcnifbnehaaDoorNestData
import Derived.Test.YtefabcnifbnehaaDoorTextData
namespace Go.Rd
open Go.Sort Go.RowKit
structure Fmt where
  id : Int
  na : List UInt8
  un : Int
  rd : List Int
  deriving DecidableEq, Inhabited
def Fmt.enc (p : Fmt × Value) : List Value := [.int .i64 p.1.id, .string ⟨p.1.na.toArray⟩, .int .i64 p.1.un, p.2]
theorem Fmt.enc_len (p : Fmt × Value) : (Fmt.enc p).length = 4 := rfl
/-- The slice that stands beside it reads as its list. -/
def Fmt.At (w : World) (p : Fmt × Value) : Prop := Reads w 1 p.2 p.1.rd.length (p.1.rd.flatMap encI)
theorem Fmt.At.mono {w w' : World} (h : Ext w w') {p : Fmt × Value} (hp : Fmt.At w p) : Fmt.At w' p := Reads.mono h hp
/-- The slice v of structs reads as pl: each struct with its own slice. -/
def Fmt.All (w : World) (v : Value) (pl : List (Fmt × Value)) : Prop := Reads w 4 v pl.length (pl.flatMap Fmt.enc) ∧ ∀ p ∈ pl, Fmt.At w p
theorem Fmt.All.mono {w w' : World} (h : Ext w w') {v : Value} {pl : List (Fmt × Value)} (hp : Fmt.All w v pl) : Fmt.All w' v pl := ⟨Reads.mono h hp.1, fun p hm => (hp.2 p hm).mono h⟩
/-- .. told by the list alone. -/
def Fmt.Rd (w : World) (v : Value) (l : List Fmt) : Prop := ∃ pl, pl.map Prod.fst = l ∧ Fmt.All w v pl
theorem Fmt.Rd.mono {w w' : World} (h : Ext w w') {v : Value} {l : List Fmt} (hp : Fmt.Rd w v l) : Fmt.Rd w' v l := by obtain ⟨pl, h1, h2⟩ := hp; exact ⟨pl, h1, h2.mono h⟩
theorem Fmt.Rd.shape {w : World} {v : Value} {l : List Fmt} (hp : Fmt.Rd w v l) : ∃ a cap, v = .slice a l.length cap := by obtain ⟨pl, rfl, h2⟩ := hp; simpa using Reads.shape h2.1
/-- A row of structs of the call's own, each struct's slice too; all below block hi. -/
def Fmt.Own (R F : TypeId) (w : World) (base hi : Nat) (l : List Fmt) (v : Value) : Prop :=
  ∃ pl : List (Fmt × Value), pl.map Prod.fst = l ∧ w.ownsRow base R 4 v pl.length (pl.flatMap Fmt.enc) ∧ (∀ p ∈ pl, w.ownsRow base F 1 p.2 p.1.rd.length (p.1.rd.flatMap encI)) ∧ (∀ j, v.ownBlock = some j → j < hi) ∧ ∀ p ∈ pl, ∀ j, p.2.ownBlock = some j → j < hi
theorem Fmt.Own.ext {R F : TypeId} {w w' : World} {base hi : Nat} {l : List Fmt} {v : Value} (h : Ext w w') (ho : Fmt.Own R F w base hi l v) : Fmt.Own R F w' base hi l v := by
  obtain ⟨pl, h1, h2, h3, h4, h5⟩ := ho
  exact ⟨pl, h1, h.owns h2, fun p hp => h.owns (h3 p hp), h4, h5⟩
theorem Fmt.Own.above {R F : TypeId} {w w' : World} {base hi lo2 hi2 : Nat} {l : List Fmt} {v : Value} (h : Turned lo2 hi2 w w') (ho : Fmt.Own R F w base hi l v) (hb : hi2 ≤ base) : Fmt.Own R F w' base hi l v := by
  obtain ⟨pl, h1, h2, h3, h4, h5⟩ := ho
  exact ⟨pl, h1, owns_above h h2 hb, fun p hp => owns_above h (h3 p hp) hb, h4, h5⟩
theorem Fmt.Own.rd {R F : TypeId} {w : World} {base hi : Nat} {l : List Fmt} {v : Value} (ho : Fmt.Own R F w base hi l v) : Fmt.Rd w v l := by
  obtain ⟨pl, h1, h2, h3, _⟩ := ho
  exact ⟨pl, h1, Reads.of_owns h2, fun p hp => Reads.of_owns (h3 p hp)⟩
theorem Fmt.Own.of {R F : TypeId} {w : World} {base : Nat} {pl : List (Fmt × Value)} {v : Value} (h2 : w.ownsRow base R 4 v pl.length (pl.flatMap Fmt.enc)) (h3 : ∀ p ∈ pl, w.ownsRow base F 1 p.2 p.1.rd.length (p.1.rd.flatMap encI)) : Fmt.Own R F w base w.heap.size (pl.map Prod.fst) v :=
  ⟨pl, rfl, h2, h3, fun j hj => (h2.lt j hj).2, fun p hp j hj => ((h3 p hp).lt j hj).2⟩
def Fmt.wt (l : List Fmt) : Nat := (l.map fun r => r.na.length + r.rd.length).sum
theorem Fmt.wt_step (l : List Fmt) (k : Nat) (x : Fmt) (h : l[k]? = some x) : Fmt.wt (l.take (k + 1)) = Fmt.wt (l.take k) + (x.na.length + x.rd.length) := by
  unfold Fmt.wt; rw [List.take_add_one, h]; simp
theorem Fmt.wt_le (l : List Fmt) (k : Nat) : Fmt.wt (l.take k) ≤ Fmt.wt l := by
  unfold Fmt.wt; conv => rhs; rw [← List.take_append_drop k l]
  rw [List.map_append, List.sum_append]; omega
theorem Fmt.le_wt {l : List Fmt} {r : Fmt} (h : r ∈ l) : r.na.length + r.rd.length ≤ Fmt.wt l := by
  unfold Fmt.wt; induction l with
  | nil => cases h
  | cons a l ih =>
    simp only [List.map_cons, List.sum_cons]
    rcases List.mem_cons.1 h with rfl | h
    · omega
    · have := ih h; omega
theorem Fmt.one {w : World} {p : Fmt × Value} (h : Fmt.At w p) : ∀ u ∈ Fmt.enc p, u.oneCell' = true := by
  obtain ⟨a, c, hs⟩ := Reads.shape h
  intro u hu; simp only [Fmt.enc, List.mem_cons, List.not_mem_nil, or_false] at hu
  rcases hu with rfl | rfl | rfl | rfl
  all_goals first | rfl | (rw [hs]; rfl)
theorem Fmt.Rd.addr {w : World} {a : Option Addr} {n cap : Nat} {l : List Fmt} (h : Fmt.Rd w (.slice a n cap) l) (h0 : 0 < l.length) : ∃ b off, a = some ⟨b, off, none⟩ := by
  obtain ⟨pl, rfl, h1, h2⟩ := h
  obtain ⟨b, off, ha, _⟩ := Reads.elems Fmt.enc_len h1 (by simpa using h0)
  exact ⟨b, off, ha⟩
theorem Fmt.Rd.cells {w : World} {b off n cap : Nat} {l : List Fmt} (h : Fmt.Rd w (.slice (some ⟨b, off, none⟩) n cap) l) {k : Nat} {r : Fmt} (hx : l[k]? = some r) :
    ∃ ca cc, w.cell? ⟨b, off + k * 4, none⟩ = some (.int .i64 r.id) ∧ w.cell? ⟨b, off + k * 4 + 1, none⟩ = some (.string ⟨r.na.toArray⟩) ∧ w.cell? ⟨b, off + k * 4 + 2, none⟩ = some (.int .i64 r.un) ∧ w.cell? ⟨b, off + k * 4 + 3, none⟩ = some (.slice ca r.rd.length cc) ∧ Fmt.At w (r, .slice ca r.rd.length cc) := by
  obtain ⟨pl, rfl, h1, h2⟩ := h
  rw [List.getElem?_map] at hx
  cases hp : pl[k]? with
  | none => rw [hp] at hx; cases hx
  | some p =>
    rw [hp] at hx
    simp only [Option.map_some, Option.some.injEq] at hx
    subst hx
    have hk := (List.getElem?_eq_some_iff.1 hp).1
    obtain ⟨b', off', ha, hc⟩ := Reads.elems Fmt.enc_len h1 (by omega)
    simp only [Option.some.injEq, Addr.mk.injEq, and_true] at ha
    obtain ⟨rfl, rfl⟩ := ha
    have hat := h2 p (List.mem_of_getElem? hp)
    obtain ⟨ca, cc, hs⟩ := Reads.shape hat
    obtain ⟨p1, p2⟩ := p
    simp only at hs
    subst hs
    exact ⟨ca, cc, hc k _ hp 0 _ rfl, hc k _ hp 1 _ rfl, hc k _ hp 2 _ rfl, hc k _ hp 3 _ rfl, hat⟩
end Go.Rd
