/- Structs that hold one slice, as plain Lean structures, each beside the slice's own value; without a program; no condition. -/
import Derived.Test.YtankodjcccnjlaaData
namespace Go.Rd
open Go.Sort Go.RowKit
structure Rec where
  id : Int
  se : Int
  ma : Int
  evs : List Evt
  deriving DecidableEq, Inhabited
def Rec.enc (p : Rec × Value) : List Value := [.int .i64 p.1.id, .int .i64 p.1.se, .int .i64 p.1.ma, p.2]
theorem Rec.enc_len (p : Rec × Value) : (Rec.enc p).length = 4 := rfl
/-- The slice that stands beside it reads as its list. -/
def Rec.At (w : World) (p : Rec × Value) : Prop := Reads w 2 p.2 p.1.evs.length (p.1.evs.flatMap Evt.enc)
theorem Rec.At.mono {w w' : World} (h : Ext w w') {p : Rec × Value} (hp : Rec.At w p) : Rec.At w' p := Reads.mono h hp
/-- The slice v of structs reads as pl: each struct with its own slice. -/
def Rec.All (w : World) (v : Value) (pl : List (Rec × Value)) : Prop := Reads w 4 v pl.length (pl.flatMap Rec.enc) ∧ ∀ p ∈ pl, Rec.At w p
theorem Rec.All.mono {w w' : World} (h : Ext w w') {v : Value} {pl : List (Rec × Value)} (hp : Rec.All w v pl) : Rec.All w' v pl := ⟨Reads.mono h hp.1, fun p hm => (hp.2 p hm).mono h⟩
/-- .. told by the list alone. -/
def Rec.Rd (w : World) (v : Value) (l : List Rec) : Prop := ∃ pl, pl.map Prod.fst = l ∧ Rec.All w v pl
theorem Rec.Rd.mono {w w' : World} (h : Ext w w') {v : Value} {l : List Rec} (hp : Rec.Rd w v l) : Rec.Rd w' v l := by obtain ⟨pl, h1, h2⟩ := hp; exact ⟨pl, h1, h2.mono h⟩
theorem Rec.Rd.shape {w : World} {v : Value} {l : List Rec} (hp : Rec.Rd w v l) : ∃ a cap, v = .slice a l.length cap := by obtain ⟨pl, rfl, h2⟩ := hp; simpa using Reads.shape h2.1
/-- A row of structs of the call's own, each struct's slice too; all below block hi. -/
def Rec.Own (R F : TypeId) (w : World) (base hi : Nat) (l : List Rec) (v : Value) : Prop :=
  ∃ pl : List (Rec × Value), pl.map Prod.fst = l ∧ w.ownsRow base R 4 v pl.length (pl.flatMap Rec.enc) ∧ (∀ p ∈ pl, w.ownsRow base F 2 p.2 p.1.evs.length (p.1.evs.flatMap Evt.enc)) ∧ (∀ j, v.ownBlock = some j → j < hi) ∧ ∀ p ∈ pl, ∀ j, p.2.ownBlock = some j → j < hi
theorem Rec.Own.ext {R F : TypeId} {w w' : World} {base hi : Nat} {l : List Rec} {v : Value} (h : Ext w w') (ho : Rec.Own R F w base hi l v) : Rec.Own R F w' base hi l v := by
  obtain ⟨pl, h1, h2, h3, h4, h5⟩ := ho
  exact ⟨pl, h1, h.owns h2, fun p hp => h.owns (h3 p hp), h4, h5⟩
theorem Rec.Own.above {R F : TypeId} {w w' : World} {base hi lo2 hi2 : Nat} {l : List Rec} {v : Value} (h : Turned lo2 hi2 w w') (ho : Rec.Own R F w base hi l v) (hb : hi2 ≤ base) : Rec.Own R F w' base hi l v := by
  obtain ⟨pl, h1, h2, h3, h4, h5⟩ := ho
  exact ⟨pl, h1, owns_above h h2 hb, fun p hp => owns_above h (h3 p hp) hb, h4, h5⟩
theorem Rec.Own.rd {R F : TypeId} {w : World} {base hi : Nat} {l : List Rec} {v : Value} (ho : Rec.Own R F w base hi l v) : Rec.Rd w v l := by
  obtain ⟨pl, h1, h2, h3, _⟩ := ho
  exact ⟨pl, h1, Reads.of_owns h2, fun p hp => Reads.of_owns (h3 p hp)⟩
theorem Rec.Own.of {R F : TypeId} {w : World} {base : Nat} {pl : List (Rec × Value)} {v : Value} (h2 : w.ownsRow base R 4 v pl.length (pl.flatMap Rec.enc)) (h3 : ∀ p ∈ pl, w.ownsRow base F 2 p.2 p.1.evs.length (p.1.evs.flatMap Evt.enc)) : Rec.Own R F w base w.heap.size (pl.map Prod.fst) v :=
  ⟨pl, rfl, h2, h3, fun j hj => (h2.lt j hj).2, fun p hp j hj => ((h3 p hp).lt j hj).2⟩
def Rec.wt (l : List Rec) : Nat := (l.map fun r => r.evs.length).sum
theorem Rec.wt_step (l : List Rec) (k : Nat) (x : Rec) (h : l[k]? = some x) : Rec.wt (l.take (k + 1)) = Rec.wt (l.take k) + x.evs.length := by
  unfold Rec.wt; rw [List.take_add_one, h]; simp
theorem Rec.wt_le (l : List Rec) (k : Nat) : Rec.wt (l.take k) ≤ Rec.wt l := by
  unfold Rec.wt; conv => rhs; rw [← List.take_append_drop k l]
  rw [List.map_append, List.sum_append]; omega
theorem Rec.le_wt {l : List Rec} {r : Rec} (h : r ∈ l) : r.evs.length ≤ Rec.wt l := by
  unfold Rec.wt; induction l with
  | nil => cases h
  | cons a l ih =>
    simp only [List.map_cons, List.sum_cons]
    rcases List.mem_cons.1 h with rfl | h
    · omega
    · have := ih h; omega
theorem Rec.one {w : World} {p : Rec × Value} (h : Rec.At w p) : ∀ u ∈ Rec.enc p, u.oneCell' = true := by
  obtain ⟨a, c, hs⟩ := Reads.shape h
  intro u hu; simp only [Rec.enc, List.mem_cons, List.not_mem_nil, or_false] at hu
  rcases hu with rfl | rfl | rfl | rfl
  all_goals first | rfl | (rw [hs]; rfl)
structure Hld where
  id : Int
  fr : Int
  un : Int
  ss : List Int
  fi : Int
  la : Int
  deriving DecidableEq, Inhabited
def Hld.enc (p : Hld × Value) : List Value := [.int .i64 p.1.id, .int .i64 p.1.fr, .int .i64 p.1.un, p.2, .int .i64 p.1.fi, .int .i64 p.1.la]
theorem Hld.enc_len (p : Hld × Value) : (Hld.enc p).length = 6 := rfl
/-- The slice that stands beside it reads as its list. -/
def Hld.At (w : World) (p : Hld × Value) : Prop := Reads w 1 p.2 p.1.ss.length (p.1.ss.flatMap encI)
theorem Hld.At.mono {w w' : World} (h : Ext w w') {p : Hld × Value} (hp : Hld.At w p) : Hld.At w' p := Reads.mono h hp
/-- The slice v of structs reads as pl: each struct with its own slice. -/
def Hld.All (w : World) (v : Value) (pl : List (Hld × Value)) : Prop := Reads w 6 v pl.length (pl.flatMap Hld.enc) ∧ ∀ p ∈ pl, Hld.At w p
theorem Hld.All.mono {w w' : World} (h : Ext w w') {v : Value} {pl : List (Hld × Value)} (hp : Hld.All w v pl) : Hld.All w' v pl := ⟨Reads.mono h hp.1, fun p hm => (hp.2 p hm).mono h⟩
/-- .. told by the list alone. -/
def Hld.Rd (w : World) (v : Value) (l : List Hld) : Prop := ∃ pl, pl.map Prod.fst = l ∧ Hld.All w v pl
theorem Hld.Rd.mono {w w' : World} (h : Ext w w') {v : Value} {l : List Hld} (hp : Hld.Rd w v l) : Hld.Rd w' v l := by obtain ⟨pl, h1, h2⟩ := hp; exact ⟨pl, h1, h2.mono h⟩
theorem Hld.Rd.shape {w : World} {v : Value} {l : List Hld} (hp : Hld.Rd w v l) : ∃ a cap, v = .slice a l.length cap := by obtain ⟨pl, rfl, h2⟩ := hp; simpa using Reads.shape h2.1
/-- A row of structs of the call's own, each struct's slice too; all below block hi. -/
def Hld.Own (R F : TypeId) (w : World) (base hi : Nat) (l : List Hld) (v : Value) : Prop :=
  ∃ pl : List (Hld × Value), pl.map Prod.fst = l ∧ w.ownsRow base R 6 v pl.length (pl.flatMap Hld.enc) ∧ (∀ p ∈ pl, w.ownsRow base F 1 p.2 p.1.ss.length (p.1.ss.flatMap encI)) ∧ (∀ j, v.ownBlock = some j → j < hi) ∧ ∀ p ∈ pl, ∀ j, p.2.ownBlock = some j → j < hi
theorem Hld.Own.ext {R F : TypeId} {w w' : World} {base hi : Nat} {l : List Hld} {v : Value} (h : Ext w w') (ho : Hld.Own R F w base hi l v) : Hld.Own R F w' base hi l v := by
  obtain ⟨pl, h1, h2, h3, h4, h5⟩ := ho
  exact ⟨pl, h1, h.owns h2, fun p hp => h.owns (h3 p hp), h4, h5⟩
theorem Hld.Own.above {R F : TypeId} {w w' : World} {base hi lo2 hi2 : Nat} {l : List Hld} {v : Value} (h : Turned lo2 hi2 w w') (ho : Hld.Own R F w base hi l v) (hb : hi2 ≤ base) : Hld.Own R F w' base hi l v := by
  obtain ⟨pl, h1, h2, h3, h4, h5⟩ := ho
  exact ⟨pl, h1, owns_above h h2 hb, fun p hp => owns_above h (h3 p hp) hb, h4, h5⟩
theorem Hld.Own.rd {R F : TypeId} {w : World} {base hi : Nat} {l : List Hld} {v : Value} (ho : Hld.Own R F w base hi l v) : Hld.Rd w v l := by
  obtain ⟨pl, h1, h2, h3, _⟩ := ho
  exact ⟨pl, h1, Reads.of_owns h2, fun p hp => Reads.of_owns (h3 p hp)⟩
theorem Hld.Own.of {R F : TypeId} {w : World} {base : Nat} {pl : List (Hld × Value)} {v : Value} (h2 : w.ownsRow base R 6 v pl.length (pl.flatMap Hld.enc)) (h3 : ∀ p ∈ pl, w.ownsRow base F 1 p.2 p.1.ss.length (p.1.ss.flatMap encI)) : Hld.Own R F w base w.heap.size (pl.map Prod.fst) v :=
  ⟨pl, rfl, h2, h3, fun j hj => (h2.lt j hj).2, fun p hp j hj => ((h3 p hp).lt j hj).2⟩
def Hld.wt (l : List Hld) : Nat := (l.map fun r => r.ss.length).sum
theorem Hld.wt_step (l : List Hld) (k : Nat) (x : Hld) (h : l[k]? = some x) : Hld.wt (l.take (k + 1)) = Hld.wt (l.take k) + x.ss.length := by
  unfold Hld.wt; rw [List.take_add_one, h]; simp
theorem Hld.wt_le (l : List Hld) (k : Nat) : Hld.wt (l.take k) ≤ Hld.wt l := by
  unfold Hld.wt; conv => rhs; rw [← List.take_append_drop k l]
  rw [List.map_append, List.sum_append]; omega
theorem Hld.le_wt {l : List Hld} {r : Hld} (h : r ∈ l) : r.ss.length ≤ Hld.wt l := by
  unfold Hld.wt; induction l with
  | nil => cases h
  | cons a l ih =>
    simp only [List.map_cons, List.sum_cons]
    rcases List.mem_cons.1 h with rfl | h
    · omega
    · have := ih h; omega
theorem Hld.one {w : World} {p : Hld × Value} (h : Hld.At w p) : ∀ u ∈ Hld.enc p, u.oneCell' = true := by
  obtain ⟨a, c, hs⟩ := Reads.shape h
  intro u hu; simp only [Hld.enc, List.mem_cons, List.not_mem_nil, or_false] at hu
  rcases hu with rfl | rfl | rfl | rfl | rfl | rfl
  all_goals first | rfl | (rw [hs]; rfl)
structure Ver where
  fr : Int
  rs : List Rul
  deriving DecidableEq, Inhabited
def Ver.enc (p : Ver × Value) : List Value := [.int .i64 p.1.fr, p.2]
theorem Ver.enc_len (p : Ver × Value) : (Ver.enc p).length = 2 := rfl
/-- The slice that stands beside it reads as its list. -/
def Ver.At (w : World) (p : Ver × Value) : Prop := Reads w 4 p.2 p.1.rs.length (p.1.rs.flatMap Rul.enc)
theorem Ver.At.mono {w w' : World} (h : Ext w w') {p : Ver × Value} (hp : Ver.At w p) : Ver.At w' p := Reads.mono h hp
/-- The slice v of structs reads as pl: each struct with its own slice. -/
def Ver.All (w : World) (v : Value) (pl : List (Ver × Value)) : Prop := Reads w 2 v pl.length (pl.flatMap Ver.enc) ∧ ∀ p ∈ pl, Ver.At w p
theorem Ver.All.mono {w w' : World} (h : Ext w w') {v : Value} {pl : List (Ver × Value)} (hp : Ver.All w v pl) : Ver.All w' v pl := ⟨Reads.mono h hp.1, fun p hm => (hp.2 p hm).mono h⟩
/-- .. told by the list alone. -/
def Ver.Rd (w : World) (v : Value) (l : List Ver) : Prop := ∃ pl, pl.map Prod.fst = l ∧ Ver.All w v pl
theorem Ver.Rd.mono {w w' : World} (h : Ext w w') {v : Value} {l : List Ver} (hp : Ver.Rd w v l) : Ver.Rd w' v l := by obtain ⟨pl, h1, h2⟩ := hp; exact ⟨pl, h1, h2.mono h⟩
theorem Ver.Rd.shape {w : World} {v : Value} {l : List Ver} (hp : Ver.Rd w v l) : ∃ a cap, v = .slice a l.length cap := by obtain ⟨pl, rfl, h2⟩ := hp; simpa using Reads.shape h2.1
/-- A row of structs of the call's own, each struct's slice too; all below block hi. -/
def Ver.Own (R F : TypeId) (w : World) (base hi : Nat) (l : List Ver) (v : Value) : Prop :=
  ∃ pl : List (Ver × Value), pl.map Prod.fst = l ∧ w.ownsRow base R 2 v pl.length (pl.flatMap Ver.enc) ∧ (∀ p ∈ pl, w.ownsRow base F 4 p.2 p.1.rs.length (p.1.rs.flatMap Rul.enc)) ∧ (∀ j, v.ownBlock = some j → j < hi) ∧ ∀ p ∈ pl, ∀ j, p.2.ownBlock = some j → j < hi
theorem Ver.Own.ext {R F : TypeId} {w w' : World} {base hi : Nat} {l : List Ver} {v : Value} (h : Ext w w') (ho : Ver.Own R F w base hi l v) : Ver.Own R F w' base hi l v := by
  obtain ⟨pl, h1, h2, h3, h4, h5⟩ := ho
  exact ⟨pl, h1, h.owns h2, fun p hp => h.owns (h3 p hp), h4, h5⟩
theorem Ver.Own.above {R F : TypeId} {w w' : World} {base hi lo2 hi2 : Nat} {l : List Ver} {v : Value} (h : Turned lo2 hi2 w w') (ho : Ver.Own R F w base hi l v) (hb : hi2 ≤ base) : Ver.Own R F w' base hi l v := by
  obtain ⟨pl, h1, h2, h3, h4, h5⟩ := ho
  exact ⟨pl, h1, owns_above h h2 hb, fun p hp => owns_above h (h3 p hp) hb, h4, h5⟩
theorem Ver.Own.rd {R F : TypeId} {w : World} {base hi : Nat} {l : List Ver} {v : Value} (ho : Ver.Own R F w base hi l v) : Ver.Rd w v l := by
  obtain ⟨pl, h1, h2, h3, _⟩ := ho
  exact ⟨pl, h1, Reads.of_owns h2, fun p hp => Reads.of_owns (h3 p hp)⟩
theorem Ver.Own.of {R F : TypeId} {w : World} {base : Nat} {pl : List (Ver × Value)} {v : Value} (h2 : w.ownsRow base R 2 v pl.length (pl.flatMap Ver.enc)) (h3 : ∀ p ∈ pl, w.ownsRow base F 4 p.2 p.1.rs.length (p.1.rs.flatMap Rul.enc)) : Ver.Own R F w base w.heap.size (pl.map Prod.fst) v :=
  ⟨pl, rfl, h2, h3, fun j hj => (h2.lt j hj).2, fun p hp j hj => ((h3 p hp).lt j hj).2⟩
def Ver.wt (l : List Ver) : Nat := (l.map fun r => r.rs.length).sum
theorem Ver.wt_step (l : List Ver) (k : Nat) (x : Ver) (h : l[k]? = some x) : Ver.wt (l.take (k + 1)) = Ver.wt (l.take k) + x.rs.length := by
  unfold Ver.wt; rw [List.take_add_one, h]; simp
theorem Ver.wt_le (l : List Ver) (k : Nat) : Ver.wt (l.take k) ≤ Ver.wt l := by
  unfold Ver.wt; conv => rhs; rw [← List.take_append_drop k l]
  rw [List.map_append, List.sum_append]; omega
theorem Ver.le_wt {l : List Ver} {r : Ver} (h : r ∈ l) : r.rs.length ≤ Ver.wt l := by
  unfold Ver.wt; induction l with
  | nil => cases h
  | cons a l ih =>
    simp only [List.map_cons, List.sum_cons]
    rcases List.mem_cons.1 h with rfl | h
    · omega
    · have := ih h; omega
theorem Ver.one {w : World} {p : Ver × Value} (h : Ver.At w p) : ∀ u ∈ Ver.enc p, u.oneCell' = true := by
  obtain ⟨a, c, hs⟩ := Reads.shape h
  intro u hu; simp only [Ver.enc, List.mem_cons, List.not_mem_nil, or_false] at hu
  rcases hu with rfl | rfl
  all_goals first | rfl | (rw [hs]; rfl)
theorem owns_setCell {w : World} {base : Nat} {e : TypeId} {size : Nat} {v : Value} {n : Nat} {xs : List Value} (ho : w.ownsRow base e size v n xs) {p : Addr} (hp : p.block < base) (u : Value) : (w.setCell p u).ownsRow base e size v n xs :=
  owns_turned ((Turned.refl p.block (p.block + 1) w).setCell (Nat.le_refl _) (Nat.lt_succ_self _) u) ho fun k hk => .inr (by have := (ho.lt k hk).1; omega)
end Go.Rd
