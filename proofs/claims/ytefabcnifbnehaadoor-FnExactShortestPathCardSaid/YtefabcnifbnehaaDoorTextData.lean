/- Texts as lists of bytes, marks that are texts; without a program; no condition. -/
import Derived.Test.YtefabcnifbnehaaDoorData
namespace Go.Rd
open Go.Sort Go.RowKit
structure Clk where
  id : Int
  na : List UInt8
  ri : Int
  fr : Int
  un : Int
  st : Int
  deriving DecidableEq, Inhabited
def Clk.enc (x : Clk) : List Value := [.int .i64 x.id, .string ⟨x.na.toArray⟩, .int .i64 x.ri, .int .i64 x.fr, .int .i64 x.un, .int .i64 x.st]
theorem Clk.enc_len (x : Clk) : (Clk.enc x).length = 6 := rfl
theorem Clk.one (x : Clk) : ∀ u ∈ Clk.enc x, u.oneCell' = true := by
  intro u hu; simp only [Clk.enc, List.mem_cons, List.not_mem_nil, or_false] at hu
  rcases hu with rfl | rfl | rfl | rfl | rfl | rfl <;> rfl
/-- The decimal digits of a number ahead of others. -/
def digA (n : Nat) (acc : List UInt8) : List UInt8 := if h : n = 0 then acc else digA (n / 10) (UInt8.ofNat (48 + n % 10) :: acc)
  termination_by n
  decreasing_by omega
theorem digA_zero (acc : List UInt8) : digA 0 acc = acc := by rw [digA]; rfl
theorem digA_pos {n : Nat} (h : n ≠ 0) (acc : List UInt8) : digA n acc = digA (n / 10) (UInt8.ofNat (48 + n % 10) :: acc) := by
  rw [digA]; simp [h]
def markB (k : Int) : List UInt8 := if k ≤ 0 then [109, 48] else 109 :: digA k.toNat []
/-- The first m marks from k on, as cells of clerks. -/
def clkCell (k : Int) (i : Nat) : Value := if i % 6 = 1 then .string ⟨(markB (k + (i : Nat))).toArray⟩ else .int .i64 (k + (i : Nat))
def clkCells (k : Int) (m : Nat) : List Value := (List.range m).map (clkCell k)
theorem clkCells_length (k : Int) (m : Nat) : (clkCells k m).length = m := by simp [clkCells]
theorem clkCells_succ (k : Int) (m : Nat) : clkCells k (m + 1) = clkCells k m ++ [clkCell k m] := by simp [clkCells, List.range_succ]
theorem clkCells_at {k : Int} {m i : Nat} (h : i < m) : (clkCells k m)[i]? = some (clkCell k i) := by simp [clkCells, h]
theorem clkCell_0 (k0 : Int) (k : Nat) : clkCell k0 (k * 6) = .int .i64 (k0 + (k : Int) * 6) := by
  unfold clkCell; rw [if_neg (by omega), show k0 + ((k * 6 : Nat) : Int) = k0 + (k : Int) * 6 by omega]
theorem clkCell_1 (k0 : Int) (k : Nat) : clkCell k0 (k * 6 + 1) = .string ⟨(markB (k0 + (k : Int) * 6 + 1)).toArray⟩ := by
  unfold clkCell; rw [if_pos (by omega)]
  rw [show k0 + ((k * 6 + 1 : Nat) : Int) = k0 + (k : Int) * 6 + 1 by omega]
theorem clkCell_2 (k0 : Int) (k : Nat) : clkCell k0 (k * 6 + 2) = .int .i64 (k0 + (k : Int) * 6 + 1 + 1) := by
  unfold clkCell; rw [if_neg (by omega)]; congr 1; omega
theorem clkCell_3 (k0 : Int) (k : Nat) : clkCell k0 (k * 6 + 3) = .int .i64 (k0 + (k : Int) * 6 + 1 + 1 + 1) := by
  unfold clkCell; rw [if_neg (by omega)]; congr 1; omega
theorem clkCell_4 (k0 : Int) (k : Nat) : clkCell k0 (k * 6 + 4) = .int .i64 (k0 + (k : Int) * 6 + 1 + 1 + 1 + 1) := by
  unfold clkCell; rw [if_neg (by omega)]; congr 1; omega
theorem clkCell_5 (k0 : Int) (k : Nat) : clkCell k0 (k * 6 + 5) = .int .i64 (k0 + (k : Int) * 6 + 1 + 1 + 1 + 1 + 1) := by
  unfold clkCell; rw [if_neg (by omega)]; congr 1; omega
theorem clkCells_step (k0 : Int) (k : Nat) : clkCells k0 ((k + 1) * 6) = clkCells k0 (k * 6) ++ [.int .i64 (k0 + (k : Int) * 6), .string ⟨(markB (k0 + (k : Int) * 6 + 1)).toArray⟩, .int .i64 (k0 + (k : Int) * 6 + 1 + 1), .int .i64 (k0 + (k : Int) * 6 + 1 + 1 + 1), .int .i64 (k0 + (k : Int) * 6 + 1 + 1 + 1 + 1), .int .i64 (k0 + (k : Int) * 6 + 1 + 1 + 1 + 1 + 1)] := by
  rw [show (k + 1) * 6 = k * 6 + 1 + 1 + 1 + 1 + 1 + 1 by omega, clkCells_succ, clkCells_succ, clkCells_succ, clkCells_succ, clkCells_succ, clkCells_succ]
  rw [clkCell_0, clkCell_1, show k * 6 + 1 + 1 = k * 6 + 2 by omega, clkCell_2, show k * 6 + 2 + 1 = k * 6 + 3 by omega, clkCell_3, show k * 6 + 3 + 1 = k * 6 + 4 by omega, clkCell_4, show k * 6 + 4 + 1 = k * 6 + 5 by omega, clkCell_5]
  simp
theorem clk_at {w : World} {b off m : Nat} {k0 : Int} (h : ∀ i, i < m → w.cell? ⟨b, off + i, none⟩ = (clkCells k0 m)[i]?) {i : Nat} (hi : i < m) : w.cell? ⟨b, off + i, none⟩ = some (clkCell k0 i) := by
  rw [h i hi, clkCells_at hi]
/-- The call marks the row of v. -/
def RetMarkedC (w : World) (base hi : Nat) (E : TypeId) (v : Value) (n : Nat) (k : Int) (e : Ending) (w' : World) : Prop :=
  e = .returned (.int .i64 (k + (n * 6 : Nat))) ∧ w'.ownsRow base E 6 v n (clkCells k (n * 6)) ∧ Turned base hi w w'
def Clk.wt (l : List Clk) : Nat := (l.map fun r => r.na.length).sum
theorem Clk.wt_step (l : List Clk) (k : Nat) (x : Clk) (h : l[k]? = some x) : Clk.wt (l.take (k + 1)) = Clk.wt (l.take k) + x.na.length := by
  unfold Clk.wt; rw [List.take_add_one, h]; simp
theorem Clk.wt_le (l : List Clk) (k : Nat) : Clk.wt (l.take k) ≤ Clk.wt l := by
  unfold Clk.wt; conv => rhs; rw [← List.take_append_drop k l]
  rw [List.map_append, List.sum_append]; omega
end Go.Rd
