/- How the arguments of the laws of this seat are opened; no condition. -/
import Derived.Test.YteaaiiodnejmmaaRows
import Derived.Test.YteaaiiodnejmmaaOpen
namespace Go.Proofs.Yteaaiiodnejmmaa
open Go.RowKit Go.Sort Go.Rd Go.ChangeShapes Go.WideShapes
theorem Try.cellsInt : Try.prog.cellsOf 3 = 1 := by kernel_rfl

theorem Try.cellsLTrigger : Try.prog.cellsOf 60 = 3 := by kernel_rfl
theorem elemTrigger {H : Type} {enc : TypeId × Value → H} {W : World} {n : Nat} {cs : List Value} {y : DataW H × List MemPlace}
    (h : DataW.trod enc Try.prog W 0 (fun _ => true) true n 60 cs = some y) : ∃ x : Trig, cs = Trig.enc x ∧ True := by
  have hl := struct_length Try.underlying60 h
  rw [Try.cellsLTrigger] at hl
  match cs, hl with
  | [c0, c1, c2], _ =>
    obtain ⟨q0, rfl⟩ := FieldInt.cell (i := 0) Try.underlying60 ⟨_, rfl, rfl, Try.cellsInt, Try.underlying3⟩ h rfl
    obtain ⟨q1, rfl⟩ := FieldInt.cell (i := 1) Try.underlying60 ⟨_, rfl, rfl, Try.cellsInt, Try.underlying3⟩ h rfl
    obtain ⟨q2, rfl⟩ := FieldInt.cell (i := 2) Try.underlying60 ⟨_, rfl, rfl, Try.cellsInt, Try.underlying3⟩ h rfl
    exact ⟨⟨q0, q1, q2⟩, rfl, trivial⟩
theorem openTriggerS {H : Type} {enc : TypeId × Value → H} {W : World} {v : Value} {d : DataW H} {p : List MemPlace}
    (hv : ∃ a len cap, v = .slice a len cap) (h : DataW.Trod enc Try.prog W 0 (fun _ => true) true 25 v d p) : ∃ l : List Trig, Reads W 3 v l.length (l.flatMap Trig.enc) ∧ l.length ≤ maxLen := by
  obtain ⟨a, len, cap, rfl⟩ := hv
  obtain ⟨fuel, hf⟩ := h
  obtain ⟨l, h1, h2, _⟩ := open_rows (w := W) (enc := enc) Trig.enc (fun _ => True) Trig.enc_len (by omega) Try.underlying25 Try.cellsLTrigger (fun _ _ _ hh => elemTrigger hh) hf
  exact ⟨l, h1, h2⟩


theorem Try.cellsLRule : Try.prog.cellsOf 72 = 4 := by kernel_rfl
theorem elemRule {H : Type} {enc : TypeId × Value → H} {W : World} {n : Nat} {cs : List Value} {y : DataW H × List MemPlace}
    (h : DataW.trod enc Try.prog W 0 (fun _ => true) true n 72 cs = some y) : ∃ x : Rul, cs = Rul.enc x ∧ True := by
  have hl := struct_length Try.underlying72 h
  rw [Try.cellsLRule] at hl
  match cs, hl with
  | [c0, c1, c2, c3], _ =>
    obtain ⟨q0, rfl⟩ := FieldInt.cell (i := 0) Try.underlying72 ⟨_, rfl, rfl, Try.cellsInt, Try.underlying3⟩ h rfl
    obtain ⟨q1, rfl⟩ := FieldInt.cell (i := 1) Try.underlying72 ⟨_, rfl, rfl, Try.cellsInt, Try.underlying3⟩ h rfl
    obtain ⟨q2, rfl⟩ := FieldInt.cell (i := 2) Try.underlying72 ⟨_, rfl, rfl, Try.cellsInt, Try.underlying3⟩ h rfl
    obtain ⟨q3, rfl⟩ := FieldInt.cell (i := 3) Try.underlying72 ⟨_, rfl, rfl, Try.cellsInt, Try.underlying3⟩ h rfl
    exact ⟨⟨q0, q1, q2, q3⟩, rfl, trivial⟩
theorem openRuleS {H : Type} {enc : TypeId × Value → H} {W : World} {v : Value} {d : DataW H} {p : List MemPlace}
    (hv : ∃ a len cap, v = .slice a len cap) (h : DataW.Trod enc Try.prog W 0 (fun _ => true) true 44 v d p) : ∃ l : List Rul, Reads W 4 v l.length (l.flatMap Rul.enc) ∧ l.length ≤ maxLen := by
  obtain ⟨a, len, cap, rfl⟩ := hv
  obtain ⟨fuel, hf⟩ := h
  obtain ⟨l, h1, h2, _⟩ := open_rows (w := W) (enc := enc) Rul.enc (fun _ => True) Rul.enc_len (by omega) Try.underlying44 Try.cellsLRule (fun _ _ _ hh => elemRule hh) hf
  exact ⟨l, h1, h2⟩







end Go.Proofs.Yteaaiiodnejmmaa
