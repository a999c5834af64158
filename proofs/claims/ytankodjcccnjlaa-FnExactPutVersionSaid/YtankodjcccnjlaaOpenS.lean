/- How the arguments of the laws of this seat are opened; no condition. -/
import Derived.Test.YtankodjcccnjlaaRows
import Derived.Test.YtankodjcccnjlaaOpen
namespace Go.Proofs.Ytankodjcccnjlaa
open Go.RowKit Go.Sort Go.Rd Go.ChangeShapes Go.WideShapes
theorem Try.cellsInt : Try.prog.cellsOf 3 = 1 := by kernel_rfl



theorem Try.cellsLRule : Try.prog.cellsOf 59 = 4 := by kernel_rfl
theorem elemRule {H : Type} {enc : TypeId × Value → H} {W : World} {n : Nat} {cs : List Value} {y : DataW H × List MemPlace}
    (h : DataW.trod enc Try.prog W 0 (fun _ => true) true n 59 cs = some y) : ∃ x : Rul, cs = Rul.enc x ∧ True := by
  have hl := struct_length Try.underlying59 h
  rw [Try.cellsLRule] at hl
  match cs, hl with
  | [c0, c1, c2, c3], _ =>
    obtain ⟨q0, rfl⟩ := FieldInt.cell (i := 0) Try.underlying59 ⟨_, rfl, rfl, Try.cellsInt, Try.underlying3⟩ h rfl
    obtain ⟨q1, rfl⟩ := FieldInt.cell (i := 1) Try.underlying59 ⟨_, rfl, rfl, Try.cellsInt, Try.underlying3⟩ h rfl
    obtain ⟨q2, rfl⟩ := FieldInt.cell (i := 2) Try.underlying59 ⟨_, rfl, rfl, Try.cellsInt, Try.underlying3⟩ h rfl
    obtain ⟨q3, rfl⟩ := FieldInt.cell (i := 3) Try.underlying59 ⟨_, rfl, rfl, Try.cellsInt, Try.underlying3⟩ h rfl
    exact ⟨⟨q0, q1, q2, q3⟩, rfl, trivial⟩
theorem openRule {H : Type} {enc : TypeId × Value → H} {W : World} {v : Value} {d : DataW H} {p : List MemPlace}
    (hv : ∃ cs, v = .agg cs ∧ cs.size = Try.prog.cellsOf 59) (h : DataW.Trod enc Try.prog W 0 (fun _ => true) true 59 v d p) : ∃ r : Rul, v = .agg #[.int .i64 r.se, .int .i64 r.ev, .int .i64 r.dy, .int .i64 r.ac] := by
  obtain ⟨cs, rfl, _⟩ := hv
  obtain ⟨fuel, hf⟩ := h
  obtain ⟨r, h1, _⟩ := elemRule hf
  refine ⟨r, ?_⟩
  have h4 : cs.toList = Rul.enc r := h1
  rw [show cs = (Rul.enc r).toArray by rw [← h4]]
  rfl
theorem openRuleS {H : Type} {enc : TypeId × Value → H} {W : World} {v : Value} {d : DataW H} {p : List MemPlace}
    (hv : ∃ a len cap, v = .slice a len cap) (h : DataW.Trod enc Try.prog W 0 (fun _ => true) true 23 v d p) : ∃ l : List Rul, Reads W 4 v l.length (l.flatMap Rul.enc) ∧ l.length ≤ maxLen := by
  obtain ⟨a, len, cap, rfl⟩ := hv
  obtain ⟨fuel, hf⟩ := h
  obtain ⟨l, h1, h2, _⟩ := open_rows (w := W) (enc := enc) Rul.enc (fun _ => True) Rul.enc_len (by omega) Try.underlying23 Try.cellsLRule (fun _ _ _ hh => elemRule hh) hf
  exact ⟨l, h1, h2⟩







end Go.Proofs.Ytankodjcccnjlaa
