/- How arguments that are clerks, or slices of clerks, are opened; no condition. -/
import Derived.Test.YtlablieekijgoaaDoorOpenS
import Derived.Test.YtlablieekijgoaaDoorTextData
namespace Go.Proofs.YtlablieekijgoaaDoor
open Go.RowKit Go.Sort Go.Rd Go.ChangeShapes Go.WideShapes
theorem Tryd.cellsLClerk : Tryd.prog.cellsOf 23 = 6 := by kernel_rfl
theorem Tryd.cellsStr : Tryd.prog.cellsOf 9 = 1 := by kernel_rfl
theorem elemClerk {H : Type} {enc : TypeId × Value → H} {W : World} {n : Nat} {cs : List Value} {y : DataW H × List MemPlace}
    (h : DataW.trod enc Tryd.prog W 0 (fun _ => true) true n 23 cs = some y) : ∃ x : Clk, cs = Clk.enc x ∧ x.na.length ≤ maxLen := by
  have hl := struct_length Tryd.underlying23 h
  rw [Tryd.cellsLClerk] at hl
  match cs, hl with
  | [c0, c1, c2, c3, c4, c5], _ =>
    obtain ⟨q0, rfl⟩ := FieldInt.cell (i := 0) Tryd.underlying23 ⟨_, rfl, rfl, Tryd.cellsInt, Tryd.underlying3⟩ h rfl
    obtain ⟨q2, rfl⟩ := FieldInt.cell (i := 2) Tryd.underlying23 ⟨_, rfl, rfl, Tryd.cellsInt, Tryd.underlying3⟩ h rfl
    obtain ⟨q3, rfl⟩ := FieldInt.cell (i := 3) Tryd.underlying23 ⟨_, rfl, rfl, Tryd.cellsInt, Tryd.underlying3⟩ h rfl
    obtain ⟨q4, rfl⟩ := FieldInt.cell (i := 4) Tryd.underlying23 ⟨_, rfl, rfl, Tryd.cellsInt, Tryd.underlying3⟩ h rfl
    obtain ⟨q5, rfl⟩ := FieldInt.cell (i := 5) Tryd.underlying23 ⟨_, rfl, rfl, Tryd.cellsInt, Tryd.underlying3⟩ h rfl
    obtain ⟨m, z, hz⟩ := field_one Tryd.underlying23 h (i := 1) rfl rfl Tryd.cellsStr
    have hz2 : DataW.trod enc Tryd.prog W 0 (fun _ => true) true m 9 [c1] = some z := hz
    obtain ⟨s, hs, _, hm⟩ := DataW.trod_string Tryd.underlying9 hz2
    simp only [List.cons.injEq, and_true] at hs
    subst hs
    obtain ⟨da⟩ := s
    exact ⟨⟨q0, da.toList, q2, q3, q4, q5⟩, rfl, by show da.toList.length ≤ maxLen; rw [Array.length_toList]; exact hm⟩
theorem openClerk {H : Type} {enc : TypeId × Value → H} {W : World} {v : Value} {d : DataW H} {p : List MemPlace}
    (hv : ∃ cs, v = .agg cs ∧ cs.size = Tryd.prog.cellsOf 23) (h : DataW.Trod enc Tryd.prog W 0 (fun _ => true) true 23 v d p) : ∃ r : Clk, v = .agg #[.int .i64 r.id, .string ⟨r.na.toArray⟩, .int .i64 r.ri, .int .i64 r.fr, .int .i64 r.un, .int .i64 r.st] ∧ r.na.length ≤ maxLen := by
  obtain ⟨cs, rfl, _⟩ := hv
  obtain ⟨fuel, hf⟩ := h
  obtain ⟨r, h1, h2⟩ := elemClerk hf
  refine ⟨r, ?_, h2⟩
  have h4 : cs.toList = Clk.enc r := h1
  rw [show cs = (Clk.enc r).toArray by rw [← h4]]
  rfl
theorem openClerkS {H : Type} {enc : TypeId × Value → H} {W : World} {v : Value} {d : DataW H} {p : List MemPlace}
    (hv : ∃ a len cap, v = .slice a len cap) (h : DataW.Trod enc Tryd.prog W 0 (fun _ => true) true 29 v d p) : ∃ l : List Clk, Reads W 6 v l.length (l.flatMap Clk.enc) ∧ l.length ≤ maxLen ∧ ∀ r ∈ l, r.na.length ≤ maxLen := by
  obtain ⟨a, len, cap, rfl⟩ := hv
  obtain ⟨fuel, hf⟩ := h
  exact open_rows (w := W) (enc := enc) Clk.enc (fun x => x.na.length ≤ maxLen) Clk.enc_len (by omega) Tryd.underlying29 Tryd.cellsLClerk (fun _ _ _ hh => elemClerk hh) hf
end Go.Proofs.YtlablieekijgoaaDoor
