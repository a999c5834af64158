/- How the arguments of the laws of this seat are opened; no condition. -/
import Derived.Test.YtefabcnifbnehaaDoorRows
import Derived.Test.YtefabcnifbnehaaDoorOpen
namespace Go.Proofs.YtefabcnifbnehaaDoor
open Go.RowKit Go.Sort Go.Rd Go.ChangeShapes Go.WideShapes
theorem Tryd.cellsInt : Tryd.prog.cellsOf 3 = 1 := by kernel_rfl







theorem Tryd.cellsLCopy : Tryd.prog.cellsOf 75 = 4 := by kernel_rfl
theorem elemCopy {H : Type} {enc : TypeId × Value → H} {W : World} {n : Nat} {cs : List Value} {y : DataW H × List MemPlace}
    (h : DataW.trod enc Tryd.prog W 0 (fun _ => true) true n 75 cs = some y) : ∃ x : Cpy, cs = Cpy.enc x ∧ True := by
  have hl := struct_length Tryd.underlying75 h
  rw [Tryd.cellsLCopy] at hl
  match cs, hl with
  | [c0, c1, c2, c3], _ =>
    obtain ⟨q0, rfl⟩ := FieldInt.cell (i := 0) Tryd.underlying75 ⟨_, rfl, rfl, Tryd.cellsInt, Tryd.underlying3⟩ h rfl
    obtain ⟨q1, rfl⟩ := FieldInt.cell (i := 1) Tryd.underlying75 ⟨_, rfl, rfl, Tryd.cellsInt, Tryd.underlying3⟩ h rfl
    obtain ⟨q2, rfl⟩ := FieldInt.cell (i := 2) Tryd.underlying75 ⟨_, rfl, rfl, Tryd.cellsInt, Tryd.underlying3⟩ h rfl
    obtain ⟨q3, rfl⟩ := FieldInt.cell (i := 3) Tryd.underlying75 ⟨_, rfl, rfl, Tryd.cellsInt, Tryd.underlying3⟩ h rfl
    exact ⟨⟨q0, q1, q2, q3⟩, rfl, trivial⟩
theorem openCopy {H : Type} {enc : TypeId × Value → H} {W : World} {v : Value} {d : DataW H} {p : List MemPlace}
    (hv : ∃ cs, v = .agg cs ∧ cs.size = Tryd.prog.cellsOf 75) (h : DataW.Trod enc Tryd.prog W 0 (fun _ => true) true 75 v d p) : ∃ r : Cpy, v = .agg #[.int .i64 r.re, .int .i64 r.fo, .int .i64 r.si, .int .i64 r.sn] := by
  obtain ⟨cs, rfl, _⟩ := hv
  obtain ⟨fuel, hf⟩ := h
  obtain ⟨r, h1, _⟩ := elemCopy hf
  refine ⟨r, ?_⟩
  have h4 : cs.toList = Cpy.enc r := h1
  rw [show cs = (Cpy.enc r).toArray by rw [← h4]]
  rfl
theorem openCopyS {H : Type} {enc : TypeId × Value → H} {W : World} {v : Value} {d : DataW H} {p : List MemPlace}
    (hv : ∃ a len cap, v = .slice a len cap) (h : DataW.Trod enc Tryd.prog W 0 (fun _ => true) true 42 v d p) : ∃ l : List Cpy, Reads W 4 v l.length (l.flatMap Cpy.enc) ∧ l.length ≤ maxLen := by
  obtain ⟨a, len, cap, rfl⟩ := hv
  obtain ⟨fuel, hf⟩ := h
  obtain ⟨l, h1, h2, _⟩ := open_rows (w := W) (enc := enc) Cpy.enc (fun _ => True) Cpy.enc_len (by omega) Tryd.underlying42 Tryd.cellsLCopy (fun _ _ _ hh => elemCopy hh) hf
  exact ⟨l, h1, h2⟩


theorem elemInt {H : Type} {enc : TypeId × Value → H} {W : World} {n : Nat} {cs : List Value} {y : DataW H × List MemPlace}
    (h : DataW.trod enc Tryd.prog W 0 (fun _ => true) true n 3 cs = some y) : ∃ x : Int, cs = encI x ∧ True := by
  obtain ⟨q, hq, _⟩ := DataW.trod_int Tryd.underlying3 h
  exact ⟨q, hq, trivial⟩
theorem openIntS {H : Type} {enc : TypeId × Value → H} {W : World} {v : Value} {d : DataW H} {p : List MemPlace}
    (hv : ∃ a len cap, v = .slice a len cap) (h : DataW.Trod enc Tryd.prog W 0 (fun _ => true) true 30 v d p) : ∃ l : List Int, Reads W 1 v l.length (l.flatMap encI) ∧ l.length ≤ maxLen := by
  obtain ⟨a, len, cap, rfl⟩ := hv
  obtain ⟨fuel, hf⟩ := h
  obtain ⟨l, h1, h2, _⟩ := open_rows (w := W) (enc := enc) encI (fun _ => True) encI_len (by omega) Tryd.underlying30 Tryd.cellsInt (fun _ _ _ hh => elemInt hh) hf
  exact ⟨l, h1, h2⟩

end Go.Proofs.YtefabcnifbnehaaDoor
