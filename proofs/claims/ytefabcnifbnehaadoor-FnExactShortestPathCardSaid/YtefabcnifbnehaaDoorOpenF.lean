/- How arguments that are slices of formats are opened; no condition. -/
import Derived.Test.YtefabcnifbnehaaDoorOpenS
import Derived.Test.YtefabcnifbnehaaDoorFmtData
namespace Go.Proofs.YtefabcnifbnehaaDoor
open Go.RowKit Go.Sort Go.Rd Go.ChangeShapes Go.WideShapes
theorem Tryd.cellsLFormat : Tryd.prog.cellsOf 59 = 4 := by kernel_rfl
theorem Tryd.cellsStr : Tryd.prog.cellsOf 9 = 1 := by kernel_rfl
theorem Tryd.cellsSlFormat : Tryd.prog.cellsOf 30 = 1 := by kernel_rfl
theorem elemFormat {H : Type} {enc : TypeId × Value → H} {W : World} {n : Nat} {cs : List Value} {y : DataW H × List MemPlace}
    (h : DataW.trod enc Tryd.prog W 0 (fun _ => true) true n 59 cs = some y) : ∃ x : Fmt × Value, cs = Fmt.enc x ∧ (Fmt.At W x ∧ (x.1.na.length ≤ maxLen ∧ x.1.rd.length ≤ maxLen)) := by
  have hl := struct_length Tryd.underlying59 h
  rw [Tryd.cellsLFormat] at hl
  match cs, hl with
  | [c0, c1, c2, c3], _ =>
    obtain ⟨q0, rfl⟩ := FieldInt.cell (i := 0) Tryd.underlying59 ⟨_, rfl, rfl, Tryd.cellsInt, Tryd.underlying3⟩ h rfl
    obtain ⟨q2, rfl⟩ := FieldInt.cell (i := 2) Tryd.underlying59 ⟨_, rfl, rfl, Tryd.cellsInt, Tryd.underlying3⟩ h rfl
    obtain ⟨m, z, hz⟩ := field_one Tryd.underlying59 h (i := 1) rfl rfl Tryd.cellsStr
    have hz2 : DataW.trod enc Tryd.prog W 0 (fun _ => true) true m 9 [c1] = some z := hz
    obtain ⟨s, hs, _, hm⟩ := DataW.trod_string Tryd.underlying9 hz2
    simp only [List.cons.injEq, and_true] at hs
    subst hs
    obtain ⟨da⟩ := s
    obtain ⟨m, y, hy⟩ := field_one Tryd.underlying59 h (i := 3) rfl rfl Tryd.cellsSlFormat
    have hy2 : DataW.trod enc Tryd.prog W 0 (fun _ => true) true m 30 [c3] = some y := hy
    obtain ⟨l, h1, h2, _⟩ := open_rows (w := W) (enc := enc) encI (fun _ => True) encI_len (by omega) Tryd.underlying30 Tryd.cellsInt (fun _ _ _ hh => elemInt hh) hy2
    exact ⟨(⟨q0, da.toList, q2, l⟩, c3), rfl, h1, (by show da.toList.length ≤ maxLen; rw [Array.length_toList]; exact hm), h2⟩
theorem openFormatS {H : Type} {enc : TypeId × Value → H} {W : World} {v : Value} {d : DataW H} {p : List MemPlace}
    (hv : ∃ a len cap, v = .slice a len cap) (h : DataW.Trod enc Tryd.prog W 0 (fun _ => true) true 22 v d p) : ∃ l : List Fmt, Fmt.Rd W v l ∧ l.length ≤ maxLen ∧ ∀ p ∈ l, p.na.length ≤ maxLen ∧ p.rd.length ≤ maxLen := by
  obtain ⟨a, len, cap, rfl⟩ := hv
  obtain ⟨fuel, hf⟩ := h
  obtain ⟨l, h1, h2, h3⟩ := open_rows (w := W) (enc := enc) Fmt.enc (fun x => Fmt.At W x ∧ (x.1.na.length ≤ maxLen ∧ x.1.rd.length ≤ maxLen)) Fmt.enc_len (by omega) Tryd.underlying22 Tryd.cellsLFormat (fun _ _ _ hh => elemFormat hh) hf
  exact ⟨l.map Prod.fst, ⟨l, rfl, h1, fun p hp => (h3 p hp).1⟩, by simpa using h2, fun p hp => by obtain ⟨q, hq, rfl⟩ := List.mem_map.1 hp; exact (h3 q hq).2⟩
end Go.Proofs.YtefabcnifbnehaaDoor
