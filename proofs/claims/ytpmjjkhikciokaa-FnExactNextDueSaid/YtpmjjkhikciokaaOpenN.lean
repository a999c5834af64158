/- How arguments that hold slices within structs are opened; no condition. -/
import Derived.Test.YtpmjjkhikciokaaOpenS
import Derived.Test.YtpmjjkhikciokaaNestData
namespace Go.Proofs.Ytpmjjkhikciokaa
open Go.RowKit Go.Sort Go.Rd Go.ChangeShapes Go.WideShapes

theorem Try.cellsLRecord : Try.prog.cellsOf 44 = 4 := by kernel_rfl
theorem Try.cellsSlRecord : Try.prog.cellsOf 42 = 1 := by kernel_rfl
theorem elemRecord {H : Type} {enc : TypeId × Value → H} {W : World} {n : Nat} {cs : List Value} {y : DataW H × List MemPlace}
    (h : DataW.trod enc Try.prog W 0 (fun _ => true) true n 44 cs = some y) : ∃ x : Rec × Value, cs = Rec.enc x ∧ (Rec.At W x ∧ x.1.evs.length ≤ maxLen) := by
  have hl := struct_length Try.underlying44 h
  rw [Try.cellsLRecord] at hl
  match cs, hl with
  | [c0, c1, c2, c3], _ =>
    obtain ⟨q0, rfl⟩ := FieldInt.cell (i := 0) Try.underlying44 ⟨_, rfl, rfl, Try.cellsInt, Try.underlying3⟩ h rfl
    obtain ⟨q1, rfl⟩ := FieldInt.cell (i := 1) Try.underlying44 ⟨_, rfl, rfl, Try.cellsInt, Try.underlying3⟩ h rfl
    obtain ⟨q2, rfl⟩ := FieldInt.cell (i := 2) Try.underlying44 ⟨_, rfl, rfl, Try.cellsInt, Try.underlying3⟩ h rfl
    obtain ⟨m, y, hy⟩ := field_one Try.underlying44 h (i := 3) rfl rfl Try.cellsSlRecord
    have hy2 : DataW.trod enc Try.prog W 0 (fun _ => true) true m 42 [c3] = some y := hy
    obtain ⟨l, h1, h2, _⟩ := open_rows (w := W) (enc := enc) Evt.enc (fun _ => True) Evt.enc_len (by omega) Try.underlying42 Try.cellsLEvent (fun _ _ _ hh => elemEvent hh) hy2
    exact ⟨(⟨q0, q1, q2, l⟩, c3), rfl, h1, h2⟩
theorem openRecord {H : Type} {enc : TypeId × Value → H} {W : World} {v : Value} {d : DataW H} {p : List MemPlace}
    (hv : ∃ cs, v = .agg cs ∧ cs.size = Try.prog.cellsOf 44) (h : DataW.Trod enc Try.prog W 0 (fun _ => true) true 44 v d p) : ∃ (r : Rec) (sv : Value), v = .agg #[.int .i64 r.id, .int .i64 r.se, .int .i64 r.ma, sv] ∧ Rec.At W (r, sv) ∧ r.evs.length ≤ maxLen := by
  obtain ⟨cs, rfl, _⟩ := hv
  obtain ⟨fuel, hf⟩ := h
  obtain ⟨⟨r, sv⟩, h1, h2, h3⟩ := elemRecord hf
  refine ⟨r, sv, ?_, h2, h3⟩
  have h4 : cs.toList = Rec.enc (r, sv) := h1
  rw [show cs = (Rec.enc (r, sv)).toArray by rw [← h4]]
  rfl
theorem openRecordS {H : Type} {enc : TypeId × Value → H} {W : World} {v : Value} {d : DataW H} {p : List MemPlace}
    (hv : ∃ a len cap, v = .slice a len cap) (h : DataW.Trod enc Try.prog W 0 (fun _ => true) true 54 v d p) : ∃ l : List Rec, Rec.Rd W v l ∧ l.length ≤ maxLen ∧ ∀ p ∈ l, p.evs.length ≤ maxLen := by
  obtain ⟨a, len, cap, rfl⟩ := hv
  obtain ⟨fuel, hf⟩ := h
  obtain ⟨l, h1, h2, h3⟩ := open_rows (w := W) (enc := enc) Rec.enc (fun x => Rec.At W x ∧ x.1.evs.length ≤ maxLen) Rec.enc_len (by omega) Try.underlying54 Try.cellsLRecord (fun _ _ _ hh => elemRecord hh) hf
  exact ⟨l.map Prod.fst, ⟨l, rfl, h1, fun p hp => (h3 p hp).1⟩, by simpa using h2, fun p hp => by obtain ⟨q, hq, rfl⟩ := List.mem_map.1 hp; exact (h3 q hq).2⟩



end Go.Proofs.Ytpmjjkhikciokaa
