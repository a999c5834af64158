/- How arguments that hold slices within structs are opened; no condition. -/
import Derived.Test.YtnmkkamphlleiaaOpenS
import Derived.Test.YtnmkkamphlleiaaNestData
namespace Go.Proofs.Ytnmkkamphlleiaa
open Go.RowKit Go.Sort Go.Rd Go.ChangeShapes Go.WideShapes

theorem Try.cellsLRecord : Try.prog.cellsOf 35 = 4 := by kernel_rfl
theorem Try.cellsSlRecord : Try.prog.cellsOf 33 = 1 := by kernel_rfl
theorem elemRecord {H : Type} {enc : TypeId × Value → H} {W : World} {n : Nat} {cs : List Value} {y : DataW H × List MemPlace}
    (h : DataW.trod enc Try.prog W 0 (fun _ => true) true n 35 cs = some y) : ∃ x : Rec × Value, cs = Rec.enc x ∧ (Rec.At W x ∧ x.1.evs.length ≤ maxLen) := by
  have hl := struct_length Try.underlying35 h
  rw [Try.cellsLRecord] at hl
  match cs, hl with
  | [c0, c1, c2, c3], _ =>
    obtain ⟨q0, rfl⟩ := FieldInt.cell (i := 0) Try.underlying35 ⟨_, rfl, rfl, Try.cellsInt, Try.underlying3⟩ h rfl
    obtain ⟨q1, rfl⟩ := FieldInt.cell (i := 1) Try.underlying35 ⟨_, rfl, rfl, Try.cellsInt, Try.underlying3⟩ h rfl
    obtain ⟨q2, rfl⟩ := FieldInt.cell (i := 2) Try.underlying35 ⟨_, rfl, rfl, Try.cellsInt, Try.underlying3⟩ h rfl
    obtain ⟨m, y, hy⟩ := field_one Try.underlying35 h (i := 3) rfl rfl Try.cellsSlRecord
    have hy2 : DataW.trod enc Try.prog W 0 (fun _ => true) true m 33 [c3] = some y := hy
    obtain ⟨l, h1, h2, _⟩ := open_rows (w := W) (enc := enc) Evt.enc (fun _ => True) Evt.enc_len (by omega) Try.underlying33 Try.cellsLEvent (fun _ _ _ hh => elemEvent hh) hy2
    exact ⟨(⟨q0, q1, q2, l⟩, c3), rfl, h1, h2⟩
theorem openRecord {H : Type} {enc : TypeId × Value → H} {W : World} {v : Value} {d : DataW H} {p : List MemPlace}
    (hv : ∃ cs, v = .agg cs ∧ cs.size = Try.prog.cellsOf 35) (h : DataW.Trod enc Try.prog W 0 (fun _ => true) true 35 v d p) : ∃ (r : Rec) (sv : Value), v = .agg #[.int .i64 r.id, .int .i64 r.se, .int .i64 r.ma, sv] ∧ Rec.At W (r, sv) ∧ r.evs.length ≤ maxLen := by
  obtain ⟨cs, rfl, _⟩ := hv
  obtain ⟨fuel, hf⟩ := h
  obtain ⟨⟨r, sv⟩, h1, h2, h3⟩ := elemRecord hf
  refine ⟨r, sv, ?_, h2, h3⟩
  have h4 : cs.toList = Rec.enc (r, sv) := h1
  rw [show cs = (Rec.enc (r, sv)).toArray by rw [← h4]]
  rfl
theorem openRecordS {H : Type} {enc : TypeId × Value → H} {W : World} {v : Value} {d : DataW H} {p : List MemPlace}
    (hv : ∃ a len cap, v = .slice a len cap) (h : DataW.Trod enc Try.prog W 0 (fun _ => true) true 55 v d p) : ∃ l : List Rec, Rec.Rd W v l ∧ l.length ≤ maxLen ∧ ∀ p ∈ l, p.evs.length ≤ maxLen := by
  obtain ⟨a, len, cap, rfl⟩ := hv
  obtain ⟨fuel, hf⟩ := h
  obtain ⟨l, h1, h2, h3⟩ := open_rows (w := W) (enc := enc) Rec.enc (fun x => Rec.At W x ∧ x.1.evs.length ≤ maxLen) Rec.enc_len (by omega) Try.underlying55 Try.cellsLRecord (fun _ _ _ hh => elemRecord hh) hf
  exact ⟨l.map Prod.fst, ⟨l, rfl, h1, fun p hp => (h3 p hp).1⟩, by simpa using h2, fun p hp => by obtain ⟨q, hq, rfl⟩ := List.mem_map.1 hp; exact (h3 q hq).2⟩

theorem Try.cellsLHold : Try.prog.cellsOf 75 = 6 := by kernel_rfl
theorem Try.cellsSlHold : Try.prog.cellsOf 49 = 1 := by kernel_rfl
theorem elemHold {H : Type} {enc : TypeId × Value → H} {W : World} {n : Nat} {cs : List Value} {y : DataW H × List MemPlace}
    (h : DataW.trod enc Try.prog W 0 (fun _ => true) true n 75 cs = some y) : ∃ x : Hld × Value, cs = Hld.enc x ∧ (Hld.At W x ∧ x.1.ss.length ≤ maxLen) := by
  have hl := struct_length Try.underlying75 h
  rw [Try.cellsLHold] at hl
  match cs, hl with
  | [c0, c1, c2, c3, c4, c5], _ =>
    obtain ⟨q0, rfl⟩ := FieldInt.cell (i := 0) Try.underlying75 ⟨_, rfl, rfl, Try.cellsInt, Try.underlying3⟩ h rfl
    obtain ⟨q1, rfl⟩ := FieldInt.cell (i := 1) Try.underlying75 ⟨_, rfl, rfl, Try.cellsInt, Try.underlying3⟩ h rfl
    obtain ⟨q2, rfl⟩ := FieldInt.cell (i := 2) Try.underlying75 ⟨_, rfl, rfl, Try.cellsInt, Try.underlying3⟩ h rfl
    obtain ⟨q4, rfl⟩ := FieldInt.cell (i := 4) Try.underlying75 ⟨_, rfl, rfl, Try.cellsInt, Try.underlying3⟩ h rfl
    obtain ⟨q5, rfl⟩ := FieldInt.cell (i := 5) Try.underlying75 ⟨_, rfl, rfl, Try.cellsInt, Try.underlying3⟩ h rfl
    obtain ⟨m, y, hy⟩ := field_one Try.underlying75 h (i := 3) rfl rfl Try.cellsSlHold
    have hy2 : DataW.trod enc Try.prog W 0 (fun _ => true) true m 49 [c3] = some y := hy
    obtain ⟨l, h1, h2, _⟩ := open_rows (w := W) (enc := enc) encI (fun _ => True) encI_len (by omega) Try.underlying49 Try.cellsInt (fun _ _ _ hh => elemInt hh) hy2
    exact ⟨(⟨q0, q1, q2, l, q4, q5⟩, c3), rfl, h1, h2⟩
theorem openHold {H : Type} {enc : TypeId × Value → H} {W : World} {v : Value} {d : DataW H} {p : List MemPlace}
    (hv : ∃ cs, v = .agg cs ∧ cs.size = Try.prog.cellsOf 75) (h : DataW.Trod enc Try.prog W 0 (fun _ => true) true 75 v d p) : ∃ (r : Hld) (sv : Value), v = .agg #[.int .i64 r.id, .int .i64 r.fr, .int .i64 r.un, sv, .int .i64 r.fi, .int .i64 r.la] ∧ Hld.At W (r, sv) ∧ r.ss.length ≤ maxLen := by
  obtain ⟨cs, rfl, _⟩ := hv
  obtain ⟨fuel, hf⟩ := h
  obtain ⟨⟨r, sv⟩, h1, h2, h3⟩ := elemHold hf
  refine ⟨r, sv, ?_, h2, h3⟩
  have h4 : cs.toList = Hld.enc (r, sv) := h1
  rw [show cs = (Hld.enc (r, sv)).toArray by rw [← h4]]
  rfl
theorem openHoldS {H : Type} {enc : TypeId × Value → H} {W : World} {v : Value} {d : DataW H} {p : List MemPlace}
    (hv : ∃ a len cap, v = .slice a len cap) (h : DataW.Trod enc Try.prog W 0 (fun _ => true) true 22 v d p) : ∃ l : List Hld, Hld.Rd W v l ∧ l.length ≤ maxLen ∧ ∀ p ∈ l, p.ss.length ≤ maxLen := by
  obtain ⟨a, len, cap, rfl⟩ := hv
  obtain ⟨fuel, hf⟩ := h
  obtain ⟨l, h1, h2, h3⟩ := open_rows (w := W) (enc := enc) Hld.enc (fun x => Hld.At W x ∧ x.1.ss.length ≤ maxLen) Hld.enc_len (by omega) Try.underlying22 Try.cellsLHold (fun _ _ _ hh => elemHold hh) hf
  exact ⟨l.map Prod.fst, ⟨l, rfl, h1, fun p hp => (h3 p hp).1⟩, by simpa using h2, fun p hp => by obtain ⟨q, hq, rfl⟩ := List.mem_map.1 hp; exact (h3 q hq).2⟩


end Go.Proofs.Ytnmkkamphlleiaa
