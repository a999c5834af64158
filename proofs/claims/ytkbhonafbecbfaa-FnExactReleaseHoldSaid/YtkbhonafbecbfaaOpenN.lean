/- How arguments that hold slices within structs are opened; no condition. -/
import Derived.Test.YtkbhonafbecbfaaOpenS
import Derived.Test.YtkbhonafbecbfaaNestData
namespace Go.Proofs.Ytkbhonafbecbfaa
open Go.RowKit Go.Sort Go.Rd Go.ChangeShapes Go.WideShapes

theorem Try.cellsLRecord : Try.prog.cellsOf 34 = 4 := by kernel_rfl
theorem Try.cellsSlRecord : Try.prog.cellsOf 32 = 1 := by kernel_rfl
theorem elemRecord {H : Type} {enc : TypeId × Value → H} {W : World} {n : Nat} {cs : List Value} {y : DataW H × List MemPlace}
    (h : DataW.trod enc Try.prog W 0 (fun _ => true) true n 34 cs = some y) : ∃ x : Rec × Value, cs = Rec.enc x ∧ (Rec.At W x ∧ x.1.evs.length ≤ maxLen) := by
  have hl := struct_length Try.underlying34 h
  rw [Try.cellsLRecord] at hl
  match cs, hl with
  | [c0, c1, c2, c3], _ =>
    obtain ⟨q0, rfl⟩ := FieldInt.cell (i := 0) Try.underlying34 ⟨_, rfl, rfl, Try.cellsInt, Try.underlying3⟩ h rfl
    obtain ⟨q1, rfl⟩ := FieldInt.cell (i := 1) Try.underlying34 ⟨_, rfl, rfl, Try.cellsInt, Try.underlying3⟩ h rfl
    obtain ⟨q2, rfl⟩ := FieldInt.cell (i := 2) Try.underlying34 ⟨_, rfl, rfl, Try.cellsInt, Try.underlying3⟩ h rfl
    obtain ⟨m, y, hy⟩ := field_one Try.underlying34 h (i := 3) rfl rfl Try.cellsSlRecord
    have hy2 : DataW.trod enc Try.prog W 0 (fun _ => true) true m 32 [c3] = some y := hy
    obtain ⟨l, h1, h2, _⟩ := open_rows (w := W) (enc := enc) Evt.enc (fun _ => True) Evt.enc_len (by omega) Try.underlying32 Try.cellsLEvent (fun _ _ _ hh => elemEvent hh) hy2
    exact ⟨(⟨q0, q1, q2, l⟩, c3), rfl, h1, h2⟩
theorem openRecord {H : Type} {enc : TypeId × Value → H} {W : World} {v : Value} {d : DataW H} {p : List MemPlace}
    (hv : ∃ cs, v = .agg cs ∧ cs.size = Try.prog.cellsOf 34) (h : DataW.Trod enc Try.prog W 0 (fun _ => true) true 34 v d p) : ∃ (r : Rec) (sv : Value), v = .agg #[.int .i64 r.id, .int .i64 r.se, .int .i64 r.ma, sv] ∧ Rec.At W (r, sv) ∧ r.evs.length ≤ maxLen := by
  obtain ⟨cs, rfl, _⟩ := hv
  obtain ⟨fuel, hf⟩ := h
  obtain ⟨⟨r, sv⟩, h1, h2, h3⟩ := elemRecord hf
  refine ⟨r, sv, ?_, h2, h3⟩
  have h4 : cs.toList = Rec.enc (r, sv) := h1
  rw [show cs = (Rec.enc (r, sv)).toArray by rw [← h4]]
  rfl
theorem openRecordS {H : Type} {enc : TypeId × Value → H} {W : World} {v : Value} {d : DataW H} {p : List MemPlace}
    (hv : ∃ a len cap, v = .slice a len cap) (h : DataW.Trod enc Try.prog W 0 (fun _ => true) true 65 v d p) : ∃ l : List Rec, Rec.Rd W v l ∧ l.length ≤ maxLen ∧ ∀ p ∈ l, p.evs.length ≤ maxLen := by
  obtain ⟨a, len, cap, rfl⟩ := hv
  obtain ⟨fuel, hf⟩ := h
  obtain ⟨l, h1, h2, h3⟩ := open_rows (w := W) (enc := enc) Rec.enc (fun x => Rec.At W x ∧ x.1.evs.length ≤ maxLen) Rec.enc_len (by omega) Try.underlying65 Try.cellsLRecord (fun _ _ _ hh => elemRecord hh) hf
  exact ⟨l.map Prod.fst, ⟨l, rfl, h1, fun p hp => (h3 p hp).1⟩, by simpa using h2, fun p hp => by obtain ⟨q, hq, rfl⟩ := List.mem_map.1 hp; exact (h3 q hq).2⟩

theorem Try.cellsLHold : Try.prog.cellsOf 91 = 6 := by kernel_rfl
theorem Try.cellsSlHold : Try.prog.cellsOf 67 = 1 := by kernel_rfl
theorem elemHold {H : Type} {enc : TypeId × Value → H} {W : World} {n : Nat} {cs : List Value} {y : DataW H × List MemPlace}
    (h : DataW.trod enc Try.prog W 0 (fun _ => true) true n 91 cs = some y) : ∃ x : Hld × Value, cs = Hld.enc x ∧ (Hld.At W x ∧ x.1.ss.length ≤ maxLen) := by
  have hl := struct_length Try.underlying91 h
  rw [Try.cellsLHold] at hl
  match cs, hl with
  | [c0, c1, c2, c3, c4, c5], _ =>
    obtain ⟨q0, rfl⟩ := FieldInt.cell (i := 0) Try.underlying91 ⟨_, rfl, rfl, Try.cellsInt, Try.underlying3⟩ h rfl
    obtain ⟨q1, rfl⟩ := FieldInt.cell (i := 1) Try.underlying91 ⟨_, rfl, rfl, Try.cellsInt, Try.underlying3⟩ h rfl
    obtain ⟨q2, rfl⟩ := FieldInt.cell (i := 2) Try.underlying91 ⟨_, rfl, rfl, Try.cellsInt, Try.underlying3⟩ h rfl
    obtain ⟨q4, rfl⟩ := FieldInt.cell (i := 4) Try.underlying91 ⟨_, rfl, rfl, Try.cellsInt, Try.underlying3⟩ h rfl
    obtain ⟨q5, rfl⟩ := FieldInt.cell (i := 5) Try.underlying91 ⟨_, rfl, rfl, Try.cellsInt, Try.underlying3⟩ h rfl
    obtain ⟨m, y, hy⟩ := field_one Try.underlying91 h (i := 3) rfl rfl Try.cellsSlHold
    have hy2 : DataW.trod enc Try.prog W 0 (fun _ => true) true m 67 [c3] = some y := hy
    obtain ⟨l, h1, h2, _⟩ := open_rows (w := W) (enc := enc) encI (fun _ => True) encI_len (by omega) Try.underlying67 Try.cellsInt (fun _ _ _ hh => elemInt hh) hy2
    exact ⟨(⟨q0, q1, q2, l, q4, q5⟩, c3), rfl, h1, h2⟩
theorem openHold {H : Type} {enc : TypeId × Value → H} {W : World} {v : Value} {d : DataW H} {p : List MemPlace}
    (hv : ∃ cs, v = .agg cs ∧ cs.size = Try.prog.cellsOf 91) (h : DataW.Trod enc Try.prog W 0 (fun _ => true) true 91 v d p) : ∃ (r : Hld) (sv : Value), v = .agg #[.int .i64 r.id, .int .i64 r.fr, .int .i64 r.un, sv, .int .i64 r.fi, .int .i64 r.la] ∧ Hld.At W (r, sv) ∧ r.ss.length ≤ maxLen := by
  obtain ⟨cs, rfl, _⟩ := hv
  obtain ⟨fuel, hf⟩ := h
  obtain ⟨⟨r, sv⟩, h1, h2, h3⟩ := elemHold hf
  refine ⟨r, sv, ?_, h2, h3⟩
  have h4 : cs.toList = Hld.enc (r, sv) := h1
  rw [show cs = (Hld.enc (r, sv)).toArray by rw [← h4]]
  rfl
theorem openHoldS {H : Type} {enc : TypeId × Value → H} {W : World} {v : Value} {d : DataW H} {p : List MemPlace}
    (hv : ∃ a len cap, v = .slice a len cap) (h : DataW.Trod enc Try.prog W 0 (fun _ => true) true 22 v d p) : ∃ l : List Hld, Hld.Rd W v l ∧ l.length ≤ maxLen ∧ ∀ p ∈ l, p.ss.length ≤ maxLen := by
  obtain ⟨a, len, cap, rfl⟩ := hv
  obtain ⟨fuel, hf⟩ := h
  obtain ⟨l, h1, h2, h3⟩ := open_rows (w := W) (enc := enc) Hld.enc (fun x => Hld.At W x ∧ x.1.ss.length ≤ maxLen) Hld.enc_len (by omega) Try.underlying22 Try.cellsLHold (fun _ _ _ hh => elemHold hh) hf
  exact ⟨l.map Prod.fst, ⟨l, rfl, h1, fun p hp => (h3 p hp).1⟩, by simpa using h2, fun p hp => by obtain ⟨q, hq, rfl⟩ := List.mem_map.1 hp; exact (h3 q hq).2⟩

theorem Try.cellsLVersion : Try.prog.cellsOf 53 = 2 := by kernel_rfl
theorem Try.cellsSlVersion : Try.prog.cellsOf 51 = 1 := by kernel_rfl
theorem elemVersion {H : Type} {enc : TypeId × Value → H} {W : World} {n : Nat} {cs : List Value} {y : DataW H × List MemPlace}
    (h : DataW.trod enc Try.prog W 0 (fun _ => true) true n 53 cs = some y) : ∃ x : Ver × Value, cs = Ver.enc x ∧ (Ver.At W x ∧ x.1.rs.length ≤ maxLen) := by
  have hl := struct_length Try.underlying53 h
  rw [Try.cellsLVersion] at hl
  match cs, hl with
  | [c0, c1], _ =>
    obtain ⟨q0, rfl⟩ := FieldInt.cell (i := 0) Try.underlying53 ⟨_, rfl, rfl, Try.cellsInt, Try.underlying3⟩ h rfl
    obtain ⟨m, y, hy⟩ := field_one Try.underlying53 h (i := 1) rfl rfl Try.cellsSlVersion
    have hy2 : DataW.trod enc Try.prog W 0 (fun _ => true) true m 51 [c1] = some y := hy
    obtain ⟨l, h1, h2, _⟩ := open_rows (w := W) (enc := enc) Rul.enc (fun _ => True) Rul.enc_len (by omega) Try.underlying51 Try.cellsLRule (fun _ _ _ hh => elemRule hh) hy2
    exact ⟨(⟨q0, l⟩, c1), rfl, h1, h2⟩
theorem openVersion {H : Type} {enc : TypeId × Value → H} {W : World} {v : Value} {d : DataW H} {p : List MemPlace}
    (hv : ∃ cs, v = .agg cs ∧ cs.size = Try.prog.cellsOf 53) (h : DataW.Trod enc Try.prog W 0 (fun _ => true) true 53 v d p) : ∃ (r : Ver) (sv : Value), v = .agg #[.int .i64 r.fr, sv] ∧ Ver.At W (r, sv) ∧ r.rs.length ≤ maxLen := by
  obtain ⟨cs, rfl, _⟩ := hv
  obtain ⟨fuel, hf⟩ := h
  obtain ⟨⟨r, sv⟩, h1, h2, h3⟩ := elemVersion hf
  refine ⟨r, sv, ?_, h2, h3⟩
  have h4 : cs.toList = Ver.enc (r, sv) := h1
  rw [show cs = (Ver.enc (r, sv)).toArray by rw [← h4]]
  rfl
theorem openVersionS {H : Type} {enc : TypeId × Value → H} {W : World} {v : Value} {d : DataW H} {p : List MemPlace}
    (hv : ∃ a len cap, v = .slice a len cap) (h : DataW.Trod enc Try.prog W 0 (fun _ => true) true 31 v d p) : ∃ l : List Ver, Ver.Rd W v l ∧ l.length ≤ maxLen ∧ ∀ p ∈ l, p.rs.length ≤ maxLen := by
  obtain ⟨a, len, cap, rfl⟩ := hv
  obtain ⟨fuel, hf⟩ := h
  obtain ⟨l, h1, h2, h3⟩ := open_rows (w := W) (enc := enc) Ver.enc (fun x => Ver.At W x ∧ x.1.rs.length ≤ maxLen) Ver.enc_len (by omega) Try.underlying31 Try.cellsLVersion (fun _ _ _ hh => elemVersion hh) hf
  exact ⟨l.map Prod.fst, ⟨l, rfl, h1, fun p hp => (h3 p hp).1⟩, by simpa using h2, fun p hp => by obtain ⟨q, hq, rfl⟩ := List.mem_map.1 hp; exact (h3 q hq).2⟩

end Go.Proofs.Ytkbhonafbecbfaa
