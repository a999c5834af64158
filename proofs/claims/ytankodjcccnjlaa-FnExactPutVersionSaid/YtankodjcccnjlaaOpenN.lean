/- How arguments that hold slices within structs are opened; no condition. -/
import Derived.Test.YtankodjcccnjlaaOpenS
import Derived.Test.YtankodjcccnjlaaNestData
namespace Go.Proofs.Ytankodjcccnjlaa
open Go.RowKit Go.Sort Go.Rd Go.ChangeShapes Go.WideShapes



theorem Try.cellsLVersion : Try.prog.cellsOf 25 = 2 := by kernel_rfl
theorem Try.cellsSlVersion : Try.prog.cellsOf 23 = 1 := by kernel_rfl
theorem elemVersion {H : Type} {enc : TypeId × Value → H} {W : World} {n : Nat} {cs : List Value} {y : DataW H × List MemPlace}
    (h : DataW.trod enc Try.prog W 0 (fun _ => true) true n 25 cs = some y) : ∃ x : Ver × Value, cs = Ver.enc x ∧ (Ver.At W x ∧ x.1.rs.length ≤ maxLen) := by
  have hl := struct_length Try.underlying25 h
  rw [Try.cellsLVersion] at hl
  match cs, hl with
  | [c0, c1], _ =>
    obtain ⟨q0, rfl⟩ := FieldInt.cell (i := 0) Try.underlying25 ⟨_, rfl, rfl, Try.cellsInt, Try.underlying3⟩ h rfl
    obtain ⟨m, y, hy⟩ := field_one Try.underlying25 h (i := 1) rfl rfl Try.cellsSlVersion
    have hy2 : DataW.trod enc Try.prog W 0 (fun _ => true) true m 23 [c1] = some y := hy
    obtain ⟨l, h1, h2, _⟩ := open_rows (w := W) (enc := enc) Rul.enc (fun _ => True) Rul.enc_len (by omega) Try.underlying23 Try.cellsLRule (fun _ _ _ hh => elemRule hh) hy2
    exact ⟨(⟨q0, l⟩, c1), rfl, h1, h2⟩
theorem openVersion {H : Type} {enc : TypeId × Value → H} {W : World} {v : Value} {d : DataW H} {p : List MemPlace}
    (hv : ∃ cs, v = .agg cs ∧ cs.size = Try.prog.cellsOf 25) (h : DataW.Trod enc Try.prog W 0 (fun _ => true) true 25 v d p) : ∃ (r : Ver) (sv : Value), v = .agg #[.int .i64 r.fr, sv] ∧ Ver.At W (r, sv) ∧ r.rs.length ≤ maxLen := by
  obtain ⟨cs, rfl, _⟩ := hv
  obtain ⟨fuel, hf⟩ := h
  obtain ⟨⟨r, sv⟩, h1, h2, h3⟩ := elemVersion hf
  refine ⟨r, sv, ?_, h2, h3⟩
  have h4 : cs.toList = Ver.enc (r, sv) := h1
  rw [show cs = (Ver.enc (r, sv)).toArray by rw [← h4]]
  rfl
theorem openVersionS {H : Type} {enc : TypeId × Value → H} {W : World} {v : Value} {d : DataW H} {p : List MemPlace}
    (hv : ∃ a len cap, v = .slice a len cap) (h : DataW.Trod enc Try.prog W 0 (fun _ => true) true 22 v d p) : ∃ l : List Ver, Ver.Rd W v l ∧ l.length ≤ maxLen ∧ ∀ p ∈ l, p.rs.length ≤ maxLen := by
  obtain ⟨a, len, cap, rfl⟩ := hv
  obtain ⟨fuel, hf⟩ := h
  obtain ⟨l, h1, h2, h3⟩ := open_rows (w := W) (enc := enc) Ver.enc (fun x => Ver.At W x ∧ x.1.rs.length ≤ maxLen) Ver.enc_len (by omega) Try.underlying22 Try.cellsLVersion (fun _ _ _ hh => elemVersion hh) hf
  exact ⟨l.map Prod.fst, ⟨l, rfl, h1, fun p hp => (h3 p hp).1⟩, by simpa using h2, fun p hp => by obtain ⟨q, hq, rfl⟩ := List.mem_map.1 hp; exact (h3 q hq).2⟩

end Go.Proofs.Ytankodjcccnjlaa
