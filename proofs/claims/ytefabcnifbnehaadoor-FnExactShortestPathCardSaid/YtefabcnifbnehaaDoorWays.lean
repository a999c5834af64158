/- What l7Ways and waysTo compute; no condition beyond the lists, lengths and rooms that are named. -/
import Derived.Test.YtefabcnifbnehaaDoorFmtL4
import Derived.Test.YtefabcnifbnehaaDoorPut
import Derived.Test.YtefabcnifbnehaaDoorSortI
import Derived.Test.YtefabcnifbnehaaDoorAppR
namespace Go.Rd
def slLen : Value → Nat | .slice _ n _ => n | _ => 0
def boolN : Value → Nat | .bool true => 1 | _ => 0
end Go.Rd
namespace Go.Proofs.YtefabcnifbnehaaDoor
open Go.RowKit Go.Sort Go.Rd
set_option maxHeartbeats 4000000 in
theorem l7Ways_ok (l : List Fmt) (id day : Int) (v : Value) (w : World) (hg : goodF l = true) (hid : 0 ≤ atF l id) (hv : Fmt.Rd w v l) (hl : l.length ≤ 1048576) (hll : ∀ p ∈ l, p.rd.length ≤ 1048576) :
    Calls Tryd.prog 53 #[v, .int .i64 id, .int .i64 day] w (RetReadR w 1 (waysL l id day).length ((waysL l id day).flatMap Go.Rd.encI)) := by
  have HLL := Lib.hid hll
  have HEQ := Lib.hid (fun S (h : WayS l id day S) hc => ways_eq hg hid h.rise h.here h.way hc)
  have HLEN := Lib.hid (fun S (h : WayS l id day S) => h.len hid)
  have hlpos : 0 < l.length := by obtain ⟨j, y, _, h, _⟩ := atF_mem hid; have := (List.getElem?_eq_some_iff.1 h).1; omega
  obtain ⟨N, hN⟩ : ∃ N, waysL l id day = N := ⟨_, rfl⟩
  rw [hN] at HEQ ⊢
  clear hN hll hid
  obtain ⟨a, cap, rfl⟩ := hv.shape
  obtain ⟨b, off, rfl⟩ := Fmt.Rd.addr hv hlpos
  go_enter Tryd.func53, Tryd.ntmps53
  go_wp2
  go_loopw [7, 8] (fun out ag wr => ∃ (S : List Int) (g : Bool), Hid (WayS l id day S) ∧ ag = .bool g ∧ Reads wr 1 out S.length (S.flatMap Go.Rd.encI) ∧ Room out ∧ Hid (g = false → ClosedW l day S) ∧ Ext w wr) (fun out ag _ => 2 * (l.length - slLen out) + boolN ag)
  case atStart => exact ⟨[id], true, Lib.hid (WayS.start l id day), rfl, reads_one' (by simp), Room.mk (Nat.le_refl _), Lib.hid (fun h => by cases h), (Ext.refl w).alloc _⟩
  case round =>
    obtain ⟨wo, hwo⟩ : ∃ w', w' = wr := ⟨_, rfl⟩
    subst hwo
    obtain ⟨S, g, HS, rfl, ho, hrm, HC, hE⟩ := hrel
    obtain ⟨ao, co, rfl⟩ := ho.shape
    cases g
    case false =>
      have HF := Lib.hid (HEQ.out S HS.out (HC.out rfl))
      rw [HF.out] at ho
      go_wp2
      go_ret
      exact ⟨_, rfl, by rw [HF.out]; exact ho, hrm, hE⟩
    go_wp2
    go_loopw [7, 8, 9] (fun out ag i wr => ∃ (T : List Int) (g : Bool) (k : Nat), k ≤ l.length ∧ i = .int .i64 k ∧ Hid (WayS l id day T) ∧ ag = .bool g ∧ Reads wr 1 out T.length (T.flatMap Go.Rd.encI) ∧ Room out ∧ S.length ≤ T.length ∧ Hid (g = false → T = S ∧ ∀ j f, j < k → l[j]? = some f → day ≤ f.un → ∀ y ∈ f.rd, y ∈ S → f.id ∈ S) ∧ Hid (g = true → S.length < T.length) ∧ Ext w wr) (fun _ _ i _ => l.length - (intOf i).toNat)
    case atStart => exact ⟨S, false, 0, Nat.zero_le _, rfl, HS, rfl, ho, hrm, Nat.le_refl _, Lib.hid (fun _ => ⟨rfl, fun j f h => by omega⟩), Lib.hid (fun h => by cases h), hE⟩
    case round =>
      obtain ⟨wi, hwi⟩ : ∃ w', w' = wr := ⟨_, rfl⟩
      subst hwi
      obtain ⟨T, g, k, hk, rfl, HT, rfl, hoT, hrT, hST, HF0, HF1, hE2⟩ := hrel
      have hTl := HLEN.out T HT.out
      by_cases hlt : k < l.length
      · obtain ⟨f, hx⟩ := get_of_lt hlt
        obtain ⟨ca, cc, c0, c1, c2, c3, hat⟩ := Fmt.Rd.cells (hv.mono hE2) hx
        have hfl := HLL.out f (List.mem_of_getElem? hx)
        have HX := Lib.hid hx
        have HM := Lib.hid (List.mem_of_getElem? hx)
        clear hx
        go_wp2_with fail
        refine (l1Has_ok T f.id _ _ hoT (by omega)).mono ?_
        rintro e w' ⟨rfl, rfl⟩
        cases hc : T.contains f.id
        case true =>
          have HG0 : Hid (g = false → T = S ∧ ∀ j f, j < k + 1 → l[j]? = some f → day ≤ f.un → ∀ y ∈ f.rd, y ∈ S → f.id ∈ S) := Lib.hid fun h => by
            obtain ⟨h1, h2⟩ := HF0.out h
            subst h1
            refine ⟨rfl, fun j f' hj hf' hu y hy hS' => ?_⟩
            by_cases hjk : j < k
            · exact h2 j f' hjk hf' hu y hy hS'
            · obtain rfl : j = k := by omega
              have := hf'.symm.trans HX.out
              simp only [Option.some.injEq] at this
              subst this
              simpa using hc
          clear hc
          go_wp2
          go_roundw
          case rel => exact ⟨T, g, k + 1, by omega, by go_num, HT, rfl, hoT, hrT, hST, HG0, HF1, hE2⟩
          case measure => simp [intOf]; omega
        by_cases hu : f.un < day
        case pos =>
          have HG0 : Hid (g = false → T = S ∧ ∀ j f, j < k + 1 → l[j]? = some f → day ≤ f.un → ∀ y ∈ f.rd, y ∈ S → f.id ∈ S) := Lib.hid fun h => by
            obtain ⟨h1, h2⟩ := HF0.out h
            refine ⟨h1, fun j f' hj hf' hu' y hy hS' => ?_⟩
            by_cases hjk : j < k
            · exact h2 j f' hjk hf' hu' y hy hS'
            · obtain rfl : j = k := by omega
              have := hf'.symm.trans HX.out
              simp only [Option.some.injEq] at this
              subst this
              omega
          clear hc
          go_wp2
          go_roundw
          case rel => exact ⟨T, g, k + 1, by omega, by go_num, HT, rfl, hoT, hrT, hST, HG0, HF1, hE2⟩
          case measure => simp [intOf]; omega
        have HCN : Hid (f.id ∉ T) := Lib.hid (by simpa using hc)
        have HU : Hid (day ≤ f.un) := Lib.hid (by omega)
        clear hc
        go_wp2
        go_loopw [7, 8, 10] (fun out ag i wr => ∃ (U : List Int) (q : Bool) (m : Nat), m ≤ f.rd.length ∧ i = .int .i64 m ∧ Hid (WayS l id day U) ∧ ag = .bool q ∧ Reads wr 1 out U.length (U.flatMap Go.Rd.encI) ∧ Room out ∧ Hid ((U = T ∧ q = g ∧ ∀ j y, j < m → f.rd[j]? = some y → y ∉ T) ∨ (f.id ∈ U ∧ q = true ∧ T.length < U.length)) ∧ Ext w wr) (fun _ _ i _ => f.rd.length - (intOf i).toNat)
        case atStart => exact ⟨T, g, 0, Nat.zero_le _, rfl, HT, rfl, hoT, hrT, Lib.hid (.inl ⟨rfl, rfl, fun j y h => by omega⟩), hE2⟩
        case round =>
          obtain ⟨U, q, m, hm, rfl, HU2, rfl, hoU, hrU, HALT, hE3⟩ := hrel
          have hUl := HLEN.out U HU2.out
          clear c0 c1 c2 c3
          obtain ⟨ca, cc, c0, c1, c2, c3, hat⟩ := Fmt.Rd.cells (hv.mono hE3) HX.out
          by_cases hltm : m < f.rd.length
          · obtain ⟨b2, off2, rfl, hcc⟩ := Reads.elems (l := f.rd) Go.Rd.encI_len hat (by omega)
            obtain ⟨y, hy⟩ := get_of_lt hltm
            have d0 := hcc m _ hy 0 _ rfl
            simp only [Nat.add_zero, Nat.mul_one] at d0
            have HY := Lib.hid hy
            clear hcc hy
            go_wp2_with fail
            refine (l1Has_ok U y _ _ hoU (by omega)).mono ?_
            rintro e w' ⟨rfl, rfl⟩
            cases hc : U.contains y
            case false =>
              have HA : Hid ((U = T ∧ q = g ∧ ∀ j y, j < m + 1 → f.rd[j]? = some y → y ∉ T) ∨ (f.id ∈ U ∧ q = true ∧ T.length < U.length)) := Lib.hid (by
                rcases HALT.out with ⟨h1, h2, h3⟩ | h1
                · refine .inl ⟨h1, h2, fun j z hj hz => ?_⟩
                  by_cases hjm : j < m
                  · exact h3 j z hjm hz
                  · obtain rfl : j = m := by omega
                    have := hz.symm.trans HY.out
                    simp only [Option.some.injEq] at this
                    subst this
                    rw [h1] at hc
                    simpa using hc
                · exact .inr h1)
              clear hc
              go_wp2
              go_roundw
              case rel => exact ⟨U, q, m + 1, by omega, by go_num, HU2, rfl, hoU, hrU, HA, hE3⟩
              case measure => simp [intOf]; omega
            have HCY : Hid (y ∈ U) := Lib.hid (by simpa using hc)
            clear hc
            go_wp2_with fail
            refine (l1Has_ok U f.id _ _ hoU (by omega)).mono ?_
            rintro e w' ⟨rfl, rfl⟩
            cases hc : U.contains f.id
            case true =>
              have HA : Hid ((U = T ∧ q = g ∧ ∀ j y, j < m + 1 → f.rd[j]? = some y → y ∉ T) ∨ (f.id ∈ U ∧ q = true ∧ T.length < U.length)) := Lib.hid (by
                rcases HALT.out with ⟨h1, h2, h3⟩ | h1
                · rw [h1] at hc
                  exact absurd (by simpa using hc) HCN.out
                · exact .inr h1)
              clear hc
              go_wp2
              go_roundw
              case rel => exact ⟨U, q, m + 1, by omega, by go_num, HU2, rfl, hoU, hrU, HA, hE3⟩
              case measure => simp [intOf]; omega
            have HCF : Hid (f.id ∉ U) := Lib.hid (by simpa using hc)
            clear hc
            go_wp2_with fail
            refine (l1Put_ok U f.id _ _ hoU hrU (by omega)).mono ?_
            rintro e w5 ⟨v5, rfl, o5, r5, E5⟩
            have HA : Hid ((putI U f.id = T ∧ true = g ∧ ∀ j y, j < m + 1 → f.rd[j]? = some y → y ∉ T) ∨ (f.id ∈ putI U f.id ∧ true = true ∧ T.length < (putI U f.id).length)) := Lib.hid (.inr ⟨(putI_mem _ _ _).2 (.inl rfl), rfl, by
              rw [putI_new HCF.out]
              rcases HALT.out with ⟨h1, _, _⟩ | ⟨_, _, h1⟩
              · rw [h1]; omega
              · omega⟩)
            have HW := Lib.hid (HU2.out.put HM.out HU.out (List.mem_of_getElem? HY.out) HCY.out)
            go_wp2
            go_roundw
            case rel => exact ⟨putI U f.id, true, m + 1, by omega, by go_num, HW, rfl, o5, r5, Lib.hid (HA.out.imp (fun h => h) fun h => ⟨h.1, rfl, h.2.2⟩), Ext.trans hE3 E5⟩
            case measure => simp [intOf]; omega
          have HG0 : Hid (q = false → U = S ∧ ∀ j f, j < k + 1 → l[j]? = some f → day ≤ f.un → ∀ y ∈ f.rd, y ∈ S → f.id ∈ S) := Lib.hid fun h => by
            rcases HALT.out with ⟨h1, h2, h3⟩ | ⟨_, h1, _⟩
            · obtain ⟨h4, h5⟩ := HF0.out (h2 ▸ h)
              refine ⟨h1.trans h4, fun j f' hj hf' hu' y hy hS' => ?_⟩
              by_cases hjk : j < k
              · exact h5 j f' hjk hf' hu' y hy hS'
              · obtain rfl : j = k := by omega
                have := hf'.symm.trans HX.out
                simp only [Option.some.injEq] at this
                subst this
                obtain ⟨i, hi⟩ := List.mem_iff_getElem?.1 hy
                have := h3 i y (by have := (List.getElem?_eq_some_iff.1 hi).1; omega) hi
                rw [h4] at this
                exact absurd hS' this
            · rw [h] at h1; cases h1
          have HG1 : Hid (q = true → S.length < U.length) := Lib.hid fun h => by
            rcases HALT.out with ⟨h1, h2, h3⟩ | ⟨_, _, h1⟩
            · rw [h1]; exact HF1.out (h2 ▸ h)
            · omega
          have hSU : S.length ≤ U.length := by
            rcases HALT.out with ⟨h1, _, _⟩ | ⟨_, _, h1⟩
            · rw [h1]; exact hST
            · omega
          go_wp2
          go_roundw
          case rel => exact ⟨U, q, k + 1, by omega, by go_num, HU2, rfl, hoU, hrU, hSU, HG0, HG1, hE3⟩
          case measure => simp [intOf]; omega
      · have HG : Hid (g = false → ClosedW l day T) := Lib.hid fun h => by
          obtain ⟨h1, h2⟩ := HF0.out h
          subst h1
          intro f hf hu y hy hS'
          obtain ⟨i, hi⟩ := List.mem_iff_getElem?.1 hf
          exact h2 i f (by have := (List.getElem?_eq_some_iff.1 hi).1; omega) hi hu y hy hS'
        have hT0 := HF1.out
        have hS0 : g = false → T.length = S.length := fun h => by rw [(HF0.out h).1]
        obtain ⟨aT, cT, rfl⟩ := hoT.shape
        go_wp2
        go_roundw
        case rel => exact ⟨T, g, HT, rfl, hoT, hrT, HG, hE2⟩
        case measure =>
          cases g
          · have := hS0 rfl
            simp [slLen, boolN]; omega
          · have := hT0 rfl
            simp [slLen, boolN]; omega
end Go.Proofs.YtefabcnifbnehaaDoor
