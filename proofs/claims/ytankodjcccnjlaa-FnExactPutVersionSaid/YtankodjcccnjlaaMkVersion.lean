/- What markVersionS and heldVersionS do, told cell by cell; no condition beyond the lengths that are named. -/
import Derived.Test.YtankodjcccnjlaaMkData
import Derived.Test.YtankodjcccnjlaaInts
import Derived.Test.YtankodjcccnjlaaFlatRule
namespace Go.Proofs.Ytankodjcccnjlaa
open Go.RowKit Go.Sort Go.Rd
set_option maxHeartbeats 4000000 in
theorem markVersionX_ok (base hi : Nat) (L : List (Nat × Value)) (cs : List Value) (v : Value) (k0 : Int) (w : World) (hv : w.ownsRow base 34 2 v L.length cs) (hsv : ∀ (i : Nat) (p : Nat × Value), L[i]? = some p → cs[i * 2 + 1]? = some p.2) (hwr : ∀ (i : Nat) (p : Nat × Value), L[i]? = some p → Wr w base 48 4 p.2 p.1) (hap : Apart L)
    (hhi : ∀ j, v.ownBlock = some j → j < hi) (hhi2 : ∀ p ∈ L, ∀ j, p.2.ownBlock = some j → j < hi) (hn : L.length + (L.map Prod.fst).sum ≤ 1048576) (hk0 : 0 ≤ k0) (hk1 : k0 ≤ 1048576 * 1048560) :
    Calls Try.prog 12 #[v, .int .i64 k0] w fun e w' => e = .returned (.int .i64 (k0 + (mkTot 1 0 4 L : Nat))) ∧ w'.ownsRow base 34 2 v L.length (mkCells 1 0 4 k0 L) ∧ (∀ (i : Nat) (p : Nat × Value), L[i]? = some p → w'.ownsRow base 48 4 p.2 p.1 (numCells (k0 + (mkTot 1 0 4 (L.take i) : Nat) + 1) (p.1 * 4))) ∧ Turned base hi w w' := by
  have HWR := Lib.hid hwr
  have HHI2 := Lib.hid hhi2
  have HAP := Lib.hid hap
  have hbd := mkTot_bound 1 0 4 L
  have HBD := Lib.hid hbd
  clear hwr hhi2 hap hbd
  have hv0 := hv
  rcases hv.2 with ⟨rfl, h0⟩ | ⟨g, cap, cur, rfl, hg, hcur, hnc, hcm, hcs, htake⟩
  · obtain rfl : L = [] := List.eq_nil_of_length_eq_zero h0
    go_enter Try.func12, Try.ntmps12
    go_wp2
    go_loopw [1, 5] (fun kk i wr => kk = .int .i64 k0 ∧ i = .int .i64 0 ∧ wr = w) (fun _ _ _ => 0)
    case atStart => exact ⟨rfl, rfl, rfl⟩
    case round =>
      obtain ⟨rfl, rfl, rfl⟩ := hrel
      go_wp2
      go_ret
      exact ⟨by simp [mkTot], World.ownsRow_nil _ _ _ _, fun i p hp => by simp at hp, Turned.refl _ _ _⟩
  have hR : SvRows w g 34 2 cap 1 (L.map Prod.snd) := by
    refine ⟨cur, hcur, hcs, fun j u hj => ?_⟩
    rw [List.getElem?_map] at hj
    cases hp : L[j]? with
    | none => rw [hp] at hj; cases hj
    | some p =>
      rw [hp] at hj
      simp only [Option.map_some, Option.some.injEq] at hj
      subst hj
      have hjl : j < L.length := (List.getElem?_eq_some_iff.1 hp).1
      have h1 := hsv j p hp
      rw [← htake, List.getElem?_take, if_pos (by omega), Array.getElem?_toList] at h1
      exact h1
  obtain ⟨MK, hMK⟩ : ∃ MK, mkCells 1 0 4 k0 L = MK := ⟨_, rfl⟩
  have HMK := Lib.hid hMK
  have hml : MK.length = L.length * 2 := by rw [← hMK, mkCells_length]
  rw [hMK]
  have HR := Lib.hid (MkRows.of MK hR)
  have HCM := Lib.hid hcm
  have hgh : g < hi := hhi g rfl
  clear hR hcur hcs htake hcm hv hhi hv0 hsv hMK
  go_enter Try.func12, Try.ntmps12
  go_wp2
  go_loopw [1, 5] (fun kk i wr => ∃ (k : Nat) (c : Int), k ≤ L.length ∧ i = .int .i64 k ∧ kk = .int .i64 c ∧ c = k0 + (mkTot 1 0 4 (L.take k) : Nat) ∧ Hid (MkRows wr g 34 2 cap 1 (L.map Prod.snd) MK (k * 2)) ∧ Hid (∀ (i : Nat) (p : Nat × Value), L[i]? = some p → Wr wr base 48 4 p.2 p.1) ∧ Hid (∀ (i : Nat) (p : Nat × Value), i < k → L[i]? = some p → wr.ownsRow base 48 4 p.2 p.1 (numCells (k0 + (mkTot 1 0 4 (L.take i) : Nat) + 1) (p.1 * 4))) ∧ g < wr.heap.size ∧ Turned base hi w wr) (fun _ i _ => L.length - (intOf i).toNat)
  case atStart => exact ⟨0, k0, Nat.zero_le _, rfl, rfl, by simp [mkTot], Lib.hid (by rw [Nat.zero_mul]; exact HR.out), HWR, Lib.hid fun i p hi => by omega, by obtain ⟨cur, h1, _⟩ := HR.out; exact (Array.getElem?_eq_some_iff.1 h1).1, Turned.refl _ _ _⟩
  case round =>
    obtain ⟨k, c, hk, rfl, rfl, hc, HRO, HWW, HNM, hgs, hT⟩ := hrel
    by_cases hlt : k < L.length
    · obtain ⟨⟨len, sv⟩, hx⟩ := get_of_lt hlt
      have hmem := List.mem_of_getElem? hx
      have hsv : (L.map Prod.snd)[k]? = some sv := by rw [List.getElem?_map, hx]; rfl
      have HS := Lib.hid (mkTot_step 1 0 4 L k (len, sv) hx)
      have hle := mkTot_le 1 0 4 L (k + 1)
      rw [HS.out, HBD.out] at hle
      have hfl := fst_le hx
      have HMG : Hid (∀ j, j < 2 → MK[k * 2 + j]? = (mkOne 1 0 4 c (len, sv))[j]?) := Lib.hid fun j hj => by
        have := mkCells_get 1 0 4 L k0 k _ hx j hj
        rw [← hc, HMK.out] at this; exact this
      simp only [mkN] at hle hfl
      obtain ⟨tk, htk⟩ : ∃ tk, mkTot 1 0 4 (L.take k) = tk := ⟨_, rfl⟩
      have HTK := Lib.hid htk
      rw [htk] at hc hle HS
      have hwsv := HWW.out k _ hx
      have hhsv := HHI2.out _ hmem
      simp only at hwsv hhsv
      have HX := Lib.hid hx
      clear htk hx hmem
      have hroom : k * 2 + 2 ≤ cap * 2 := by omega
      have hcb1 : k0 ≤ c := by omega
      have hcb2 : c ≤ 1048576 * 1048568 := by omega
      have HCC := Lib.hid hc
      clear hc hml
      obtain ⟨z0, hz0⟩ := HRO.out.sv.cell (i := k * 2) (by omega)
      have f0 := HRO.out.sv.frozen (k * 2)
      have zs := HRO.out.sv.sv hsv
      have R1 : MkRows (wr.setCell ⟨g, k * 2, none⟩ (.int .i64 (c))) g 34 2 cap 1 (L.map Prod.snd) MK (k * 2 + 1) := (HRO.out.set (k := k) (r := 0) (u := .int .i64 (c)) (by first | rfl | omega) (by decide) (by decide) (by decide) (by omega) (by have h := HMG.out 0 (by decide); (try simp only [Nat.add_zero] at h); rw [h]; simp [mkOne, numCells]))
      have R1s : MkRows (wr.setCell ⟨g, k * 2, none⟩ (.int .i64 (c))) g 34 2 cap 1 (L.map Prod.snd) MK (k * 2 + 1 + 1) := R1.skip rfl hsv (by rw [HMG.out 1 (by decide)]; simp [mkOne, numCells])
      have hneg : ∀ {u : Value} {m : Nat}, Wr wr base 48 4 u m → ∀ b, u.ownBlock = some b → b ≠ g := fun h b hb => HRO.out.sv.ne (by decide) h hb
      have W1 : ∀ {u : Value} {m : Nat}, Wr wr base 48 4 u m → Wr (wr.setCell ⟨g, k * 2, none⟩ (.int .i64 (c))) base 48 4 u m := fun h => (Wr.set h (hneg h) _)
      have O1 : ∀ {u : Value} {m : Nat} {xs : List Value}, wr.ownsRow base 48 4 u m xs → (∀ b, u.ownBlock = some b → b ≠ g) → ((wr.setCell ⟨g, k * 2, none⟩ (.int .i64 (c)))).ownsRow base 48 4 u m xs := fun h hb => (owns_set_ne h hb _)
      have T1 : Turned base hi w (wr.setCell ⟨g, k * 2, none⟩ (.int .i64 (c))) := (hT.setCell hg hgh _)
      have E1 : (wr.setCell ⟨g, k * 2, none⟩ (.int .i64 (c))).heap.size = wr.heap.size := by simp [World.setCell]
      obtain ⟨ca, capa, hst⟩ : ∃ ca capa, sv = .slice ca len capa := by obtain ⟨xs, h⟩ := hwsv; exact (Reads.of_owns h).shape
      subst hst
      have hlen : len ≤ 1048576 := by omega
      have HC := (W1 hwsv).elim fun xs hxs => markTightX hxs fun b' h' o1 o2 => markRuleS_ok b' h' len _ xs (c + 1) _ o1 o2 hlen (by omega) (by omega)
      go_wp2_with fail
      refine HC.mono ?_
      rintro e w2 ⟨rfl, ho2, b, hb1, hb2, hT2⟩
      have hw2 : Wr w2 base 48 4 (.slice ca len capa) len := ⟨_, ho2⟩
      have hbg : b ≠ g := by
        cases hob : Value.ownBlock (.slice ca len capa) with
        | none => have := hb2 hob; rw [E1] at this; omega
        | some j => have := hb1 j hob; subst this; exact hneg hwsv j hob
      have R2 := R1s.turned hT2 hbg
      have hgs2 : g < w2.heap.size := by have := hT2.size; rw [E1] at this; omega
      have W2 : ∀ (i : Nat) (p : Nat × Value), L[i]? = some p → Wr w2 base 48 4 p.2 p.1 := fun i p hp => wr_after (by decide) (W1 (HWW.out i p hp)) (W1 hwsv) hw2 hb1 hb2 hT2
      have N2 : ∀ (i : Nat) (p : Nat × Value), i < k + 1 → L[i]? = some p → w2.ownsRow base 48 4 p.2 p.1 (numCells (k0 + (mkTot 1 0 4 (L.take i) : Nat) + 1) (p.1 * 4)) := fun i p hi hp => by
        by_cases hik : i = k
        · subst hik
          have hp2 := HX.out
          rw [hp] at hp2
          obtain rfl : p = (len, .slice ca len capa) := by simpa using hp2
          have e1 : k0 + (mkTot 1 0 4 (L.take i) : Nat) + 1 = c + 1 := by have := HCC.out; rw [HTK.out]; omega
          rw [e1]; exact ho2
        · have h1 := HNM.out i p (by omega) hp
          refine owns_turned hT2 (O1 h1 (fun b' hb' => hneg ⟨_, h1⟩ b' hb')) fun b' hb' => ?_
          have hbb : b' ≠ b := by
            intro he
            cases hob : Value.ownBlock (.slice ca len capa) with
            | none => have h3 := hb2 hob; have h4 := (h1.lt b' hb').2; rw [E1] at h3; omega
            | some j => have h3 := hb1 j hob; exact HAP.out i k p _ hik hp HX.out b' hb' (by rw [hob, h3, he])
          omega
      have T2 : Turned base hi w w2 := T1.trans (hT2.wider fun i hi1 hi2 => by
        cases hob : Value.ownBlock (.slice ca len capa) with
        | none => have := hb2 hob; omega
        | some j =>
          have e1 := hb1 j hob
          have e2 := hhsv j hob
          have e3 : base ≤ j := by obtain ⟨xs, h⟩ := hwsv; exact (h.lt j hob).1
          omega)
      have WW2 := Lib.hid W2
      have NN2 := Lib.hid N2
      have RR2 := Lib.hid R2
      have NE2 : Hid (∀ (i : Nat) (p : Nat × Value), L[i]? = some p → ∀ b, p.2.ownBlock = some b → b ≠ g) := Lib.hid fun i p hp b hb => hneg (HWW.out i p hp) b hb
      clear hz0 f0 zs R1 R1s W1 O1 T1 HC R2 W2 N2 hneg ho2 hw2
      go_wp2
      go_roundw
      case rel =>
        refine ⟨k + 1, _, by omega, by go_num, rfl, by have := HCC.out; rw [HS.out]; simp only [mkN]; push_cast; omega, Lib.hid ?_, Lib.hid fun i p hp => (WW2.out i p hp), Lib.hid fun i p hi hp => (NN2.out i p hi hp), by first | exact hgs2 | (simp [World.setCell]; exact hgs2), T2⟩
        rw [show (k + 1) * 2 = k * 2 + 2 by omega]
        exact RR2.out
      case measure => simp [intOf]; omega
    · have hkn : k = L.length := by omega
      have HRX := HRO.out
      have HNX := HNM.out
      subst hkn
      have h1 := HRX.owns hg hnc HCM.out hml
      rw [List.take_length] at hc
      have HH1 := Lib.hid h1
      clear HRX h1
      subst hc
      go_wp2
      go_ret
      exact ⟨rfl, HH1.out, fun i p hp => HNM.out i p (List.getElem?_eq_some_iff.1 hp).1 hp, hT⟩
set_option maxHeartbeats 4000000 in
theorem heldVersionX_ok (L : List (Nat × Value)) (v : Value) (k0 : Int) (w : World) (hv : Reads w 2 v L.length (mkCells 1 0 4 k0 L)) (hin : ∀ (i : Nat) (p : Nat × Value), L[i]? = some p → Reads w 4 p.2 p.1 (numCells (k0 + (mkTot 1 0 4 (L.take i) : Nat) + 1) (p.1 * 4))) (hn : L.length + (L.map Prod.fst).sum ≤ 1048576) (hk0 : 0 ≤ k0) (hk1 : k0 ≤ 1048576 * 1048560) :
    Calls Try.prog 14 #[v, .int .i64 k0] w fun e w' => e = .returned (.int .i64 (k0 + (mkTot 1 0 4 L : Nat))) ∧ w = w' := by
  obtain ⟨a, cap, rfl⟩ := hv.shape
  have HBD := Lib.hid (mkTot_bound 1 0 4 L)
  have HIN := Lib.hid hin
  have HV := Lib.hid hv
  clear hin hv
  go_enter Try.func14, Try.ntmps14
  go_wp2
  go_loop [1, 5] (fun kk i => ∃ (k : Nat) (c : Int), k ≤ L.length ∧ i = .int .i64 k ∧ kk = .int .i64 c ∧ c = k0 + (mkTot 1 0 4 (L.take k) : Nat)) (fun _ i => L.length - (intOf i).toNat)
  case atStart => exact ⟨0, k0, Nat.zero_le _, rfl, rfl, by simp [mkTot]⟩
  case round =>
    obtain ⟨k, c, hk, rfl, rfl, hc⟩ := hrel
    by_cases hlt : k < L.length
    · obtain ⟨⟨len, sv⟩, hx⟩ := get_of_lt hlt
      have HS := Lib.hid (mkTot_step 1 0 4 L k (len, sv) hx)
      have hle := mkTot_le 1 0 4 L (k + 1)
      rw [HS.out, HBD.out] at hle
      have hfl := fst_le hx
      obtain ⟨_, b, off, hab, hcl⟩ := HV.out.at (by omega)
      subst hab
      have HMG : Hid (∀ j u, j < 2 → (mkOne 1 0 4 c (len, sv))[j]? = some u → w.cell? ⟨b, off + k * 2 + j, none⟩ = some u) := Lib.hid fun j u hj hu => by
        have h1 := mkCells_get 1 0 4 L k0 k _ hx j hj
        rw [← hc, hu] at h1
        rw [Nat.add_assoc, hcl _ (by have := (List.getElem?_eq_some_iff.1 h1).1; rw [mkCells_length] at this; exact this)]
        exact h1
      simp only [mkN] at hle hfl
      have hR := HIN.out k _ hx
      simp only at hR
      rw [← hc] at hR
      obtain ⟨tk, htk⟩ : ∃ tk, mkTot 1 0 4 (L.take k) = tk := ⟨_, rfl⟩
      rw [htk] at hc hle HS
      clear hcl htk hx
      have hlen : len ≤ 1048576 := by omega
      have hcb1 : k0 ≤ c := by omega
      have hcb2 : c ≤ 1048576 * 1048568 := by omega
      have HCC := Lib.hid hc
      clear hc
      have c0 : w.cell? ⟨b, off + k * 2, none⟩ = some (.int .i64 (c)) := HMG.out 0 _ (by decide) (by simp [mkOne, numCells])
      have q0 : (c != c) = false := by simp
      have zs : w.cell? ⟨b, off + k * 2 + 1, none⟩ = some sv := HMG.out 1 _ (by decide) (by simp [mkOne, numCells])
      obtain ⟨ca, capa, hst⟩ := hR.shape
      subst hst
      have HC := heldRuleS_ok len _ (c + 1) w (by rw [show c + 1 = c + 1 by omega]; exact hR) hlen (by omega) (by omega)
      obtain ⟨d, hd⟩ : ∃ d, (c + 1 + ((len * 4 : Nat) : Int)) = d := ⟨_, rfl⟩
      rw [hd] at HC
      have hd0 : ¬ (d < 0) := by omega
      have hdb : d ≤ 1048576 * 1048574 := by omega
      have hdd : 0 ≤ d := by omega
      have HD := Lib.hid hd
      have HH := Lib.hid HC
      clear hd HC hR
      go_wp2_with fail
      refine HH.out.mono ?_
      rintro e w' ⟨rfl, rfl⟩
      clear HH
      go_wp2
      go_round
      case rel => exact ⟨k + 1, _, by omega, by go_num, rfl, by have h1 := HCC.out; have h2 := HD.out; rw [HS.out]; simp only [mkN]; push_cast at h2 ⊢; omega⟩
      case measure => simp [intOf]; omega
    · have hkn : k = L.length := by omega
      subst hkn
      rw [List.take_length] at hc
      subst hc
      go_wp2
      go_ret
      exact ⟨rfl, rfl⟩
end Go.Proofs.Ytankodjcccnjlaa
