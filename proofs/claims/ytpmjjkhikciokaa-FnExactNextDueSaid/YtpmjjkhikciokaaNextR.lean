/- What NextDue computes; no condition beyond the lengths that are named. -/
import Derived.Test.YtpmjjkhikciokaaDueR2
namespace Go.Rd
/-- What holds of the record that is next: its number and day are above 0. -/
def NGood (s : Option (Int × Int)) : Prop := ∀ t, s = some t → 1 ≤ t.1 ∧ 0 < t.2
theorem nstep_good {sch : List Rul} {day : Int} (h0 : 0 ≤ day) {s : Option (Int × Int)} {r : Rec} (hr : 1 ≤ r.id) (hs : NGood s) : NGood (nstep sch day s r) := by
  cases hc : (decide (day < (decD r sch).2) && nless s (decD r sch).2)
  · rw [nstep_no hc]; exact hs
  · rw [nstep_yes hc]
    have h1 := of_decide_eq_true ((Bool.and_eq_true _ _).mp hc).1
    rintro t ht
    simp only [Option.some.injEq] at ht
    subst ht
    exact ⟨hr, by simp only; omega⟩
end Go.Rd
namespace Go.Proofs.Ytpmjjkhikciokaa
open Go.RowKit Go.Sort Go.Rd
set_option maxHeartbeats 4000000 in
theorem specNextDue_ok (l : List Rec) (sch : List Rul) (day : Int) (v vs : Value) (w : World) (hv : Rec.Rd w v l) (hvs : Reads w 4 vs sch.length (sch.flatMap Rul.enc)) (hl : l.length ≤ 1048576) (hll : ∀ r ∈ l, r.evs.length ≤ 1048576) (hls : sch.length ≤ 1048576) :
    Calls Try.prog 40 #[v, vs, .int .i64 day] w fun e w' => e = .returned (.tuple #[.int .i64 (((nextO l sch day).map Prod.fst).getD 0), .int .i64 (((nextO l sch day).map Prod.snd).getD 0), .bool (nextO l sch day).isSome]) ∧ Ext w w' := by
  obtain ⟨a, cap, rfl⟩ := hv.shape
  have HL := Lib.hid hll
  obtain ⟨N, hN⟩ : ∃ N, nextO l sch day = N := ⟨_, rfl⟩
  have HY := Lib.hid (fun h => hN.symm.trans (nextO_yes (l := l) (sch := sch) (day := day) h))
  have HF := Lib.hid (fun h => hN.symm.trans (nextO_no (l := l) (sch := sch) (day := day) h))
  rw [hN]
  obtain ⟨ok, hok⟩ : ∃ ok, nextOk l sch day = ok := ⟨_, rfl⟩
  have HOK := Lib.hid hok
  rw [hok] at HY HF
  clear hN hok hll
  go_enter Try.func40, Try.ntmps40
  go_wp2_with fail
  refine (l2Records_ok l _ _ hv hl HL.out).mono ?_
  rintro e w1 ⟨rfl, E1⟩
  have E1' := E1
  cases h1 : goodRs l
  case false =>
    have hokf : ok = false := by rw [← HOK.out, nextOk, allOk, h1]; rfl
    obtain rfl := HF.out hokf
    go_wp2
    go_ret3
    exact ⟨rfl, E1'⟩
  go_wp2_with fail
  refine (l4Good_ok sch _ _ (hvs.mono E1') hls).mono ?_
  rintro e w2 ⟨rfl, E2⟩
  have E2' := Ext.trans E1' E2
  cases h2 : goodR sch
  case false =>
    have hokf : ok = false := by rw [← HOK.out, nextOk, allOk, h1, h2]; rfl
    obtain rfl := HF.out hokf
    go_wp2
    go_ret3
    exact ⟨rfl, E2'⟩
  go_wp2_with fail
  refine (l2Day_ok day _).mono ?_
  rintro e w' ⟨rfl, rfl⟩
  cases h3 : inB day 0 20000
  case false =>
    have hokf : ok = false := by rw [← HOK.out, nextOk, allOk, h1, h2, h3]; rfl
    obtain rfl := HF.out hokf
    go_wp2
    go_ret3
    exact ⟨rfl, E2'⟩
  have hokt : ok = true := by rw [← HOK.out, nextOk, allOk, h1, h2, h3]; rfl
  have HN := Lib.hid (HY.out hokt)
  clear HY HF HOK hokt
  have h3' := inB_true.1 h3
  go_wp2
  go_loopw [9, 10, 11, 12, 13] (fun bv lv iv _ _ wr => ∃ (k : Nat) (s : Option (Int × Int)), k ≤ l.length ∧ iv = .int .i64 k ∧ bv = .int .i64 ((s.map Prod.fst).getD 0) ∧ lv = .int .i64 ((s.map Prod.snd).getD (-1)) ∧ Hid (nextF (l.take k) sch day = s) ∧ Hid (NGood s) ∧ Ext w2 wr) (fun _ _ iv _ _ _ => l.length - (intOf iv).toNat)
  case atStart => exact ⟨0, none, Nat.zero_le _, rfl, rfl, rfl, Lib.hid rfl, Lib.hid (fun _ h => by cases h), Ext.refl _⟩
  case round =>
    obtain ⟨k, s, hk, rfl, rfl, rfl, HS, HG, hE⟩ := hrel
    by_cases hlt : k < l.length
    · have hE' := Ext.trans E2' hE
      obtain ⟨r, hx⟩ := get_of_lt hlt
      obtain ⟨b, off, rfl⟩ := Rec.Rd.addr (hv.mono hE') (by omega)
      obtain ⟨ca, cc, c0, c1, c2, c3, hat⟩ := Rec.Rd.cells (hv.mono hE') hx
      have hr := goodRs_mem h1 (List.mem_of_getElem? hx)
      have hrl := HL.out r (List.mem_of_getElem? hx)
      have hid := (okRec_parts hr).1.1
      have HSTEP := Lib.hid ((nextF_step (sch := sch) (day := day) hx).trans (congrArg (fun s => nstep sch day s r) HS.out))
      have HG2 := Lib.hid (nstep_good (sch := sch) h3'.1 hid HG.out)
      have HD := l6Deciding_ok r sch _ _ wr hr h2 hat (hvs.mono hE') hrl hls
      have HN1 := Lib.hid (@nstep_yes sch day s r)
      have HN0 := Lib.hid (@nstep_no sch day s r)
      obtain ⟨⟨⟨D1, D2, D3, D4⟩, D5⟩, hD⟩ : ∃ D, decD r sch = D := ⟨_, rfl⟩
      rw [hD] at HD HN1 HN0
      clear hx hD
      go_wp2_with fail
      refine HD.mono ?_
      rintro e w3 ⟨rfl, E3⟩
      have c0 := E3.cell c0
      obtain ⟨w4, hw4⟩ : ∃ w4, w4 = w3.alloc (.cells #[.int .i64 D1, .int .i64 D2, .int .i64 D3, .int .i64 D4] 78) := ⟨_, rfl⟩
      have E4 : Ext w3 w4 := by rw [hw4]; exact (Ext.refl _).alloc _
      have hE4 := Ext.trans hE (Ext.trans E3 E4)
      have d0 := E4.cell c0
      go_upto_region 8 with fail
      rw [← hw4]
      clear hw4 c0 c1 c2 c3
      cases s with
      | none =>
        simp only [Option.map_none, Option.getD_none]
        cases hA : decide (day < D5)
        case false =>
          have HK := Lib.hid (HSTEP.out.trans (HN0.out (by simp only [hA]; rfl)))
          go_wp2
          go_roundw
          case rel => exact ⟨k + 1, none, by omega, by go_num, rfl, rfl, HK, HG, hE4⟩
          case measure => simp [intOf]; omega
        have HK := Lib.hid (HN1.out (by simp only [hA]; rfl))
        have HK2 := Lib.hid (HSTEP.out.trans HK.out)
        have HG3 := Lib.hid (HK.out ▸ HG2.out)
        go_wp2
        go_roundw
        case rel => exact ⟨k + 1, some (r.id, D5), by omega, by go_num, rfl, rfl, HK2, HG3, hE4⟩
        case measure => simp [intOf]; omega
      | some t =>
        obtain ⟨i, d⟩ := t
        obtain ⟨g1, g2⟩ := HG.out _ rfl
        simp only at g1 g2
        simp only [Option.map_some, Option.getD_some]
        have hneg : decide (d < 0) = false := decide_eq_false (by omega)
        cases hA : decide (day < D5)
        case false =>
          have HK := Lib.hid (HSTEP.out.trans (HN0.out (by simp only [hA]; rfl)))
          go_wp2
          go_roundw
          case rel => exact ⟨k + 1, some (i, d), by omega, by go_num, rfl, rfl, HK, HG, hE4⟩
          case measure => simp [intOf]; omega
        cases hB : decide (D5 < d)
        case false =>
          have HK := Lib.hid (HSTEP.out.trans (HN0.out (by simp only [nless, hA, hB]; rfl)))
          go_wp2
          go_roundw
          case rel => exact ⟨k + 1, some (i, d), by omega, by go_num, rfl, rfl, HK, HG, hE4⟩
          case measure => simp [intOf]; omega
        have HK := Lib.hid (HN1.out (by simp only [nless, hA, hB]; rfl))
        have HK2 := Lib.hid (HSTEP.out.trans HK.out)
        have HG3 := Lib.hid (HK.out ▸ HG2.out)
        go_wp2
        go_roundw
        case rel => exact ⟨k + 1, some (r.id, D5), by omega, by go_num, rfl, rfl, HK2, HG3, hE4⟩
        case measure => simp [intOf]; omega
    · have HF : Hid (N = s) := Lib.hid (HN.out.trans ((congrArg (fun l => nextF l sch day) (List.take_of_length_le (show l.length ≤ k by omega)).symm).trans HS.out))
      obtain rfl := HF.out
      cases N with
      | none =>
        simp only [Option.map_none, Option.getD_none]
        go_wp2
        go_ret3
        exact ⟨rfl, Ext.trans E2' hE⟩
      | some t =>
        obtain ⟨i, d⟩ := t
        obtain ⟨g1, g2⟩ := HG.out _ rfl
        simp only at g1 g2
        simp only [Option.map_some, Option.getD_some]
        have hneg : decide (d < 0) = false := decide_eq_false (by omega)
        go_wp2
        go_ret3
        exact ⟨rfl, Ext.trans E2' hE⟩
set_option maxHeartbeats 4000000 in
theorem nextDue_ok (l : List Rec) (sch : List Rul) (day : Int) (v vs : Value) (w : World) (hv : Rec.Rd w v l) (hvs : Reads w 4 vs sch.length (sch.flatMap Rul.enc)) (hl : l.length ≤ 1048576) (hll : ∀ r ∈ l, r.evs.length ≤ 1048576) (hls : sch.length ≤ 1048576) :
    Calls Try.prog 41 #[v, vs, .int .i64 day] w fun e w' => e = .returned (.tuple #[.int .i64 (((nextO l sch day).map Prod.fst).getD 0), .int .i64 (((nextO l sch day).map Prod.snd).getD 0), .bool (nextO l sch day).isSome]) ∧ Ext w w' := by
  obtain ⟨a, cap, rfl⟩ := hv.shape
  have HL := Lib.hid hll
  obtain ⟨N, hN⟩ : ∃ N, nextO l sch day = N := ⟨_, rfl⟩
  have HY := Lib.hid (fun h => hN.symm.trans (nextO_yes (l := l) (sch := sch) (day := day) h))
  have HF := Lib.hid (fun h => hN.symm.trans (nextO_no (l := l) (sch := sch) (day := day) h))
  rw [hN]
  obtain ⟨ok, hok⟩ : ∃ ok, nextOk l sch day = ok := ⟨_, rfl⟩
  have HOK := Lib.hid hok
  rw [hok] at HY HF
  clear hN hok hll
  go_enter Try.func41, Try.ntmps41
  go_wp2_with fail
  refine (areAll_ok l _ sch _ _ hv hl HL.out hvs hls).mono ?_
  rintro e w2 ⟨rfl, E2⟩
  cases h1 : allOk l sch
  case false =>
    have hokf : ok = false := by rw [← HOK.out, nextOk, h1]; rfl
    obtain rfl := HF.out hokf
    go_wp2
    go_ret3
    exact ⟨rfl, E2⟩
  go_wp2_with fail
  refine (isDay_ok day _).mono ?_
  rintro e w' ⟨rfl, rfl⟩
  cases h3 : inB day 0 20000
  case false =>
    have hokf : ok = false := by rw [← HOK.out, nextOk, h1, h3]; rfl
    obtain rfl := HF.out hokf
    go_wp2
    go_ret3
    exact ⟨rfl, E2⟩
  have hokt : ok = true := by rw [← HOK.out, nextOk, h1, h3]; rfl
  have HN := Lib.hid (HY.out hokt)
  simp only [allOk, Bool.and_eq_true] at h1
  obtain ⟨h1, h2⟩ := h1
  clear HY HF HOK hokt
  have h3' := inB_true.1 h3
  go_wp2
  go_loopw [9, 10, 12, 13, 14, 15, 27] (fun bv lv _ _ _ _ iv wr => ∃ (k : Nat) (s : Option (Int × Int)), k ≤ l.length ∧ iv = .int .i64 k ∧ bv = .int .i64 ((s.map Prod.fst).getD 0) ∧ lv = .int .i64 ((s.map Prod.snd).getD 0) ∧ Hid (nextF (l.take k) sch day = s) ∧ Hid (NGood s) ∧ Ext w2 wr) (fun _ _ _ _ _ _ iv _ => l.length - (intOf iv).toNat)
  case atStart => exact ⟨0, none, Nat.zero_le _, rfl, rfl, rfl, Lib.hid rfl, Lib.hid (fun _ h => by cases h), Ext.refl _⟩
  case round =>
    obtain ⟨k, s, hk, rfl, rfl, rfl, HS, HG, hE⟩ := hrel
    by_cases hlt : k < l.length
    · have hE' := Ext.trans E2 hE
      obtain ⟨r, hx⟩ := get_of_lt hlt
      obtain ⟨b, off, rfl⟩ := Rec.Rd.addr (hv.mono hE') (by omega)
      obtain ⟨ca, cc, c0, c1, c2, c3, hat⟩ := Rec.Rd.cells (hv.mono hE') hx
      have hr := goodRs_mem h1 (List.mem_of_getElem? hx)
      have hrl := HL.out r (List.mem_of_getElem? hx)
      have hid := (okRec_parts hr).1.1
      have HSTEP := Lib.hid ((nextF_step (sch := sch) (day := day) hx).trans (congrArg (fun s => nstep sch day s r) HS.out))
      have HG2 := Lib.hid (nstep_good (sch := sch) h3'.1 hid HG.out)
      obtain ⟨w4, hw4⟩ : ∃ w4, w4 = wr.alloc (.cells #[.int .i64 r.id, .int .i64 r.se, .int .i64 r.ma, .slice ca r.evs.length cc] 49) := ⟨_, rfl⟩
      have E4 : Ext wr w4 := by rw [hw4]; exact (Ext.refl wr).alloc _
      have y0 : w4.cell? ⟨wr.heap.size, 0, none⟩ = some (.int .i64 r.id) := by rw [hw4]; simp
      have HD := deciding_ok r sch _ _ w4 hr h2 (hat.mono E4) (hvs.mono (Ext.trans hE' E4)) hrl hls
      have HN1 := Lib.hid (@nstep_yes sch day s r)
      have HN0 := Lib.hid (@nstep_no sch day s r)
      obtain ⟨⟨⟨D1, D2, D3, D4⟩, D5⟩, hD⟩ : ∃ D, decD r sch = D := ⟨_, rfl⟩
      rw [hD] at HD HN1 HN0
      clear hx hD
      obtain ⟨ob, hob⟩ : ∃ b, decide (0 ≤ D5) = b := ⟨_, rfl⟩
      obtain ⟨m, hm⟩ : ∃ m, max D5 0 = m := ⟨_, rfl⟩
      rw [hob, hm] at HD
      have HOB := Lib.hid hob
      have HM := Lib.hid hm
      have HQ : Hid (decide (day < D5) = (ob && decide (day < m))) := Lib.hid (by rw [← hob, ← hm, Bool.eq_iff_iff]; simp; omega)
      clear hob hm
      go_wp2_with fail
      rw [← hw4]
      refine HD.mono ?_
      rintro e w5 ⟨rfl, E5⟩
      have y0 := E5.cell y0
      have E45 := Ext.trans E4 E5
      have hE5 := Ext.trans hE E45
      have hyb := block_lt_of_cell y0
      clear c0 c1 c2 c3 hw4 HD
      obtain ⟨w6, hw6⟩ : ∃ w6, w6 = w5.alloc (.cells #[.int .i64 D1, .int .i64 D2, .int .i64 D3, .int .i64 D4] 78) := ⟨_, rfl⟩
      have E6 : Ext w5 w6 := by rw [hw6]; exact (Ext.refl _).alloc _
      have hE6 := Ext.trans hE5 E6
      have y0 := E6.cell y0
      go_upto_region 8 with fail
      rw [← hw6]
      clear hw6
      cases ob
      case false =>
        have hA : decide (day < D5) = false := HQ.out
        have HK := Lib.hid (HSTEP.out.trans (HN0.out (by simp only [hA]; rfl)))
        clear hA
        go_wp2
        go_roundw
        case rel => exact ⟨k + 1, s, by omega, by go_num, rfl, rfl, HK, HG, hE6⟩
        case measure => simp [intOf]; omega
      cases hC : decide (day < m)
      case false =>
        have hA : decide (day < D5) = false := by rw [HQ.out, hC]; rfl
        have HK := Lib.hid (HSTEP.out.trans (HN0.out (by simp only [hA]; rfl)))
        clear hA
        go_wp2
        go_roundw
        case rel => exact ⟨k + 1, s, by omega, by go_num, rfl, rfl, HK, HG, hE6⟩
        case measure => simp [intOf]; omega
      have hA : decide (day < D5) = true := by rw [HQ.out, hC]; rfl
      have hDm : D5 = m := by have := of_decide_eq_true HOB.out; have := HM.out; omega
      subst hDm
      cases s with
      | none =>
        simp only [Option.map_none, Option.getD_none]
        have HK := Lib.hid (HN1.out (by simp only [hA]; rfl))
        have HK2 := Lib.hid (HSTEP.out.trans HK.out)
        have HG3 := Lib.hid (HK.out ▸ HG2.out)
        go_wp2
        go_roundw
        case rel => exact ⟨k + 1, some (r.id, D5), by omega, by go_num, rfl, rfl, HK2, HG3, hE6⟩
        case measure => simp [intOf]; omega
      | some t =>
        obtain ⟨i, d⟩ := t
        obtain ⟨g1, g2⟩ := HG.out _ rfl
        simp only at g1 g2
        simp only [Option.map_some, Option.getD_some]
        have hneg : (i == 0) = false := beq_eq_false_iff_ne.2 (by omega)
        cases hB : decide (D5 < d)
        case false =>
          have HK := Lib.hid (HSTEP.out.trans (HN0.out (by simp only [nless, hA, hB]; rfl)))
          go_wp2
          go_roundw
          case rel => exact ⟨k + 1, some (i, d), by omega, by go_num, rfl, rfl, HK, HG, hE6⟩
          case measure => simp [intOf]; omega
        have HK := Lib.hid (HN1.out (by simp only [nless, hA, hB]; rfl))
        have HK2 := Lib.hid (HSTEP.out.trans HK.out)
        have HG3 := Lib.hid (HK.out ▸ HG2.out)
        go_wp2
        go_roundw
        case rel => exact ⟨k + 1, some (r.id, D5), by omega, by go_num, rfl, rfl, HK2, HG3, hE6⟩
        case measure => simp [intOf]; omega
    · have HF : Hid (N = s) := Lib.hid (HN.out.trans ((congrArg (fun l => nextF l sch day) (List.take_of_length_le (show l.length ≤ k by omega)).symm).trans HS.out))
      obtain rfl := HF.out
      cases N with
      | none =>
        simp only [Option.map_none, Option.getD_none]
        go_wp2
        go_ret3
        exact ⟨rfl, Ext.trans E2 hE⟩
      | some t =>
        obtain ⟨i, d⟩ := t
        obtain ⟨g1, g2⟩ := HG.out _ rfl
        simp only at g1 g2
        simp only [Option.map_some, Option.getD_some]
        have hneg : decide (0 < i) = true := decide_eq_true (by omega)
        go_wp2
        go_ret3
        exact ⟨by simp, Ext.trans E2 hE⟩
end Go.Proofs.Ytpmjjkhikciokaa
