/- What ExpectedDue computes, the program's and the reference's; no condition beyond the lengths that are named. -/
import Derived.Test.YteaaiiodnejmmaaDay2
import Derived.Test.YteaaiiodnejmmaaRules2
namespace Go.Proofs.Yteaaiiodnejmmaa
open Go.RowKit Go.Sort Go.Rd
def ruT (r : Rul) : Trig := ⟨0, r.ev, r.dy⟩
def dueOk (l : List Trig) (sch : List Rul) (se : Int) : Bool := acyB l && goodR sch && inB se 1 99
def eDue (l : List Trig) (sch : List Rul) (se : Int) : Option Int := if dueOk l sch se = true then dayStep (dayM 12 l) 0 ((forR sch se).map ruT) none else none
theorem eDue_no {l : List Trig} {sch : List Rul} {se : Int} (h : dueOk l sch se = false) : eDue l sch se = none := if_neg (by rw [h]; exact Bool.false_ne_true)
theorem eDue_yes {l : List Trig} {sch : List Rul} {se : Int} (h : dueOk l sch se = true) : eDue l sch se = dayStep (dayM 12 l) 0 ((forR sch se).map ruT) none := if_pos h
theorem goodR_mem {l : List Rul} (h : goodR l = true) {t : Rul} (ht : t ∈ l) : okR t = true := by
  simp only [goodR, Bool.and_eq_true] at h
  obtain ⟨i, hi, rfl⟩ := List.mem_iff_getElem.1 ht
  have := (ascB_spec h.1 i hi).1
  rwa [List.getD_eq_getElem?_getD, List.getElem?_eq_getElem hi] at this
theorem okR_bounds {t : Rul} (h : okR t = true) : 1 ≤ t.se ∧ t.se ≤ 99 ∧ 0 ≤ t.ev ∧ t.ev ≤ 9 ∧ 0 ≤ t.dy ∧ t.dy ≤ 20000 ∧ 1 ≤ t.ac ∧ t.ac ≤ 3 := by
  simp only [okR, Bool.and_eq_true, inB_true] at h
  omega
theorem forR_at {sch : List Rul} (hg : goodR sch = true) {se : Int} {k : Nat} {x : Rul} (hx : (forR sch se)[k]? = some x) : 0 ≤ x.dy ∧ x.dy ≤ 20000 := by
  have := okR_bounds (goodR_mem hg ((List.mem_filter.1 (List.mem_of_getElem? hx)).1))
  omega
theorem forR_len (sch : List Rul) (se : Int) : (forR sch se).length ≤ sch.length := List.length_filter_le _ _
theorem map_drop_at {l : List Rul} {k : Nat} {x : Rul} (h : l[k]? = some x) : (l.drop k).map ruT = ruT x :: (l.drop (k + 1)).map ruT := by rw [drop_at h]; rfl

set_option maxHeartbeats 2000000 in
theorem expectedDue_ok (l : List Trig) (sch : List Rul) (se : Int) (vl vs : Value) (w : World) (hvl : Reads w 3 vl l.length (l.flatMap Trig.enc)) (hvs : Reads w 4 vs sch.length (sch.flatMap Rul.enc)) (hl : l.length ≤ 1048576) (hls : sch.length ≤ 1048576) :
    Calls Try.prog 38 #[vl, vs, .int .i64 se] w fun e w' => e = .returned (.tuple #[.int .i64 ((eDue l sch se).getD 0), .bool (eDue l sch se).isSome]) ∧ Ext w w' := by
  cases ha : acyB l
  case false =>
    have HB := Lib.hid (eDue_no (l := l) (sch := sch) (se := se) (by simp [dueOk, ha]))
    go_enter Try.func38, Try.ntmps38
    go_wp2_with fail
    refine (areAcyclic_ok l vl _ hvl hl).mono ?_
    rintro e w1 ⟨rfl, E1⟩
    rw [ha]
    go_wp2
    go_ret2
    rw [HB.out]
    exact ⟨rfl, E1⟩
  cases hs : goodR sch
  case false =>
    have HB := Lib.hid (eDue_no (l := l) (sch := sch) (se := se) (by simp [dueOk, hs]))
    go_enter Try.func38, Try.ntmps38
    go_wp2_with fail
    refine (areAcyclic_ok l vl _ hvl hl).mono ?_
    rintro e w1 ⟨rfl, E1⟩
    rw [ha]
    go_wp2_with fail
    refine (isSchedule_ok sch vs _ (hvs.mono E1) hls).mono ?_
    rintro e w2 ⟨rfl, E2⟩
    rw [hs]
    go_wp2
    go_ret2
    rw [HB.out]
    exact ⟨rfl, Ext.trans E1 E2⟩
  cases hk : inB se 1 99
  case false =>
    have HB := Lib.hid (eDue_no (l := l) (sch := sch) (se := se) (by simp [dueOk, hk]))
    go_enter Try.func38, Try.ntmps38
    go_wp2_with fail
    refine (areAcyclic_ok l vl _ hvl hl).mono ?_
    rintro e w1 ⟨rfl, E1⟩
    rw [ha]
    go_wp2_with fail
    refine (isSchedule_ok sch vs _ (hvs.mono E1) hls).mono ?_
    rintro e w2 ⟨rfl, E2⟩
    rw [hs]
    go_wp2_with fail
    refine (isId_ok se _).mono ?_
    rintro e w' ⟨rfl, rfl⟩
    rw [hk]
    go_wp2
    go_ret2
    rw [HB.out]
    exact ⟨rfl, Ext.trans E1 E2⟩
  have HB := Lib.hid (eDue_yes (l := l) (sch := sch) (se := se) (by simp [dueOk, ha, hs, hk]))
  obtain ⟨hg, hn⟩ := acyB_parts ha
  have HG := Lib.hid hg
  have HN := Lib.hid hn
  have HS0 := Lib.hid hs
  go_enter Try.func38, Try.ntmps38
  go_wp2_with fail
  refine (areAcyclic_ok l vl _ hvl hl).mono ?_
  rintro e w1 ⟨rfl, E1⟩
  rw [ha]
  go_wp2_with fail
  refine (isSchedule_ok sch vs _ (hvs.mono E1) hls).mono ?_
  rintro e w2 ⟨rfl, E2⟩
  rw [hs]
  go_wp2_with fail
  refine (isId_ok se _).mono ?_
  rintro e w' ⟨rfl, rfl⟩
  rw [hk]
  clear hg hn hs ha hk
  have E2' := Ext.trans E1 E2
  go_wp2_with fail
  refine (rulesFor_ok sch se vs _ (hvs.mono E2') hls).mono ?_
  rintro e w3 ⟨v3, rfl, o3, E3⟩
  have E3' := Ext.trans E2' E3
  have hr3 := Reads.of_owns o3
  have hfl : (forR sch se).length ≤ 1048576 := Nat.le_trans (forR_len sch se) hls
  obtain ⟨a3, cap3, rfl⟩ := hr3.shape
  go_wp2
  go_loopw [8, 9, 11, 12, 13, 31] (fun la fo _ _ _ i wr => ∃ (k : Nat) (acc : Option Int), k ≤ (forR sch se).length ∧ i = .int .i64 k ∧ la = .int .i64 (acc.getD 0) ∧ fo = .bool acc.isSome ∧ 0 ≤ acc.getD 0 ∧ acc.getD 0 ≤ 1000000 ∧ Hid (eDue l sch se = dayStep (dayM 12 l) 0 (((forR sch se).drop k).map ruT) acc) ∧ Ext w3 wr) (fun _ _ _ _ _ i _ => (forR sch se).length - (intOf i).toNat)
  case atStart => exact ⟨0, none, Nat.zero_le _, rfl, rfl, rfl, by simp, by simp, Lib.hid (by rw [HB.out]; rfl), Ext.refl _⟩
  case round =>
    obtain ⟨k, acc, hk, rfl, rfl, rfl, ha1, ha2, HS, hE⟩ := hrel
    obtain ⟨A, hA⟩ : ∃ A, acc.getD 0 = A := ⟨_, rfl⟩
    obtain ⟨F, hF⟩ : ∃ F, acc.isSome = F := ⟨_, rfl⟩
    have HA := Lib.hid hA
    have HF := Lib.hid hF
    rw [hA] at ha1 ha2
    rw [hA, hF]
    clear hA hF
    by_cases hlt : k < (forR sch se).length
    · have hv1 := hr3.mono hE
      obtain ⟨b, off, rfl, hc⟩ := Reads.elems Rul.enc_len hv1 (by omega)
      obtain ⟨⟨p1, p2, p3, p4⟩, hx⟩ := get_of_lt hlt
      have c0 := hc k _ hx 0 _ rfl
      have c1 := hc k _ hx 1 _ rfl
      have c2 := hc k _ hx 2 _ rfl
      have c3 := hc k _ hx 3 _ rfl
      rw [Nat.add_zero] at c0
      have HDR := Lib.hid (map_drop_at hx)
      obtain ⟨f3, f4⟩ := forR_at HS0.out hx
      simp only at f3 f4
      clear hc hx hv1
      have hvl2 := hvl.mono (Ext.trans E3' (hE.alloc (.cells #[.int .i64 p1, .int .i64 p2, .int .i64 p3, .int .i64 p4] 70)))
      have HC := expected_ok l vl hl HG.out HN.out 12 [] p2 _ (by omega) (.inr (start_ok l p2).1) (by omega) (start_ok l p2).2 hvl2
      go_wp2_with fail
      refine HC.mono ?_
      rintro e w4 ⟨rfl, E4⟩
      have E4' := Ext.trans (hE.alloc _) E4
      have k2 : w4.cell? ⟨wr.heap.size, 2, none⟩ = some (.int .i64 p3) := E4.cell (by simp)
      cases hd : dayM 12 l p2 with
      | none =>
        have HK := Lib.hid (dayStep_none (f := dayM 12 l) (ev := 0) (ts := ((forR sch se).drop (k + 1)).map ruT) (acc := acc) (t := ruT ⟨p1, p2, p3, p4⟩) rfl hd)
        clear hd
        unfold optE
        go_wp2
        go_ret2
        rw [HS.out, HDR.out, HK.out]
        exact ⟨rfl, Ext.trans E3' E4'⟩
      | some d =>
        have HK := Lib.hid (dayStep_some (f := dayM 12 l) (ev := 0) (ts := ((forR sch se).drop (k + 1)).map ruT) (acc := acc) (t := ruT ⟨p1, p2, p3, p4⟩) rfl hd)
        obtain ⟨d1, d2⟩ := dayM_bounds HG.out hd
        have d3 : d ≤ 200000 := by omega
        clear hd d2
        unfold optE
        go_wp2
        go_roundw
        case rel => exact ⟨k + 1, some (max A (d + p3)), by omega, by go_num, rfl, rfl, by simp only [Option.getD_some]; omega, by simp only [Option.getD_some]; omega, Lib.hid (by rw [HS.out, HDR.out, HK.out, HA.out]; rfl), E4'⟩
        case measure => simp [intOf]; omega
    · have HR : Hid (eDue l sch se = acc) := (by rw [HS.out, List.drop_of_length_le (by omega)]; rfl : eDue l sch se = acc)
      go_wp2
      go_ret2
      rw [HR.out, HA.out, HF.out]
      exact ⟨rfl, Ext.trans E3' hE⟩

set_option maxHeartbeats 2000000 in
theorem specExpectedDue_ok (l : List Trig) (sch : List Rul) (se : Int) (vl vs : Value) (w : World) (hvl : Reads w 3 vl l.length (l.flatMap Trig.enc)) (hvs : Reads w 4 vs sch.length (sch.flatMap Rul.enc)) (hl : l.length ≤ 1048576) (hls : sch.length ≤ 1048576) :
    Calls Try.prog 37 #[vl, vs, .int .i64 se] w fun e w' => e = .returned (.tuple #[.int .i64 ((eDue l sch se).getD 0), .bool (eDue l sch se).isSome]) ∧ Ext w w' := by
  cases ha : acyB l
  case false =>
    have HB := Lib.hid (eDue_no (l := l) (sch := sch) (se := se) (by simp [dueOk, ha]))
    go_enter Try.func37, Try.ntmps37
    go_wp2_with fail
    refine (l10Free_ok l vl _ hvl hl).mono ?_
    rintro e w1 ⟨rfl, E1⟩
    rw [ha]
    go_wp2
    go_ret2
    rw [HB.out]
    exact ⟨rfl, E1⟩
  cases hs : goodR sch
  case false =>
    have HB := Lib.hid (eDue_no (l := l) (sch := sch) (se := se) (by simp [dueOk, hs]))
    go_enter Try.func37, Try.ntmps37
    go_wp2_with fail
    refine (l10Free_ok l vl _ hvl hl).mono ?_
    rintro e w1 ⟨rfl, E1⟩
    rw [ha]
    go_wp2_with fail
    refine (l4Good_ok sch vs _ (hvs.mono E1) hls).mono ?_
    rintro e w2 ⟨rfl, E2⟩
    rw [hs]
    go_wp2
    go_ret2
    rw [HB.out]
    exact ⟨rfl, Ext.trans E1 E2⟩
  cases hk : inB se 1 99
  case false =>
    have HB := Lib.hid (eDue_no (l := l) (sch := sch) (se := se) (by simp [dueOk, hk]))
    go_enter Try.func37, Try.ntmps37
    go_wp2_with fail
    refine (l10Free_ok l vl _ hvl hl).mono ?_
    rintro e w1 ⟨rfl, E1⟩
    rw [ha]
    go_wp2_with fail
    refine (l4Good_ok sch vs _ (hvs.mono E1) hls).mono ?_
    rintro e w2 ⟨rfl, E2⟩
    rw [hs]
    go_wp2_with fail
    refine (l1In_ok se 1 99 _).mono ?_
    rintro e w' ⟨rfl, rfl⟩
    rw [hk]
    go_wp2
    go_ret2
    rw [HB.out]
    exact ⟨rfl, Ext.trans E1 E2⟩
  have HB := Lib.hid (eDue_yes (l := l) (sch := sch) (se := se) (by simp [dueOk, ha, hs, hk]))
  obtain ⟨hg, hn⟩ := acyB_parts ha
  have HG := Lib.hid hg
  have HN := Lib.hid hn
  have HS0 := Lib.hid hs
  go_enter Try.func37, Try.ntmps37
  go_wp2_with fail
  refine (l10Free_ok l vl _ hvl hl).mono ?_
  rintro e w1 ⟨rfl, E1⟩
  rw [ha]
  go_wp2_with fail
  refine (l4Good_ok sch vs _ (hvs.mono E1) hls).mono ?_
  rintro e w2 ⟨rfl, E2⟩
  rw [hs]
  go_wp2_with fail
  refine (l1In_ok se 1 99 _).mono ?_
  rintro e w' ⟨rfl, rfl⟩
  rw [hk]
  clear hg hn hs ha hk
  have E2' := Ext.trans E1 E2
  go_wp2_with fail
  refine (l4For_ok sch se vs _ (hvs.mono E2') hls).mono ?_
  rintro e w3 ⟨v3, rfl, o3, E3⟩
  have E3' := Ext.trans E2' E3
  have hr3 := Reads.of_owns o3
  have hfl : (forR sch se).length ≤ 1048576 := Nat.le_trans (forR_len sch se) hls
  obtain ⟨a3, cap3, rfl⟩ := hr3.shape
  have hvl2 := hvl.mono E3'
  go_wp2
  go_loop [9, 10, 11] (fun la i _ => ∃ (k : Nat) (acc : Option Int), k ≤ (forR sch se).length ∧ i = .int .i64 k ∧ la = .int .i64 (negD acc) ∧ Hid (∀ d, acc = some d → 0 ≤ d) ∧ -1 ≤ negD acc ∧ negD acc ≤ 1000000 ∧ Hid (eDue l sch se = dayStep (dayM 12 l) 0 (((forR sch se).drop k).map ruT) acc)) (fun _ i _ => (forR sch se).length - (intOf i).toNat)
  case atStart => exact ⟨0, none, Nat.zero_le _, rfl, rfl, Lib.hid (by simp), by simp [negD], by simp [negD], Lib.hid (by rw [HB.out]; rfl)⟩
  case round =>
    obtain ⟨k, acc, hk, rfl, rfl, HPOS, ha1, ha2, HS⟩ := hrel
    obtain ⟨A, hA⟩ : ∃ A, negD acc = A := ⟨_, rfl⟩
    have HA := Lib.hid hA
    rw [hA] at ha1 ha2 ⊢
    clear hA
    by_cases hlt : k < (forR sch se).length
    · obtain ⟨b, off, rfl, hc⟩ := Reads.elems Rul.enc_len hr3 (by omega)
      obtain ⟨⟨p1, p2, p3, p4⟩, hx⟩ := get_of_lt hlt
      have c1 := hc k _ hx 1 _ rfl
      have c2 := hc k _ hx 2 _ rfl
      have HDR := Lib.hid (map_drop_at hx)
      obtain ⟨f3, f4⟩ := forR_at HS0.out hx
      simp only at f3 f4
      clear hc hx
      have HC := l10Day_ok l vl hl HG.out HN.out 12 [] p2 _ (by omega) (.inr (start_ok l p2).1) (by omega) (start_ok l p2).2 hvl2
      go_wp2_with fail
      refine HC.mono ?_
      rintro e w4 ⟨rfl, rfl⟩
      cases hd : dayM 12 l p2 with
      | none =>
        have HK := Lib.hid (dayStep_none (f := dayM 12 l) (ev := 0) (ts := ((forR sch se).drop (k + 1)).map ruT) (acc := acc) (t := ruT ⟨p1, p2, p3, p4⟩) rfl hd)
        clear hd
        unfold negD
        go_wp2
        go_ret2
        rw [HS.out, HDR.out, HK.out]
        exact ⟨rfl, E3'⟩
      | some d =>
        have HK := Lib.hid (dayStep_some (f := dayM 12 l) (ev := 0) (ts := ((forR sch se).drop (k + 1)).map ruT) (acc := acc) (t := ruT ⟨p1, p2, p3, p4⟩) rfl hd)
        obtain ⟨d1, d2⟩ := dayM_bounds HG.out hd
        have d3 : d ≤ 200000 := by omega
        have HM : Hid (max A (d + p3) = max (acc.getD 0) (d + p3)) := (by
          have h1 := HA.out
          cases acc with
          | none => simp only [negD, Option.getD_none] at h1 ⊢; omega
          | some a => simp only [negD, Option.getD_some] at h1 ⊢; rw [h1] : max A (d + p3) = max (acc.getD 0) (d + p3))
        clear hd d2
        have hneg : negD (some d) = d := rfl
        rw [hneg]
        go_wp2_with fail
        refine (l1Most_ok A (d + p3) _).mono ?_
        rintro e w' ⟨rfl, rfl⟩
        go_wp2
        go_round
        case rel => exact ⟨k + 1, some (max A (d + p3)), by omega, by go_num, rfl, Lib.hid (fun d' hd' => by simp only [Option.some.injEq] at hd'; omega), by simp only [negD, Option.getD_some]; omega, by simp only [negD, Option.getD_some]; omega, Lib.hid (by rw [HS.out, HDR.out, HK.out, HM.out]; rfl)⟩
        case measure => simp [intOf]; omega
    · have HR : Hid (eDue l sch se = acc) := (by rw [HS.out, List.drop_of_length_le (by omega)]; rfl : eDue l sch se = acc)
      cases acc with
      | none =>
        have hA : A = -1 := HA.out.symm
        subst hA
        go_wp2
        go_ret2
        rw [HR.out]
        exact ⟨rfl, E3'⟩
      | some d =>
        have hA : d = A := HA.out
        have hA0 : 0 ≤ A := by have := HPOS.out d rfl; omega
        go_wp2
        go_ret2
        rw [HR.out, hA]
        exact ⟨rfl, E3'⟩
end Go.Proofs.Yteaaiiodnejmmaa
