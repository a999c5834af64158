/- What UnexpectedEvents computes, the program's and the reference's; no condition beyond the lengths that are named. -/
import Derived.Test.YteaaiiodnejmmaaDue
import Derived.Test.YteaaiiodnejmmaaSortI
import Derived.Test.YteaaiiodnejmmaaSortData
namespace Go.Rd
def lateB (l : List Trig) (e : Int) : Bool := (dayM 12 l e).isNone
def unxE (l : List Trig) (sch : List Rul) : List Int := (sch.filter fun r => lateB l r.ev).map (·.ev)
def usedB (sch : List Rul) (e : Int) : Bool := sch.any fun r => r.ev == e
def kindsTo (k : Nat) : List Int := (List.range k).map fun i : Nat => (i : Int) + 1
def unxP (l : List Trig) (sch : List Rul) (e : Int) : Bool := usedB sch e && lateB l e
def unxOk (l : List Trig) (sch : List Rul) : Bool := acyB l && goodR sch
def unxL (l : List Trig) (sch : List Rul) : List Int := if unxOk l sch = true then (kindsTo 9).filter (unxP l sch) else []
theorem kindsTo_succ (k : Nat) : kindsTo (k + 1) = kindsTo k ++ [(k : Int) + 1] := by simp [kindsTo, List.range_succ]
theorem mem_kindsTo {k : Nat} {x : Int} : x ∈ kindsTo k ↔ 1 ≤ x ∧ x ≤ k := by
  simp only [kindsTo, List.mem_map, List.mem_range]
  constructor
  · rintro ⟨i, hi, rfl⟩; omega
  · intro h; exact ⟨(x - 1).toNat, by omega, by omega⟩
theorem kindsTo_strict (k : Nat) : (kindsTo k).Pairwise (· < ·) := by
  unfold kindsTo
  rw [List.pairwise_map]
  exact (List.pairwise_lt_range (n := k)).imp fun h => by omega
theorem goodR_mem' {l : List Rul} (h : goodR l = true) {t : Rul} (ht : t ∈ l) : 0 ≤ t.ev ∧ t.ev ≤ 9 := by
  simp only [goodR, Bool.and_eq_true] at h
  obtain ⟨i, hi, rfl⟩ := List.mem_iff_getElem.1 ht
  have := (ascB_spec h.1 i hi).1
  rw [List.getD_eq_getElem?_getD, List.getElem?_eq_getElem hi] at this
  simp only [okR, Bool.and_eq_true, inB_true, Option.getD_some] at this
  omega
theorem unx_eq {l : List Trig} {sch : List Rul} (h : unxOk l sch = true) : Lib.compact ((unxE l sch).mergeSort fun x y => decide (x ≤ y)) = unxL l sch := by
  rw [unxL, if_pos h]
  have hs : goodR sch = true := by simp only [unxOk, Bool.and_eq_true] at h; exact h.2
  refine strict_ext (compact_strict (sort_sorted _)) ((kindsTo_strict 9).filter _) fun x => ?_
  rw [mem_compact, mem_sort, List.mem_filter, mem_kindsTo]
  simp only [unxE, List.mem_map, List.mem_filter, unxP, usedB, Bool.and_eq_true, List.any_eq_true, beq_iff_eq]
  constructor
  · rintro ⟨r, ⟨hr, hl⟩, rfl⟩
    have hb := goodR_mem' hs hr
    have h0 : r.ev ≠ 0 := by
      intro h0
      rw [h0] at hl
      simp [lateB, dayM] at hl
    exact ⟨⟨by omega, by omega⟩, ⟨r, hr, rfl⟩, hl⟩
  · rintro ⟨_, ⟨r, hr, rfl⟩, hl⟩
    exact ⟨r, ⟨hr, hl⟩, rfl⟩
theorem unxL_length (l : List Trig) (sch : List Rul) : (unxL l sch).length ≤ 1048576 := by
  unfold unxL
  split
  · have := List.length_filter_le (unxP l sch) (kindsTo 9)
    simp [kindsTo] at this ⊢; omega
  · simp
theorem unxE_step {l : List Trig} {sch : List Rul} {k : Nat} {r : Rul} (h : sch[k]? = some r) : unxE l (sch.take (k + 1)) = unxE l (sch.take k) ++ if lateB l r.ev = true then [r.ev] else [] := by
  unfold unxE
  rw [filter_step _ _ _ _ h, List.map_append]
  split <;> simp
theorem unxE_length (l : List Trig) (sch : List Rul) : (unxE l sch).length ≤ sch.length := by
  unfold unxE; rw [List.length_map]; exact List.length_filter_le _ _
theorem kinds_step (p : Int → Bool) (k : Nat) : (kindsTo (k + 1)).filter p = (kindsTo k).filter p ++ if p ((k : Int) + 1) = true then [(k : Int) + 1] else [] := by
  rw [kindsTo_succ, List.filter_append]; simp [List.filter_cons]
theorem used_step {sch : List Rul} {k : Nat} {r : Rul} (e : Int) (h : sch[k]? = some r) : usedB (sch.take (k + 1)) e = (usedB (sch.take k) e || r.ev == e) := by
  unfold usedB; rw [List.take_add_one, h]; simp [List.any_append]
end Go.Rd
namespace Go.Proofs.Yteaaiiodnejmmaa
open Go.RowKit Go.Sort Go.Rd
set_option maxHeartbeats 2000000 in
theorem unexpectedEvents_ok (l : List Trig) (sch : List Rul) (vl vs : Value) (w : World) (hvl : Reads w 3 vl l.length (l.flatMap Trig.enc)) (hvs : Reads w 4 vs sch.length (sch.flatMap Rul.enc)) (hl : l.length ≤ 1048576) (hls : sch.length ≤ 1048576) :
    Calls Try.prog 34 #[vl, vs] w (RetOwnB w 3 1 (unxL l sch).length ((unxL l sch).flatMap Go.Rd.encI) (unxOk l sch)) := by
  cases ha : acyB l
  case false =>
    have HB : Hid (unxL l sch = []) := (if_neg (by simp [unxOk, ha]) : unxL l sch = [])
    have HO : Hid (unxOk l sch = false) := (by simp [unxOk, ha] : unxOk l sch = false)
    go_enter Try.func34, Try.ntmps34
    go_wp2_with fail
    refine (areAcyclic_ok l vl _ hvl hl).mono ?_
    rintro e w1 ⟨rfl, E1⟩
    rw [ha]
    go_wp2
    go_ret2
    rw [HB.out, HO.out]
    exact ⟨_, rfl, World.ownsRow_nil _ _ _ _, E1⟩
  cases hs : goodR sch
  case false =>
    have HB : Hid (unxL l sch = []) := (if_neg (by simp [unxOk, hs]) : unxL l sch = [])
    have HO : Hid (unxOk l sch = false) := (by simp [unxOk, hs] : unxOk l sch = false)
    go_enter Try.func34, Try.ntmps34
    go_wp2_with fail
    refine (areAcyclic_ok l vl _ hvl hl).mono ?_
    rintro e w1 ⟨rfl, E1⟩
    rw [ha]
    go_wp2_with fail
    refine (isSchedule_ok sch vs _ (hvs.mono E1) hls).mono ?_
    rintro e w2 ⟨rfl, E2⟩
    rw [hs]
    go_wp2
    go_ret2
    rw [HB.out, HO.out]
    exact ⟨_, rfl, World.ownsRow_nil _ _ _ _, Ext.trans E1 E2⟩
  have hok : unxOk l sch = true := by simp [unxOk, ha, hs]
  have HO := Lib.hid hok
  have HB := Lib.hid (unx_eq hok)
  obtain ⟨hg, hn⟩ := acyB_parts ha
  have HG := Lib.hid hg
  have HN := Lib.hid hn
  go_enter Try.func34, Try.ntmps34
  go_wp2_with fail
  refine (areAcyclic_ok l vl _ hvl hl).mono ?_
  rintro e w1 ⟨rfl, E1⟩
  rw [ha]
  go_wp2_with fail
  refine (isSchedule_ok sch vs _ (hvs.mono E1) hls).mono ?_
  rintro e w2 ⟨rfl, E2⟩
  rw [hs]
  clear hg hn hs ha hok
  have E2' := Ext.trans E1 E2
  obtain ⟨aas, caps, rfl⟩ := hvs.shape
  go_wp2
  go_loopw [6, 8, 9, 10, 21] (fun out _ _ _ i wr => ∃ k : Nat, k ≤ sch.length ∧ i = .int .i64 k ∧ wr.ownsRow w.heap.size 3 1 out (unxE l (sch.take k)).length ((unxE l (sch.take k)).flatMap Go.Rd.encI) ∧ Ext w wr) (fun _ _ _ _ i _ => sch.length - (intOf i).toNat)
  case atStart => exact ⟨0, Nat.zero_le _, rfl, World.ownsRow_nil _ _ _ _, E2'⟩
  case round =>
    obtain ⟨k, hk, rfl, ho, hE⟩ := hrel
    by_cases hlt : k < sch.length
    · have hv1 := hvs.mono hE
      obtain ⟨b, off, rfl, hc⟩ := Reads.elems Rul.enc_len hv1 (by omega)
      obtain ⟨⟨p1, p2, p3, p4⟩, hx⟩ := get_of_lt hlt
      have c0 := hc k _ hx 0 _ rfl
      have c1 := hc k _ hx 1 _ rfl
      have c2 := hc k _ hx 2 _ rfl
      have c3 := hc k _ hx 3 _ rfl
      rw [Nat.add_zero] at c0
      have HS := Lib.hid (unxE_step (l := l) hx)
      clear hc hx hv1
      have hflen : (unxE l (sch.take k)).length ≤ 1048576 := by
        have := unxE_length l (sch.take k)
        have := List.length_take_le k sch
        omega
      obtain ⟨m, hm⟩ : ∃ m, unxE l (sch.take k) = m := ⟨_, rfl⟩
      rw [hm] at ho hflen HS
      clear hm
      have hE1 := hE.alloc (.cells #[.int .i64 p1, .int .i64 p2, .int .i64 p3, .int .i64 p4] 70)
      have hvl2 := hvl.mono hE1
      have HC := expected_ok l vl hl HG.out HN.out 12 [] p2 _ (by omega) (.inr (start_ok l p2).1) (by omega) (start_ok l p2).2 hvl2
      go_wp2_with fail
      refine HC.mono ?_
      rintro e w4 ⟨rfl, E4⟩
      have E4' := Ext.trans hE1 E4
      have k1 : w4.cell? ⟨wr.heap.size, 1, none⟩ = some (.int .i64 p2) := E4.cell (by simp)
      have o4 := E4.owns (((Ext.refl wr).alloc (.cells #[.int .i64 p1, .int .i64 p2, .int .i64 p3, .int .i64 p4] 70)).owns ho)
      cases hd : dayM 12 l p2 with
      | some d =>
        have HL : Hid (lateB l p2 = false) := (by simp [lateB, hd] : lateB l p2 = false)
        clear hd
        unfold optE
        go_wp2
        go_roundw
        case rel => exact ⟨k + 1, by omega, by go_num, by rw [HS.out]; simp only [HL.out]; simpa using o4, E4'⟩
        case measure => simp [intOf]; omega
      | none =>
        have HL : Hid (lateB l p2 = true) := (by simp [lateB, hd] : lateB l p2 = true)
        clear hd
        unfold optE
        go_wp2_with (at_builtin; refine wpl_append1 w w4 rfl _ _ 38 rfl 3 _ 1 8 Try.underlying38 Try.infoInt rfl (by decide) (by decide) _ _ _ E4' o4 ?c1 [.int .i64 p2] rfl rfl rfl (encI_one p2) ?_)
        case c1 => omega
        intro v' w5 o5 E5 _
        go_wp2
        go_roundw
        case rel =>
          refine ⟨k + 1, by omega, by go_num, ?_, E5⟩
          rw [HS.out]
          simp only [HL.out]
          simpa [Go.Rd.encI] using o5
        case measure => simp [intOf]; omega
    · have ho2 := ho
      rw [List.take_of_length_le (by omega)] at ho2
      have hlen : (unxE l sch).length ≤ 1048576 := Nat.le_trans (unxE_length l sch) hls
      go_wp2_with fail
      refine (sortInts_ok w.heap.size (unxE l sch) _ _ ho2 hlen).mono ?_
      rintro e w5 ⟨rfl, o5, B5⟩
      go_wp2_with fail
      refine (compactInts_ok w.heap.size (sortL (unxE l sch)) _ _ o5 (by rw [sortL_len]; exact hlen)).mono ?_
      rintro e w6 ⟨v6, rfl, o6, B6⟩
      have E6 : Ext w w6 := Below.trans (Below.trans hE B5) B6
      go_wp2
      go_ret2
      rw [HO.out, ← HB.out]
      exact ⟨_, rfl, o6, E6⟩
set_option maxHeartbeats 2000000 in
theorem specUnexpectedEvents_ok (l : List Trig) (sch : List Rul) (vl vs : Value) (w : World) (hvl : Reads w 3 vl l.length (l.flatMap Trig.enc)) (hvs : Reads w 4 vs sch.length (sch.flatMap Rul.enc)) (hl : l.length ≤ 1048576) (hls : sch.length ≤ 1048576) :
    Calls Try.prog 32 #[vl, vs] w (RetReadB w 1 (unxL l sch).length ((unxL l sch).flatMap Go.Rd.encI) (unxOk l sch)) := by
  have hvl0 := hvl.mono ((Ext.refl w).alloc (.cells #[] 3))
  cases ha : acyB l
  case false =>
    have HB : Hid (unxL l sch = []) := (if_neg (by simp [unxOk, ha]) : unxL l sch = [])
    have HO : Hid (unxOk l sch = false) := (by simp [unxOk, ha] : unxOk l sch = false)
    go_enter Try.func32, Try.ntmps32
    go_wp2_with fail
    refine (l10Free_ok l vl _ hvl0 hl).mono ?_
    rintro e w1 ⟨rfl, E1⟩
    rw [ha]
    have o1 := E1.owns (owns_empty w w.heap.size 3 1 (Nat.le_refl _))
    have E1' := Ext.trans ((Ext.refl w).alloc _) E1
    go_wp2
    go_ret2
    rw [HB.out, HO.out]
    exact ⟨_, rfl, Reads.of_owns o1, E1'⟩
  cases hs : goodR sch
  case false =>
    have HB : Hid (unxL l sch = []) := (if_neg (by simp [unxOk, hs]) : unxL l sch = [])
    have HO : Hid (unxOk l sch = false) := (by simp [unxOk, hs] : unxOk l sch = false)
    go_enter Try.func32, Try.ntmps32
    go_wp2_with fail
    refine (l10Free_ok l vl _ hvl0 hl).mono ?_
    rintro e w1 ⟨rfl, E1⟩
    rw [ha]
    have E1' := Ext.trans ((Ext.refl w).alloc (.cells #[] 3)) E1
    go_wp2_with fail
    refine (l4Good_ok sch vs _ (hvs.mono E1') hls).mono ?_
    rintro e w2 ⟨rfl, E2⟩
    rw [hs]
    have o2 := E2.owns (E1.owns (owns_empty w w.heap.size 3 1 (Nat.le_refl _)))
    go_wp2
    go_ret2
    rw [HB.out, HO.out]
    exact ⟨_, rfl, Reads.of_owns o2, Ext.trans E1' E2⟩
  have hok : unxOk l sch = true := by simp [unxOk, ha, hs]
  have HO := Lib.hid hok
  have HB : Hid (unxL l sch = (kindsTo 9).filter (unxP l sch)) := (if_pos hok : unxL l sch = (kindsTo 9).filter (unxP l sch))
  obtain ⟨hg, hn⟩ := acyB_parts ha
  have HG := Lib.hid hg
  have HN := Lib.hid hn
  go_enter Try.func32, Try.ntmps32
  go_wp2_with fail
  refine (l10Free_ok l vl _ hvl0 hl).mono ?_
  rintro e w1 ⟨rfl, E1⟩
  rw [ha]
  have E1' := Ext.trans ((Ext.refl w).alloc (.cells #[] 3)) E1
  go_wp2_with fail
  refine (l4Good_ok sch vs _ (hvs.mono E1') hls).mono ?_
  rintro e w2 ⟨rfl, E2⟩
  rw [hs]
  have o2 := E2.owns (E1.owns (owns_empty w w.heap.size 3 1 (Nat.le_refl _)))
  have E2' := Ext.trans E1' E2
  clear hg hn hs ha hok
  obtain ⟨aas, caps, rfl⟩ := hvs.shape
  go_wp2
  go_loopw [6, 7, 8, 9] (fun out ev _ _ wr => ∃ k : Nat, k ≤ 9 ∧ ev = .int .i64 ((k : Int) + 1) ∧ wr.ownsRow w.heap.size 3 1 out ((kindsTo k).filter (unxP l sch)).length (((kindsTo k).filter (unxP l sch)).flatMap Go.Rd.encI) ∧ Ext w wr) (fun _ ev _ _ _ => 11 - (intOf ev).toNat)
  case atStart => exact ⟨0, Nat.zero_le _, rfl, by simpa [kindsTo] using o2, E2'⟩
  case round =>
    obtain ⟨k, hk, rfl, ho, hE⟩ := hrel
    have HS := Lib.hid (kinds_step (unxP l sch) k)
    have hflen : ((kindsTo k).filter (unxP l sch)).length ≤ 9 := by
      have := List.length_filter_le (unxP l sch) (kindsTo k)
      simp [kindsTo] at this ⊢; omega
    obtain ⟨m, hm⟩ : ∃ m, (kindsTo k).filter (unxP l sch) = m := ⟨_, rfl⟩
    rw [hm] at ho hflen HS
    have HM := Lib.hid hm
    clear hm
    by_cases hlt : k < 9
    · obtain ⟨ev, hev⟩ : ∃ ev : Int, (k : Int) + 1 = ev := ⟨_, rfl⟩
      have hev1 : 1 ≤ ev ∧ ev ≤ 9 := by omega
      have HEV := Lib.hid hev
      rw [hev] at HS ⊢
      clear hev
      go_wp2
      go_loopw [8, 9] (fun us j wx => ∃ i : Nat, i ≤ sch.length ∧ j = .int .i64 i ∧ us = .bool (usedB (sch.take i) ev) ∧ wx = wr) (fun _ j _ => sch.length - (intOf j).toNat)
      case atStart => exact ⟨0, Nat.zero_le _, rfl, rfl, rfl⟩
      case round =>
        obtain ⟨i, hi, rfl, rfl, rfl⟩ := hrel
        by_cases hlt2 : i < sch.length
        · have hv1 := hvs.mono hE
          obtain ⟨b, off, rfl, hc⟩ := Reads.elems Rul.enc_len hv1 (by omega)
          obtain ⟨⟨p1, p2, p3, p4⟩, hx⟩ := get_of_lt hlt2
          have c1 := hc i _ hx 1 _ rfl
          have HX := Lib.hid (used_step ev hx)
          clear hc hx hv1
          obtain ⟨fb, hfb⟩ : ∃ fb, usedB (sch.take i) ev = fb := ⟨_, rfl⟩
          rw [hfb] at HX ⊢
          clear hfb
          cases fb <;> cases h1 : (p2 == ev)
          all_goals
            have HX2 := HX.out
            simp only [h1] at HX2
            have HX3 := Lib.hid HX2
            clear HX2
            go_wp2
            go_roundw
            case rel => exact ⟨i + 1, by omega, by go_num, by rw [HX3.out]; rfl, trivial⟩
            case measure => simp [intOf]; omega
        · have hT : usedB (sch.take i) ev = usedB sch ev := by rw [List.take_of_length_le (by omega)]
          rw [hT]
          clear hT
          cases hu : usedB sch ev
          case false =>
            have HP : Hid (unxP l sch ev = false) := (by simp [unxP, hu] : unxP l sch ev = false)
            go_wp2
            go_roundw
            case rel => exact ⟨k + 1, by omega, by rw [← HEV.out]; go_num, by rw [HS.out]; simp only [HP.out]; simpa using ho, hE⟩
            case measure => simp [intOf]; omega
          go_wp2_with fail
          refine (l10Day_ok l vl hl HG.out HN.out 12 [] ev _ (by omega) (.inr (start_ok l ev).1) (by omega) (start_ok l ev).2 (hvl.mono hE)).mono ?_
          rintro e w4 ⟨rfl, rfl⟩
          cases hd : dayM 12 l ev with
          | some d =>
            have HP : Hid (unxP l sch ev = false) := (by simp [unxP, lateB, hd] : unxP l sch ev = false)
            obtain ⟨d1, d2⟩ := dayM_bounds HG.out hd
            clear hd d2
            have hneg : negD (some d) = d := rfl
            rw [hneg]
            go_wp2
            go_roundw
            case rel => exact ⟨k + 1, by omega, by rw [← HEV.out]; go_num, by rw [HS.out]; simp only [HP.out]; simpa using ho, hE⟩
            case measure => simp [intOf]; omega
          | none =>
            have HP : Hid (unxP l sch ev = true) := (by simp [unxP, lateB, hd, hu] : unxP l sch ev = true)
            clear hd
            unfold negD
            go_wp2_with (at_builtin; refine wpl_append1 w wr rfl _ _ 38 rfl 3 _ 1 8 Try.underlying38 Try.infoInt rfl (by decide) (by decide) _ _ _ hE ho ?c1 [.int .i64 ev] rfl rfl rfl (encI_one ev) ?_)
            case c1 => omega
            intro v' w5 o5 E5 _
            go_wp2
            go_roundw
            case rel =>
              refine ⟨k + 1, by omega, by rw [← HEV.out]; go_num, ?_, E5⟩
              rw [HS.out]
              simp only [HP.out]
              simpa [Go.Rd.encI] using o5
            case measure => simp [intOf]; omega
    · have hk9 : k = 9 := by omega
      subst hk9
      have HQ := Lib.hid (HB.out.trans HM.out)
      go_wp2
      go_ret2
      rw [HO.out, HQ.out]
      exact ⟨_, rfl, Reads.of_owns ho, hE⟩
end Go.Proofs.Yteaaiiodnejmmaa
