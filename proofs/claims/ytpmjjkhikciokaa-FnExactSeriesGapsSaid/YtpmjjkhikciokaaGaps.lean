/- What SeriesGaps computes, the reference's and the program's; no condition beyond the lengths that are named. -/
import Derived.Test.YtpmjjkhikciokaaRules2
import Derived.Test.YtpmjjkhikciokaaSeries
namespace Go.Proofs.Ytpmjjkhikciokaa
open Go.RowKit Go.Sort Go.Rd

set_option maxHeartbeats 1000000 in
theorem specSeriesGaps_ok (sch : List Rul) (l : List Int) (vs v : Value) (w : World) (hs : Reads w 4 vs sch.length (sch.flatMap Rul.enc)) (hv : Reads w 1 v l.length (l.flatMap encI)) (hls : sch.length ≤ 1048576) (hl : l.length ≤ 1048576) :
    Calls Try.prog 12 #[vs, v] w (RetReadB w 1 (gapL sch l).length ((gapL sch l).flatMap encI) (gapOk sch l)) := by
  have hs0 := hs.mono ((Ext.refl w).alloc (.cells #[] 3))
  obtain ⟨a, cap, rfl⟩ := hv.shape
  cases hok : gapOk sch l
  case false =>
    have HN := Lib.hid (gapL_no hok)
    cases hg : goodR sch
    case false =>
      clear hok
      go_enter Try.func12, Try.ntmps12
      go_wp2_with fail
      refine (l4Good_ok sch _ _ hs0 hls).mono ?_
      rintro e w1 ⟨rfl, E1⟩
      have o1 := E1.owns (owns_empty w w.heap.size 3 1 (Nat.le_refl _))
      have E1' := Ext.trans ((Ext.refl w).alloc _) E1
      go_wp2
      go_ret2
      rw [HN.out]
      exact ⟨_, rfl, Reads.of_owns o1, E1'⟩
    by_cases h20 : (20 : Int) < l.length
    case pos =>
      clear hok
      go_enter Try.func12, Try.ntmps12
      go_wp2_with fail
      refine (l4Good_ok sch _ _ hs0 hls).mono ?_
      rintro e w1 ⟨rfl, E1⟩
      have o1 := E1.owns (owns_empty w w.heap.size 3 1 (Nat.le_refl _))
      have E1' := Ext.trans ((Ext.refl w).alloc _) E1
      go_wp2
      go_ret2
      rw [HN.out]
      exact ⟨_, rfl, Reads.of_owns o1, E1'⟩
    have hb : riseB 1 99 l = false := by
      simp only [gapOk, seriesOk, hg, Bool.true_and, Bool.and_eq_false_iff, decide_eq_false_iff_not] at hok
      exact hok.resolve_right (by omega)
    clear hok
    go_enter Try.func12, Try.ntmps12
    go_wp2_with fail
    refine (l4Good_ok sch _ _ hs0 hls).mono ?_
    rintro e w1 ⟨rfl, E1⟩
    have o1 := E1.owns (owns_empty w w.heap.size 3 1 (Nat.le_refl _))
    have E1' := Ext.trans ((Ext.refl w).alloc _) E1
    go_wp2_with fail
    refine (l1Rising_ok l _ _ _ _ (hv.mono E1') hl).mono ?_
    rintro e w2 ⟨rfl, E2⟩
    have o2 := E2.owns o1
    have E2' := Ext.trans E1' E2
    go_wp2
    go_ret2
    rw [HN.out]
    exact ⟨_, rfl, Reads.of_owns o2, E2'⟩
  have HN := Lib.hid (gapL_yes hok)
  have hg : goodR sch = true := by simp only [gapOk, Bool.and_eq_true] at hok; exact hok.1
  have hb : riseB 1 99 l = true := by simp only [gapOk, seriesOk, Bool.and_eq_true] at hok; exact hok.2.1
  have h20 : (l.length : Int) ≤ 20 := by simp only [gapOk, seriesOk, Bool.and_eq_true, decide_eq_true_eq] at hok; exact hok.2.2
  clear hok
  go_enter Try.func12, Try.ntmps12
  go_wp2_with fail
  refine (l4Good_ok sch _ _ hs0 hls).mono ?_
  rintro e w1 ⟨rfl, E1⟩
  have o1 := E1.owns (owns_empty w w.heap.size 3 1 (Nat.le_refl _))
  have E1' := Ext.trans ((Ext.refl w).alloc _) E1
  go_wp2_with fail
  refine (l1Rising_ok l _ _ _ _ (hv.mono E1') hl).mono ?_
  rintro e w2 ⟨rfl, E2⟩
  have o2 := E2.owns o1
  have E2' := Ext.trans E1' E2
  go_wp2
  go_loopw [6, 7] (fun out i wr => ∃ k : Nat, k ≤ l.length ∧ i = .int .i64 k ∧ wr.ownsRow w.heap.size 3 1 out ((l.take k).filter (fun s => decide ((forR sch s).length = 0))).length (((l.take k).filter (fun s => decide ((forR sch s).length = 0))).flatMap encI) ∧ Ext w wr) (fun _ i _ => l.length - (intOf i).toNat)
  case atStart => exact ⟨0, Nat.zero_le _, rfl, by simpa using o2, E2'⟩
  case round =>
    obtain ⟨k, hk, rfl, ho, hE⟩ := hrel
    by_cases hlt : k < l.length
    · have hv1 := hv.mono hE
      obtain ⟨b, off, rfl, hc⟩ := Reads.elems encI_len hv1 (by omega)
      obtain ⟨p, hx⟩ := get_of_lt hlt
      have c0 := hc k _ hx 0 _ rfl
      simp only [Nat.add_zero, Nat.mul_one] at c0
      have HS := Lib.hid (filter_step (fun s => decide ((forR sch s).length = 0)) l k _ hx)
      clear hc hx hv1
      have hflen : ((l.take k).filter (fun s => decide ((forR sch s).length = 0))).length ≤ 1048576 := by
        have := List.length_filter_le (fun s => decide ((forR sch s).length = 0)) (l.take k)
        have := List.length_take_le k l
        omega
      generalize hm : ((l.take k).filter (fun s => decide ((forR sch s).length = 0))).length = m at *
      generalize hcs : ((l.take k).filter (fun s => decide ((forR sch s).length = 0))).flatMap encI = cs at *
      have HM := Lib.hid hm
      have HCS := Lib.hid hcs
      clear hm hcs
      go_wp2_with fail
      refine (l4For_ok sch p _ _ (hs.mono hE) hls).mono ?_
      rintro e w3 ⟨v3, rfl, o3, E3⟩
      obtain ⟨a3, cap3, rfl⟩ := (Reads.of_owns o3).shape
      have ho3 := E3.owns ho
      have hE3 := Ext.trans hE E3
      have c3 := E3.cell c0
      clear c0
      cases hp : decide ((forR sch p).length = 0)
      case false =>
        have hz : (((forR sch p).length : Int) == 0) = false := beq_eq_false_iff_ne.2 (by have := of_decide_eq_false hp; omega)
        go_wp2
        go_roundw
        case rel => exact ⟨k + 1, by omega, by go_num, by rw [HS.out, hp]; simp only [Bool.false_eq_true, if_false, List.append_nil]; rw [HM.out, HCS.out]; exact ho3, hE3⟩
        case measure => simp [intOf]; omega
      have hz : (((forR sch p).length : Int) == 0) = true := beq_iff_eq.2 (by have := of_decide_eq_true hp; omega)
      go_wp2_with (at_builtin; refine wpl_append1 w w3 rfl _ _ 23 rfl 3 _ 1 8 Try.underlying23 Try.infoInt rfl (by decide) (by decide) _ _ _ hE3 ho3 ?c1 [.int .i64 p] rfl rfl rfl (encI_one p) ?_)
      case c1 => omega
      intro v' w4 o4 E4 _
      go_wp2
      go_roundw
      case rel =>
        refine ⟨k + 1, by omega, by go_num, ?_, E4⟩
        rw [HS.out, hp, if_pos rfl, List.flatMap_append, List.length_append, HM.out, HCS.out]
        simpa [encI] using o4
      case measure => simp [intOf]; omega
    · have hkn : k = l.length := by omega
      have ho2 := ho
      rw [hkn, List.take_length] at ho2
      clear hkn
      go_wp2
      go_ret2
      rw [HN.out]
      exact ⟨_, rfl, Reads.of_owns ho2, hE⟩

set_option maxHeartbeats 1000000 in
theorem seriesGaps_ok (sch : List Rul) (l : List Int) (vs v : Value) (w : World) (hs : Reads w 4 vs sch.length (sch.flatMap Rul.enc)) (hv : Reads w 1 v l.length (l.flatMap encI)) (hls : sch.length ≤ 1048576) (hl : l.length ≤ 1048576) :
    Calls Try.prog 15 #[vs, v] w (RetOwnB w 3 1 (gapL sch l).length ((gapL sch l).flatMap encI) (gapOk sch l)) := by
  obtain ⟨a, cap, rfl⟩ := hv.shape
  cases hok : gapOk sch l
  case false =>
    have HN := Lib.hid (gapL_no hok)
    cases hg : goodR sch
    case false =>
      clear hok
      go_enter Try.func15, Try.ntmps15
      go_wp2_with fail
      refine (isSchedule_ok sch _ _ hs hls).mono ?_
      rintro e w1 ⟨rfl, E1⟩
      go_wp2
      go_ret2
      rw [HN.out]
      exact ⟨_, rfl, World.ownsRow_nil _ _ _ _, E1⟩
    have hb : seriesOk l 20 = false := by simpa [gapOk, hg] using hok
    clear hok
    go_enter Try.func15, Try.ntmps15
    go_wp2_with fail
    refine (isSchedule_ok sch _ _ hs hls).mono ?_
    rintro e w1 ⟨rfl, E1⟩
    go_wp2_with fail
    refine (areSeries_ok l _ _ _ (hv.mono E1) hl).mono ?_
    rintro e w' ⟨rfl, rfl⟩
    go_wp2
    go_ret2
    rw [HN.out]
    exact ⟨_, rfl, World.ownsRow_nil _ _ _ _, E1⟩
  have HN := Lib.hid (gapL_yes hok)
  have hg : goodR sch = true := by simp only [gapOk, Bool.and_eq_true] at hok; exact hok.1
  have hb : seriesOk l 20 = true := by simp only [gapOk, Bool.and_eq_true] at hok; exact hok.2
  clear hok
  go_enter Try.func15, Try.ntmps15
  go_wp2_with fail
  refine (isSchedule_ok sch _ _ hs hls).mono ?_
  rintro e w1 ⟨rfl, E1⟩
  go_wp2_with fail
  refine (areSeries_ok l _ _ _ (hv.mono E1) hl).mono ?_
  rintro e w' ⟨rfl, rfl⟩
  go_wp2
  go_loopw [6, 19] (fun out i wr => ∃ k : Nat, k ≤ l.length ∧ i = .int .i64 k ∧ wr.ownsRow w.heap.size 3 1 out ((l.take k).filter (fun s => decide ((forR sch s).length = 0))).length (((l.take k).filter (fun s => decide ((forR sch s).length = 0))).flatMap encI) ∧ Ext w wr) (fun _ i _ => l.length - (intOf i).toNat)
  case atStart => exact ⟨0, Nat.zero_le _, rfl, World.ownsRow_nil _ _ _ _, E1⟩
  case round =>
    obtain ⟨k, hk, rfl, ho, hE⟩ := hrel
    by_cases hlt : k < l.length
    · have hv1 := hv.mono hE
      obtain ⟨b, off, rfl, hc⟩ := Reads.elems encI_len hv1 (by omega)
      obtain ⟨p, hx⟩ := get_of_lt hlt
      have c0 := hc k _ hx 0 _ rfl
      simp only [Nat.add_zero, Nat.mul_one] at c0
      have HS := Lib.hid (filter_step (fun s => decide ((forR sch s).length = 0)) l k _ hx)
      clear hc hx hv1
      have hflen : ((l.take k).filter (fun s => decide ((forR sch s).length = 0))).length ≤ 1048576 := by
        have := List.length_filter_le (fun s => decide ((forR sch s).length = 0)) (l.take k)
        have := List.length_take_le k l
        omega
      generalize hm : ((l.take k).filter (fun s => decide ((forR sch s).length = 0))).length = m at *
      generalize hcs : ((l.take k).filter (fun s => decide ((forR sch s).length = 0))).flatMap encI = cs at *
      have HM := Lib.hid hm
      have HCS := Lib.hid hcs
      clear hm hcs
      go_wp2_with fail
      refine (rulesFor_ok sch p _ _ (hs.mono hE) hls).mono ?_
      rintro e w3 ⟨v3, rfl, o3, E3⟩
      obtain ⟨a3, cap3, rfl⟩ := (Reads.of_owns o3).shape
      have ho3 := E3.owns ho
      have hE3 := Ext.trans hE E3
      clear c0
      cases hp : decide ((forR sch p).length = 0)
      case false =>
        have hz : (((forR sch p).length : Int) == 0) = false := beq_eq_false_iff_ne.2 (by have := of_decide_eq_false hp; omega)
        go_wp2
        go_roundw
        case rel => exact ⟨k + 1, by omega, by go_num, by rw [HS.out, hp]; simp only [Bool.false_eq_true, if_false, List.append_nil]; rw [HM.out, HCS.out]; exact ho3, hE3⟩
        case measure => simp [intOf]; omega
      have hz : (((forR sch p).length : Int) == 0) = true := beq_iff_eq.2 (by have := of_decide_eq_true hp; omega)
      go_wp2_with (at_builtin; refine wpl_append1 w w3 rfl _ _ 23 rfl 3 _ 1 8 Try.underlying23 Try.infoInt rfl (by decide) (by decide) _ _ _ hE3 ho3 ?c1 [.int .i64 p] rfl rfl rfl (encI_one p) ?_)
      case c1 => omega
      intro v' w4 o4 E4 _
      go_wp2
      go_roundw
      case rel =>
        refine ⟨k + 1, by omega, by go_num, ?_, E4⟩
        rw [HS.out, hp, if_pos rfl, List.flatMap_append, List.length_append, HM.out, HCS.out]
        simpa [encI] using o4
      case measure => simp [intOf]; omega
    · have hkn : k = l.length := by omega
      have ho2 := ho
      rw [hkn, List.take_length] at ho2
      clear hkn
      go_wp2
      go_ret2
      rw [HN.out]
      exact ⟨_, rfl, ho2, hE⟩
end Go.Proofs.Ytpmjjkhikciokaa
