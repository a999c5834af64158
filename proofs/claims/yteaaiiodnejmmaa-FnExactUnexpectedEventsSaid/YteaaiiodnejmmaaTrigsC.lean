/- What DropTriggers computes, the reference's and the program's; no condition beyond the lengths that are named. -/
import Derived.Test.YteaaiiodnejmmaaTrigsB
namespace Go.Proofs.Yteaaiiodnejmmaa
open Go.RowKit Go.Sort Go.Rd

set_option maxHeartbeats 1000000 in
theorem specDropTriggers_ok (l : List Trig) (ev : Int) (v : Value) (w : World) (hv : Reads w 3 v l.length (l.flatMap Trig.enc)) (hl : l.length ≤ 1048576) :
    Calls Try.prog 18 #[v, .int .i64 ev] w (RetReadB w 3 (dropL l ev).length ((dropL l ev).flatMap Trig.enc) (dropOk l ev)) := by
  have hv0 := hv.mono ((Ext.refl w).alloc (.cells #[] 58))
  obtain ⟨a, cap, rfl⟩ := hv.shape
  cases hok : dropOk l ev
  case false =>
    have HN := Lib.hid (dropL_no hok)
    cases hg : goodT l
    case false =>
      clear hok
      go_enter Try.func18, Try.ntmps18
      go_wp2_with fail
      refine (l10Good_ok l _ _ hv0 hl).mono ?_
      rintro e w1 ⟨rfl, E1⟩
      have o1 := E1.owns (owns_empty w w.heap.size 58 3 (Nat.le_refl _))
      have E1' := Ext.trans ((Ext.refl w).alloc _) E1
      go_wp2
      go_ret2
      rw [HN.out]
      exact ⟨_, rfl, Reads.of_owns o1, E1'⟩
    case true =>
      have hb : inB ev 0 9 = false := by simpa [dropOk, hg] using hok
      clear hok
      go_enter Try.func18, Try.ntmps18
      go_wp2_with fail
      refine (l10Good_ok l _ _ hv0 hl).mono ?_
      rintro e w1 ⟨rfl, E1⟩
      have o1 := E1.owns (owns_empty w w.heap.size 58 3 (Nat.le_refl _))
      have E1' := Ext.trans ((Ext.refl w).alloc _) E1
      go_wp2_with (go_at_call 40; refine (l1In_ok _ _ _ _).mono ?_; rintro e w' ⟨rfl, rfl⟩)
      go_ret2
      rw [HN.out]
      exact ⟨_, rfl, Reads.of_owns o1, E1'⟩
  have HN := Lib.hid (dropL_yes hok)
  have HO := Lib.hid hok
  have hg : goodT l = true := by simp only [dropOk, Bool.and_eq_true] at hok; exact hok.1
  have hb : inB ev 0 9 = true := by simp only [dropOk, Bool.and_eq_true] at hok; exact hok.2
  clear hok
  go_enter Try.func18, Try.ntmps18
  go_wp2_with fail
  refine (l10Good_ok l _ _ hv0 hl).mono ?_
  rintro e w1 ⟨rfl, E1⟩
  have o1 := E1.owns (owns_empty w w.heap.size 58 3 (Nat.le_refl _))
  have E1' := Ext.trans ((Ext.refl w).alloc _) E1
  go_wp2_with (go_at_call 40; refine (l1In_ok _ _ _ _).mono ?_; rintro e w' ⟨rfl, rfl⟩)
  go_loopw [6, 7] (fun out i wr => ∃ k : Nat, k ≤ l.length ∧ i = .int .i64 k ∧ wr.ownsRow w.heap.size 58 3 out ((l.take k).filter (keepT ev)).length (((l.take k).filter (keepT ev)).flatMap Trig.enc) ∧ Ext w wr) (fun _ i _ => l.length - (intOf i).toNat)
  case atStart => exact ⟨0, Nat.zero_le _, rfl, by simpa using o1, E1'⟩
  case round =>
    obtain ⟨k, hk, rfl, ho, hE⟩ := hrel
    by_cases hlt : k < l.length
    · have hv1 := hv.mono hE
      obtain ⟨b, off, rfl, hc⟩ := Reads.elems Trig.enc_len hv1 (by omega)
      obtain ⟨⟨p1, p2, p3⟩, hx⟩ := get_of_lt hlt
      have c0 := hc k _ hx 0 _ rfl
      have c1 := hc k _ hx 1 _ rfl
      have c2 := hc k _ hx 2 _ rfl
      rw [Nat.add_zero] at c0
      have HS := Lib.hid (filter_step (keepT ev) l k _ hx)
      clear hc hx hv1
      have hflen : ((l.take k).filter (keepT ev)).length ≤ 1048576 := by
        have := List.length_filter_le (keepT ev) (l.take k)
        have := List.length_take_le k l
        omega
      generalize hm : ((l.take k).filter (keepT ev)).length = m at *
      generalize hcs : ((l.take k).filter (keepT ev)).flatMap Trig.enc = cs at *
      have HM := Lib.hid hm
      have HC := Lib.hid hcs
      clear hm hcs
      go_upto_region 7 with fail
      go_cut [39] (fun c wx => c = .bool (keepT ev ⟨p1, p2, p3⟩) ∧ wr = wx)
      case first =>
        go_wp2
        all_goals (go_meet; exact ⟨congrArg Value.bool (by simp [keepT, *]), rfl⟩)
      case rest =>
      obtain ⟨rfl, rfl⟩ := hcut
      cases hkeep : keepT ev ⟨p1, p2, p3⟩
      case false =>
        go_wp2
        go_roundw
        case rel => exact ⟨k + 1, by omega, by go_num, by rw [HS.out, hkeep]; simp only [Bool.false_eq_true, if_false, List.append_nil]; rw [HM.out, HC.out]; exact ho, hE⟩
        case measure => simp [intOf]; omega
      go_wp2_with (at_builtin; go_loud (refine wpl_append1 w wr rfl _ _ 28 rfl 58 (.agg #[.int .i64 0, .int .i64 0, .int .i64 0]) 3 24 Try.underlying28 Try.infoITrigger rfl (by decide) (by decide) _ _ _ hE ho ?c1 [.int .i64 p1, .int .i64 p2, .int .i64 p3] rfl rfl rfl (Trig.one ⟨p1, p2, p3⟩) ?_))
      case c1 => omega
      intro v' w2 o2 E2 _
      go_wp2
      go_roundw
      case rel =>
        refine ⟨k + 1, by omega, by go_num, ?_, E2⟩
        rw [HS.out, hkeep, if_pos rfl, List.flatMap_append, List.length_append, HM.out, HC.out]
        simpa [Trig.enc] using o2
      case measure => simp [intOf]; omega
    · have hkn : k = l.length := by omega
      have ho2 := ho
      rw [hkn, List.take_length] at ho2
      clear hkn
      go_wp2
      go_ret2
      rw [HN.out]
      exact ⟨_, rfl, Reads.of_owns ho2, hE⟩
end Go.Proofs.Yteaaiiodnejmmaa
