/- What the reference's Contradictions computes; no condition beyond the lengths that are named. -/
import Derived.Test.YtpmjjkhikciokaaRules2
import Derived.Test.YtpmjjkhikciokaaContraData
import Derived.Test.YtpmjjkhikciokaaHasI
namespace Go.Rd
def contraIn (a : Rul) (l : List Rul) (o : List Int) : List Int := l.foldl (fun o b => if (pairQ a b && !o.contains a.se) = true then o ++ [a.se] else o) o
def contraO (sch : List Rul) (k : Nat) : List Int := (sch.take k).foldl (fun o a => contraIn a sch o) []
theorem contraIn_len (a : Rul) (l : List Rul) (o : List Int) : (contraIn a l o).length ≤ o.length + 1 := by
  unfold contraIn; rw [inner_eq]; split
  · exact addN_length _ _
  · omega
theorem contraO_len (sch : List Rul) (k : Nat) : (contraO sch k).length ≤ k := by
  have := foldl_addN_length (fun (o : List Int) (a : Rul) => contraIn a sch o) (fun o a => contraIn_len a sch o) (sch.take k) []
  have h2 := List.length_take_le k sch
  simp only [List.length_nil] at this
  unfold contraO; omega
theorem contraO_all (sch : List Rul) : contraO sch sch.length = contraF sch := by unfold contraO; rw [List.take_length]; rfl
theorem contraO_step {sch : List Rul} {k : Nat} {a : Rul} (h : sch[k]? = some a) : contraO sch (k + 1) = contraIn a sch (contraO sch k) := foldl_take_step _ [] sch k a h
theorem contraIn_step (a : Rul) {l : List Rul} {k : Nat} {b : Rul} (o : List Int) (h : l[k]? = some b) : contraIn a (l.take (k + 1)) o = if (pairQ a b && !(contraIn a (l.take k) o).contains a.se) = true then contraIn a (l.take k) o ++ [a.se] else contraIn a (l.take k) o := foldl_take_step _ o l k b h
end Go.Rd
namespace Go.Proofs.Ytpmjjkhikciokaa
open Go.RowKit Go.Sort Go.Rd
set_option maxHeartbeats 4000000 in
theorem specContradictions_ok (l : List Rul) (v : Value) (w : World) (hv : Reads w 4 v l.length (l.flatMap Rul.enc)) (hl : l.length ≤ 1048576) :
    Calls Try.prog 26 #[v] w (RetReadB w 1 (contraL l).length ((contraL l).flatMap encI) (goodR l)) := by
  have mixed : Try.prog.follows .mixedOrders = true := by kernel_rfl
  have hv0 := hv.mono ((Ext.refl w).alloc (.cells #[] 3))
  obtain ⟨a, cap, rfl⟩ := hv.shape
  cases hg : goodR l
  case false =>
    have HN : Hid (contraL l = []) := (if_neg (by rw [hg]; exact Bool.false_ne_true) : contraL l = [])
    go_enter Try.func26, Try.ntmps26
    go_wp2_with fail
    refine (l4Good_ok l _ _ hv0 hl).mono ?_
    rintro e w1 ⟨rfl, E1⟩
    rw [hg]
    have o1 := E1.owns (owns_empty w w.heap.size 3 1 (Nat.le_refl _))
    have E1' := Ext.trans ((Ext.refl w).alloc _) E1
    go_wp2
    go_ret2
    rw [HN.out]
    exact ⟨_, rfl, Reads.of_owns o1, E1'⟩
  have HN := Lib.hid (contra_eq hg)
  go_enter Try.func26, Try.ntmps26
  go_wp2_with fail
  refine (l4Good_ok l _ _ hv0 hl).mono ?_
  rintro e w1 ⟨rfl, E1⟩
  rw [hg]
  have o1 := E1.owns (owns_empty w w.heap.size 3 1 (Nat.le_refl _))
  have E1' := Ext.trans ((Ext.refl w).alloc _) E1
  clear hg
  go_wp2
  go_loopw [4, 5, 6, 7, 8] (fun out i _ _ _ wr => ∃ k : Nat, k ≤ l.length ∧ i = .int .i64 k ∧ wr.ownsRow w.heap.size 3 1 out (contraO l k).length ((contraO l k).flatMap encI) ∧ Ext w wr) (fun _ i _ _ _ _ => l.length - (intOf i).toNat)
  case atStart => exact ⟨0, Nat.zero_le _, rfl, by simpa [contraO] using o1, E1'⟩
  case round =>
    obtain ⟨i, hi, rfl, ho, hE⟩ := hrel
    by_cases hlt : i < l.length
    · have hv1 := hv.mono hE
      obtain ⟨⟨p1, p2, p3, p4⟩, hx⟩ := get_of_lt hlt
      have HX := Lib.hid hx
      have HSO := Lib.hid (contraO_step hx)
      clear hx hv1
      have holen := contraO_len l i
      obtain ⟨o, hoo⟩ : ∃ o, contraO l i = o := ⟨_, rfl⟩
      rw [hoo] at ho holen HSO
      clear hoo
      go_wp2
      go_loopw [4, 6, 7, 8] (fun out j _ _ wx => ∃ k : Nat, k ≤ l.length ∧ j = .int .i64 k ∧ wx.ownsRow w.heap.size 3 1 out (contraIn ⟨p1, p2, p3, p4⟩ (l.take k) o).length ((contraIn ⟨p1, p2, p3, p4⟩ (l.take k) o).flatMap encI) ∧ Ext w wx) (fun _ j _ _ _ => l.length - (intOf j).toNat)
      case atStart => exact ⟨0, Nat.zero_le _, rfl, ho, hE⟩
      case round =>
        obtain ⟨k, hk, rfl, hm, hE2⟩ := hrel
        have hmlen := contraIn_len ⟨p1, p2, p3, p4⟩ (l.take k) o
        obtain ⟨m, hmm⟩ : ∃ m, contraIn ⟨p1, p2, p3, p4⟩ (l.take k) o = m := ⟨_, rfl⟩
        rw [hmm] at hm hmlen
        have HMM := Lib.hid hmm
        clear hmm
        by_cases hlt2 : k < l.length
        · have hv1 := hv.mono hE2
          obtain ⟨b, off, rfl, hc⟩ := Reads.elems Rul.enc_len hv1 (by omega)
          obtain ⟨⟨q1, q2, q3, q4⟩, hy⟩ := get_of_lt hlt2
          have a0 := hc i _ HX.out 0 _ rfl
          have a1 := hc i _ HX.out 1 _ rfl
          have a2 := hc i _ HX.out 2 _ rfl
          have a3 := hc i _ HX.out 3 _ rfl
          have c0 := hc k _ hy 0 _ rfl
          have c1 := hc k _ hy 1 _ rfl
          have c2 := hc k _ hy 2 _ rfl
          have c3 := hc k _ hy 3 _ rfl
          rw [Nat.add_zero] at c0 a0
          have HS := Lib.hid (contraIn_step ⟨p1, p2, p3, p4⟩ o hy)
          rw [HMM.out] at HS
          clear hc hy hv1
          have hs0 := block_lt_of_cell c0
          go_upto_region 10 with fail
          go_cut [7, 8] (fun sa sb wy => ∃ ga gb : Nat, sa = .pointer (some ⟨ga, 0, none⟩) ∧ sb = .pointer (some ⟨gb, 0, none⟩) ∧ wy.cell? ⟨ga, 0, none⟩ = some (.int .i64 p1) ∧ wy.cell? ⟨ga, 2, none⟩ = some (.int .i64 p3) ∧ wy.cell? ⟨ga, 3, none⟩ = some (.int .i64 p4) ∧ wy.cell? ⟨gb, 0, none⟩ = some (.int .i64 q1) ∧ wy.cell? ⟨gb, 2, none⟩ = some (.int .i64 q3) ∧ wy.cell? ⟨gb, 3, none⟩ = some (.int .i64 q4) ∧ Ext wr wy)
          case first =>
            go_region_held3 (fun w' => w'.cell? ⟨b, off + i * 4, none⟩ = some (.int .i64 p1) ∧ w'.cell? ⟨b, off + i * 4 + 1, none⟩ = some (.int .i64 p2) ∧ w'.cell? ⟨b, off + i * 4 + 2, none⟩ = some (.int .i64 p3) ∧ w'.cell? ⟨b, off + i * 4 + 3, none⟩ = some (.int .i64 p4) ∧ w'.cell? ⟨b, off + k * 4, none⟩ = some (.int .i64 q1) ∧ w'.cell? ⟨b, off + k * 4 + 1, none⟩ = some (.int .i64 q2) ∧ w'.cell? ⟨b, off + k * 4 + 2, none⟩ = some (.int .i64 q3) ∧ w'.cell? ⟨b, off + k * 4 + 3, none⟩ = some (.int .i64 q4)) (go_keep) (fail)
            all_goals go_wp2
            all_goals go_meet
            all_goals exact ⟨_, _, rfl, rfl, by simp, by simp, by simp, by simp, by simp, by simp, (((Ext.refl wr).alloc _).alloc _).drew⟩
          case rest =>
          obtain ⟨ga, gb, rfl, rfl, x0, x2, x3, y0, y2, y3, hW⟩ := hcut
          have hE3 := Ext.trans hE2 hW
          have hm3 := hW.owns hm
          clear a0 a1 a2 a3 c0 c1 c2 c3 hm
          cases r1 : (p1 == q1)
          case false =>
            have HK : Hid (contraIn ⟨p1, p2, p3, p4⟩ (l.take (k + 1)) o = m) := (HS.out.trans (if_neg (by simp [pairQ, r1])) : contraIn ⟨p1, p2, p3, p4⟩ (l.take (k + 1)) o = m)
            go_wp2
            go_roundw
            case rel => exact ⟨k + 1, by omega, by go_num, by rw [HK.out]; exact hm3, hE3⟩
            case measure => simp [intOf]; omega
          cases r2 : (p4 == 1)
          case false =>
            have HK : Hid (contraIn ⟨p1, p2, p3, p4⟩ (l.take (k + 1)) o = m) := (HS.out.trans (if_neg (by simp [pairQ, r2])) : contraIn ⟨p1, p2, p3, p4⟩ (l.take (k + 1)) o = m)
            go_wp2
            go_roundw
            case rel => exact ⟨k + 1, by omega, by go_num, by rw [HK.out]; exact hm3, hE3⟩
            case measure => simp [intOf]; omega
          cases r3 : (q4 == 3)
          case false =>
            have HK : Hid (contraIn ⟨p1, p2, p3, p4⟩ (l.take (k + 1)) o = m) := (HS.out.trans (if_neg (by simp [pairQ, r3])) : contraIn ⟨p1, p2, p3, p4⟩ (l.take (k + 1)) o = m)
            go_wp2
            go_roundw
            case rel => exact ⟨k + 1, by omega, by go_num, by rw [HK.out]; exact hm3, hE3⟩
            case measure => simp [intOf]; omega
          cases r4 : (p3 == q3)
          case false =>
            have HK : Hid (contraIn ⟨p1, p2, p3, p4⟩ (l.take (k + 1)) o = m) := (HS.out.trans (if_neg (by simp [pairQ, r4])) : contraIn ⟨p1, p2, p3, p4⟩ (l.take (k + 1)) o = m)
            go_wp2
            go_roundw
            case rel => exact ⟨k + 1, by omega, by go_num, by rw [HK.out]; exact hm3, hE3⟩
            case measure => simp [intOf]; omega
          cases hcc : m.contains p1
          case true =>
            have HK : Hid (contraIn ⟨p1, p2, p3, p4⟩ (l.take (k + 1)) o = m) := (HS.out.trans (if_neg (by simp only [hcc, Bool.not_true, Bool.and_false]; exact Bool.false_ne_true)) : contraIn ⟨p1, p2, p3, p4⟩ (l.take (k + 1)) o = m)
            go_wp2_with fail
            refine (l1Has_ok m p1 _ _ (Reads.of_owns hm3) (by omega)).mono ?_
            rintro e w' ⟨rfl, rfl⟩
            rw [hcc]
            go_wp2
            go_roundw
            case rel => exact ⟨k + 1, by omega, by go_num, by rw [HK.out]; exact hm3, hE3⟩
            case measure => simp [intOf]; omega
          have HK : Hid (contraIn ⟨p1, p2, p3, p4⟩ (l.take (k + 1)) o = m ++ [p1]) := (HS.out.trans (if_pos (by simp only [pairQ, r1, r2, r3, r4, hcc]; rfl)) : contraIn ⟨p1, p2, p3, p4⟩ (l.take (k + 1)) o = m ++ [p1])
          go_wp2_with fail
          refine (l1Has_ok m p1 _ _ (Reads.of_owns hm3) (by omega)).mono ?_
          rintro e w' ⟨rfl, rfl⟩
          rw [hcc]
          go_wp2_with (at_builtin; refine wpl_append1 w _ rfl _ _ 23 rfl 3 _ 1 8 Try.underlying23 Try.infoInt rfl (by decide) (by decide) _ _ _ hE3 hm3 ?c1 [.int .i64 p1] rfl rfl rfl (encI_one p1) ?_)
          case c1 => omega
          intro v' w2 o2 E2 _
          go_wp2
          go_roundw
          case rel =>
            refine ⟨k + 1, by omega, by go_num, ?_, E2⟩
            rw [HK.out]
            simpa [encI] using o2
          case measure => simp [intOf]; omega
        · have HK : Hid (contraO l (i + 1) = m) := (by rw [HSO.out, ← HMM.out, List.take_of_length_le (by omega)] : contraO l (i + 1) = m)
          go_wp2
          go_roundw
          case rel => exact ⟨i + 1, by omega, by go_num, by rw [HK.out]; exact hm, hE2⟩
          case measure => simp [intOf]; omega
    · have hil : i = l.length := by omega
      have HK : Hid (contraO l i = contraL l) := (by rw [hil, contraO_all, HN.out] : contraO l i = contraL l)
      rw [HK.out] at ho
      clear hil
      go_wp2
      go_ret2
      exact ⟨_, rfl, Reads.of_owns ho, hE⟩
end Go.Proofs.Ytpmjjkhikciokaa
