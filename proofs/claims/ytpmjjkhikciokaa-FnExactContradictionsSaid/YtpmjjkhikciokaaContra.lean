/- What Contradictions computes, the program's and the reference's; no condition beyond the lengths that are named. -/
import Derived.Test.YtpmjjkhikciokaaSeriesIn
import Derived.Test.YtpmjjkhikciokaaSlRule
import Derived.Test.YtpmjjkhikciokaaSlInt
import Derived.Shelf.Abstract
namespace Go.Proofs.Ytpmjjkhikciokaa
open Go.RowKit Go.Sort Go.Rd
set_option maxHeartbeats 400000 in
theorem contra3_ok (x : Rul) (d : Int) (b : Nat) (w : World) (hc : w.cell? ⟨b, 2, none⟩ = some (.int .i64 d)) :
    Calls Try.prog 64 #[.agg #[.int .i64 x.se, .int .i64 x.ev, .int .i64 x.dy, .int .i64 x.ac], .pointer (some ⟨b, 0, none⟩)] w fun e w' => e = .returned (.bool (x.ac == 3 && x.dy == d)) ∧ Ext w w' := by
  obtain ⟨p1, p2, p3, p4⟩ := x
  have hb := block_lt_of_cell hc
  have hne : b ≠ w.heap.size := by have : b < w.heap.size := hb; omega
  have hc2 := cell_alloc hc
  cases h1 : (p4 == 3) <;> cases h2 : (p3 == d)
  all_goals
    go_enter Try.func64, Try.ntmps64
    go_wp2
    go_ret
    exact ⟨rfl, (Ext.refl _).alloc _⟩
theorem enters_contra3 : ∀ args w, (callFunc 64 args).run Try.prog w = .ok (.enter 64 args) w := enters_of Try.func64 (by kernel_rfl) rfl
set_option maxHeartbeats 400000 in
theorem contra2_ok (x : Rul) (rs : List Rul) (vr : Value) (b : Nat) (w : World) (hc : w.cell? ⟨b, 0, none⟩ = some vr) (hv : Reads w 4 vr rs.length (rs.flatMap Rul.enc)) (hl : rs.length ≤ 1048576) :
    Calls Try.prog 63 #[.agg #[.int .i64 x.se, .int .i64 x.ev, .int .i64 x.dy, .int .i64 x.ac], .pointer (some ⟨b, 0, none⟩)] w fun e w' => e = .returned (.bool (x.ac == 1 && rs.any fun b => b.ac == 3 && b.dy == x.dy)) ∧ Ext w w' := by
  obtain ⟨p1, p2, p3, p4⟩ := x
  obtain ⟨a, cap, rfl⟩ := hv.shape
  have hb := block_lt_of_cell hc
  have hne : b ≠ w.heap.size := by have : b < w.heap.size := hb; omega
  have hc2 := cell_alloc hc
  simp only
  cases h1 : (p4 == 1)
  case false =>
    go_enter Try.func63, Try.ntmps63
    go_wp2
    go_ret
    exact ⟨rfl, (Ext.refl _).alloc _⟩
  obtain ⟨w1, hw1⟩ : ∃ w1, w1 = w.alloc (.cells #[.int .i64 p1, .int .i64 p2, .int .i64 p3, .int .i64 p4] 78) := ⟨_, rfl⟩
  have E1 : Ext w w1 := by rw [hw1]; exact (Ext.refl w).alloc _
  have k2 : w1.cell? ⟨w.heap.size, 2, none⟩ = some (.int .i64 p3) := by rw [hw1]; simp
  have HC := containsFuncRule_ok 64 #[.pointer (some ⟨w.heap.size, 0, none⟩)] (fun b => b.ac == 3 && b.dy == p3) rs (.slice a rs.length cap) w1 enters_contra3 (fun y w' h => contra3_ok y p3 _ w' (h.cell k2)) (hv.mono E1) hl
  go_enter Try.func63, Try.ntmps63
  go_wp2_with fail
  rw [← hw1]
  refine HC.mono ?_
  rintro e w2 ⟨rfl, E2⟩
  go_wp2
  go_ret
  exact ⟨rfl, Ext.trans E1 E2⟩
theorem enters_contra2 : ∀ args w, (callFunc 63 args).run Try.prog w = .ok (.enter 63 args) w := enters_of Try.func63 (by kernel_rfl) rfl
set_option maxHeartbeats 400000 in
theorem contra1_ok (s : Int) (sch : List Rul) (vs : Value) (b : Nat) (w : World) (hc : w.cell? ⟨b, 0, none⟩ = some vs) (hv : Reads w 4 vs sch.length (sch.flatMap Rul.enc)) (hl : sch.length ≤ 1048576) :
    Calls Try.prog 62 #[.int .i64 s, .pointer (some ⟨b, 0, none⟩)] w fun e w' => e = .returned (.bool (!contraS sch s)) ∧ Ext w w' := by
  obtain ⟨a, cap, rfl⟩ := hv.shape
  obtain ⟨r, hr⟩ : ∃ r, contraS sch s = r := ⟨_, rfl⟩
  rw [hr]
  have HR := Lib.hid hr
  clear hr
  go_enter Try.func62, Try.ntmps62
  go_wp2_with fail
  refine (rulesFor_ok sch s _ _ hv hl).mono ?_
  rintro e w1 ⟨v1, rfl, o1, E1⟩
  have hr1 := Reads.of_owns o1
  have hfl : (forR sch s).length ≤ 1048576 := Nat.le_trans (forR_length sch s) hl
  obtain ⟨a1, cap1, rfl⟩ := hr1.shape
  obtain ⟨w2, hw2⟩ : ∃ w2, w2 = w1.alloc (.cells #[.slice a1 (forR sch s).length cap1] 27) := ⟨_, rfl⟩
  have E2 : Ext w1 w2 := by rw [hw2]; exact (Ext.refl w1).alloc _
  have k2 : w2.cell? ⟨w1.heap.size, 0, none⟩ = some (.slice a1 (forR sch s).length cap1) := by rw [hw2]; simp
  have HC := containsFuncRule_ok 63 #[.pointer (some ⟨w1.heap.size, 0, none⟩)] (fun a => a.ac == 1 && (forR sch s).any fun b => b.ac == 3 && b.dy == a.dy) (forR sch s) _ w2 enters_contra2 (fun y w' h => contra2_ok y (forR sch s) _ _ w' (h.cell k2) (hr1.mono (Ext.trans E2 h)) hfl) (hr1.mono E2) hfl
  go_wp2_with fail
  rw [← hw2]
  refine HC.mono ?_
  rintro e w3 ⟨rfl, E3⟩
  have hq : ((forR sch s).any fun a => a.ac == 1 && (forR sch s).any fun b => b.ac == 3 && b.dy == a.dy) = r := HR.out
  rw [hq]
  clear hq
  go_wp2
  go_ret
  exact ⟨rfl, Ext.trans E1 (Ext.trans E2 E3)⟩
theorem enters_contra1 : ∀ args w, (callFunc 62 args).run Try.prog w = .ok (.enter 62 args) w := enters_of Try.func62 (by kernel_rfl) rfl
set_option maxHeartbeats 1000000 in
theorem contradictions_ok (l : List Rul) (v : Value) (w : World) (hv : Reads w 4 v l.length (l.flatMap Rul.enc)) (hl : l.length ≤ 1048576) :
    Calls Try.prog 27 #[v] w (RetOwnB w 3 1 (contraL l).length ((contraL l).flatMap encI) (goodR l)) := by
  obtain ⟨a, cap, rfl⟩ := hv.shape
  obtain ⟨w1, hw1⟩ : ∃ w1, w1 = w.alloc (.cells #[.slice a l.length cap] 27) := ⟨_, rfl⟩
  have E1 : Ext w w1 := by rw [hw1]; exact (Ext.refl w).alloc _
  have k1 : w1.cell? ⟨w.heap.size, 0, none⟩ = some (.slice a l.length cap) := by rw [hw1]; simp
  have hw1s : w.heap.size < w1.heap.size := block_lt_of_cell k1
  cases hg : goodR l
  case false =>
    have HN : Hid (contraL l = []) := (if_neg (by rw [hg]; exact Bool.false_ne_true) : contraL l = [])
    go_enter Try.func27, Try.ntmps27
    go_wp2_with fail
    rw [← hw1]
    refine (isSchedule_ok l _ _ (hv.mono E1) hl).mono ?_
    rintro e w2 ⟨rfl, E2⟩
    rw [hg]
    go_wp2
    go_ret2
    rw [HN.out]
    exact ⟨_, rfl, World.ownsRow_nil _ _ _ _, Ext.trans E1 E2⟩
  have HN : Hid (contraL l = (sIn l).filter fun s => !(!contraS l s)) := (if_pos hg : contraL l = (sIn l).filter fun s => !(!contraS l s))
  go_enter Try.func27, Try.ntmps27
  go_wp2_with fail
  rw [← hw1]
  refine (isSchedule_ok l _ _ (hv.mono E1) hl).mono ?_
  rintro e w2 ⟨rfl, E2⟩
  rw [hg]
  have k2 := E2.cell k1
  have E2' := Ext.trans E1 E2
  go_wp2_with fail
  refine (seriesIn_ok l _ _ (hv.mono E2') hl).mono ?_
  rintro e w3 ⟨v3, rfl, o3, E3⟩
  have k3 := E3.cell k2
  have hs2 : w.heap.size < w2.heap.size := block_lt_of_cell k2
  have HD := deleteFuncInt_ok w2.heap.size 62 #[.pointer (some ⟨w.heap.size, 0, none⟩)] (fun s => !contraS l s) (sIn l) v3 w3 enters_contra1 (fun x w' h => contra1_ok x l _ w.heap.size w' ((Below.cell (p := ⟨w.heap.size, 0, none⟩) h hs2).trans k3) ((hv.mono E2').mono (Below.trans E3 h : Ext w2 w')) hl) o3 (Nat.le_trans (sIn_length l) hl) E3.size
  go_wp2_with fail
  refine HD.mono ?_
  rintro e w4 ⟨v4, rfl, o4, B4⟩
  have E4 : Ext w w4 := Below.trans (Ext.trans E2' E3) (Below.mono B4 (by omega))
  go_wp2
  go_ret2
  rw [HN.out]
  exact ⟨_, rfl, owns_mono o4 (by omega), E4⟩
end Go.Proofs.Ytpmjjkhikciokaa
