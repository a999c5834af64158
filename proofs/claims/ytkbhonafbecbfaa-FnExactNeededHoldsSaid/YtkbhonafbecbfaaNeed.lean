/- What NeededHolds computes, the program's and the reference's; no condition beyond the lengths that are named. -/
import Derived.Test.YtkbhonafbecbfaaNeedData
import Derived.Test.YtkbhonafbecbfaaHoldOn2
import Derived.Test.YtkbhonafbecbfaaRecsL
import Derived.Test.YtkbhonafbecbfaaSlNRecord
import Derived.Test.YtkbhonafbecbfaaHasI
import Derived.Test.YtkbhonafbecbfaaPut
import Derived.Deep.RegionHeld3
namespace Go.Rd
open Go.RowKit Go.Sort
theorem reads_one {w : World} {g : Nat} {x : Int} (h : w.cell? ⟨g, 0, none⟩ = some (.int .i64 x)) : Reads w 1 (.slice (some ⟨g, 0, none⟩) 1 1) [x].length ([x].flatMap encI) := by
  refine ⟨rfl, _, _, rfl, .inr ⟨g, 0, rfl, fun i hi => ?_⟩⟩
  obtain rfl : i = 0 := by simp at hi; omega
  rw [Nat.zero_add, h]; rfl
end Go.Rd
namespace Go.Proofs.Ytkbhonafbecbfaa
open Go.RowKit Go.Sort Go.Rd
set_option maxHeartbeats 2000000 in
theorem equalInt_ok (la lb : List Int) (va vb : Value) (w : World) (ha : Reads w 1 va la.length (la.flatMap encI)) (hb : Reads w 1 vb lb.length (lb.flatMap encI)) (hl : la.length ≤ 1048576) :
    Calls Try.prog 89 #[va, vb] w fun e w' => e = .returned (.bool (decide (la = lb))) ∧ Ext w w' := by
  have mixed : Try.prog.follows .mixedOrders = true := by kernel_rfl
  obtain ⟨a, cap, rfl⟩ := ha.shape
  obtain ⟨b, cap', rfl⟩ := hb.shape
  by_cases hlen : la.length = lb.length
  case neg =>
    have HF := Lib.hid (show decide (la = lb) = false from decide_eq_false fun h => hlen (by rw [h]))
    have hne : ((la.length : Int) != (lb.length : Int)) = true := by simp; omega
    clear hlen
    go_enter Try.func89, Try.ntmps89
    go_wp2
    go_ret
    exact ⟨ret_bool HF.out.symm, Ext.refl _⟩
  have hne : ((la.length : Int) != (lb.length : Int)) = false := by simp; omega
  have HL := Lib.hid hlen
  obtain ⟨n, hn⟩ : ∃ n, lb.length = n := ⟨_, rfl⟩
  rw [hn] at hlen hne hb ⊢
  have HN := Lib.hid hn
  clear hn
  go_enter Try.func89, Try.ntmps89
  go_wp2
  go_loopw [13] (fun i wr => ∃ k : Nat, k ≤ la.length ∧ i = .int .i64 k ∧ Hid (la.take k = lb.take k) ∧ Ext w wr) (fun i _ => la.length - (intOf i).toNat)
  case atStart => exact ⟨0, Nat.zero_le _, rfl, Lib.hid rfl, Ext.refl _⟩
  case round =>
    obtain ⟨k, hk, rfl, HT, hE⟩ := hrel
    by_cases hlt : k < la.length
    · obtain ⟨b1, o1, rfl, hc1⟩ := Reads.elems encI_len (Reads.mono hE ha) (by omega)
      obtain ⟨b2, o2, rfl, hc2⟩ := Reads.elems encI_len (Reads.mono hE (by rw [← HN.out] at hb; exact hb)) (by have := HN.out; omega)
      obtain ⟨p, hp⟩ := get_of_lt hlt
      obtain ⟨q, hq⟩ := get_of_lt (show k < lb.length by have := HN.out; omega)
      have x0 := cell_in_class (hc1 k _ hp 0 _ rfl)
      have y0 := cell_in_class (hc2 k _ hq 0 _ rfl)
      simp only [Nat.add_zero, Nat.mul_one] at x0 y0
      have HP := Lib.hid hp
      have HQ := Lib.hid hq
      clear hc1 hc2 hp hq
      have n1 : (k : Int) < (la.length : Int) := by omega
      have n2 : (k : Int) < (n : Int) := by omega
      go_upto_region 6 with fail
      go_cut [24] (fun c wx => c = .bool (p != q) ∧ Ext wr wx)
      case first =>
        refine wp_region_quiet_below mixed (by kernel_rfl) ?_
        repeat (first | go_big_quiet_step (fail) | quiet_step (fail))
        refine wpQuiet_nil ?_
        intro _ hw'
        obtain ⟨⟨dq, osq⟩, hw''⟩ := hw'
        subst hw''
        clear x0 y0
        go_wp2
        go_meet
        exact ⟨rfl, (Ext.refl wr).regrown dq osq⟩
      case rest =>
      obtain ⟨rfl, E2⟩ := hcut
      have hE2 := Ext.trans hE E2
      cases hpq : (p != q)
      case true =>
        have HF : Hid (decide (la = lb) = false) := Lib.hid (decide_eq_false fun h => by
          subst h
          have := HP.out.symm.trans HQ.out
          simp only [Option.some.injEq] at this
          subst this
          simp at hpq)
        clear hpq
        go_wp2
        go_ret
        exact ⟨ret_bool HF.out.symm, hE2⟩
      have HT2 : Hid (la.take (k + 1) = lb.take (k + 1)) := Lib.hid (by
        rw [List.take_add_one, List.take_add_one, HT.out, HP.out, HQ.out]
        simp only [bne_eq_false_iff_eq] at hpq
        rw [hpq])
      clear hpq
      go_wp2
      go_roundw
      case rel => exact ⟨k + 1, by omega, by go_num, HT2, hE2⟩
      case measure => simp [intOf]; omega
    · have HF : Hid (decide (la = lb) = true) := Lib.hid (decide_eq_true (by
        have h := HT.out
        have h2 := HL.out
        rwa [List.take_of_length_le (by omega), List.take_of_length_le (by omega)] at h))
      go_wp2
      go_ret
      exact ⟨ret_bool HF.out.symm, hE⟩
set_option maxHeartbeats 4000000 in
theorem needed1_ok (l : List Hld) (r : Rec) (day id : Int) (v sv : Value) (g3 g5 g10 : Nat) (w : World) (hg : goodHs l = true) (hv : Hld.Rd w v l) (hr : Rec.At w (r, sv)) (hl : l.length ≤ 1048576) (hll : ∀ h ∈ l, h.ss.length ≤ 1048576)
    (c3 : w.cell? ⟨g3, 0, none⟩ = some v) (c5 : w.cell? ⟨g5, 0, none⟩ = some (.int .i64 day)) (c10 : w.cell? ⟨g10, 0, none⟩ = some (.int .i64 id)) :
    Calls Try.prog 88 #[.agg #[.int .i64 r.id, .int .i64 r.se, .int .i64 r.ma, sv], .pointer (some ⟨g3, 0, none⟩), .pointer (some ⟨g5, 0, none⟩), .pointer (some ⟨g10, 0, none⟩)] w fun e w' => e = .returned (.bool (decide (onL l r day = [id]))) ∧ Ext w w' := by
  obtain ⟨a2, cap2, hs⟩ := Reads.shape hr
  simp only at hs
  subst hs
  obtain ⟨av, capv, rfl⟩ := hv.shape
  have HLL := Lib.hid hll
  obtain ⟨w2, hw2⟩ : ∃ w2, w2 = w.alloc (.cells #[.int .i64 r.id, .int .i64 r.se, .int .i64 r.ma, .slice a2 r.evs.length cap2] 45) := ⟨_, rfl⟩
  have E2 : Ext w w2 := by rw [hw2]; exact (Ext.refl w).alloc _
  have k0 : w2.cell? ⟨w.heap.size, 0, none⟩ = some (.int .i64 r.id) := by rw [hw2]; simp
  have k1 : w2.cell? ⟨w.heap.size, 1, none⟩ = some (.int .i64 r.se) := by rw [hw2]; simp
  have k2 : w2.cell? ⟨w.heap.size, 2, none⟩ = some (.int .i64 r.ma) := by rw [hw2]; simp
  have k3 : w2.cell? ⟨w.heap.size, 3, none⟩ = some (.slice a2 r.evs.length cap2) := by rw [hw2]; simp
  have c3 := E2.cell c3
  have c5 := E2.cell c5
  have c10 := E2.cell c10
  have HS : Hid (∀ w', Ext w2 w' → (w'.cell? ⟨g3, 0, none⟩ = some (.slice av l.length capv) ∧ w'.cell? ⟨g5, 0, none⟩ = some (.int .i64 day) ∧ w'.cell? ⟨g10, 0, none⟩ = some (.int .i64 id) ∧ w'.cell? ⟨w.heap.size, 0, none⟩ = some (.int .i64 r.id) ∧ w'.cell? ⟨w.heap.size, 1, none⟩ = some (.int .i64 r.se) ∧ w'.cell? ⟨w.heap.size, 2, none⟩ = some (.int .i64 r.ma) ∧ w'.cell? ⟨w.heap.size, 3, none⟩ = some (.slice a2 r.evs.length cap2))) := Lib.hid fun w' hE => ⟨hE.cell c3, hE.cell c5, hE.cell c10, hE.cell k0, hE.cell k1, hE.cell k2, hE.cell k3⟩
  have hv2 := hv.mono E2
  have hr2 : Rec.At w2 (r, .slice a2 r.evs.length cap2) := Reads.mono E2 hr
  have HON := Lib.hid (Nat.le_trans (onL_length l r day) hl)
  clear hll hv hr
  go_enter Try.func88, Try.ntmps88
  go_upto_region 1 with fail
  rw [← hw2]
  clear hw2
  clear c3 c5 c10 k0 k1 k2 k3
  go_region_held3 (fun w' => w'.cell? ⟨g3, 0, none⟩ = some (.slice av l.length capv) ∧ w'.cell? ⟨g5, 0, none⟩ = some (.int .i64 day) ∧ w'.cell? ⟨g10, 0, none⟩ = some (.int .i64 id) ∧ w'.cell? ⟨w.heap.size, 0, none⟩ = some (.int .i64 r.id) ∧ w'.cell? ⟨w.heap.size, 1, none⟩ = some (.int .i64 r.se) ∧ w'.cell? ⟨w.heap.size, 2, none⟩ = some (.int .i64 r.ma) ∧ w'.cell? ⟨w.heap.size, 3, none⟩ = some (.slice a2 r.evs.length cap2)) (exact HS.out _ (by repeat' (first | exact Ext.refl _ | assumption | refine Ext.drew ?_ | refine Ext.alloc ?_ _))) (first
    | (go_at_call 90; refine (holdsOn_ok l r day _ _ _ hg ?_ ?_ hl HLL.out).mono ?_; (first | exact hv2 | exact hv2.mono ((Ext.refl w2).drew) | exact hv2.mono (((Ext.refl w2).alloc _).drew)); (first | exact hr2 | exact Reads.mono ((Ext.refl w2).drew) hr2 | exact Reads.mono (((Ext.refl w2).alloc _).drew) hr2); rintro e wq ⟨vq, rfl, oq, Fq0⟩; have Fq : Ext w2 wq := (by first | exact Fq0 | exact Ext.trans ((Ext.refl w2).drew) Fq0 | exact Ext.trans (((Ext.refl w2).alloc _).drew) Fq0); (try have bq := Fq0.cell (show ((w2.alloc (.cells #[.int .i64 id] 3)).drew).cell? ⟨w2.heap.size, 0, none⟩ = some (.int .i64 id) by simp)))
    | (go_at_call 89; refine (equalInt_ok (onL l r day) [id] _ _ _ ?_ ?_ HON.out).mono ?_; (first | exact Reads.of_owns oq | exact Reads.mono ((Ext.refl _).alloc _) (Reads.of_owns oq)); (first | exact reads_one bq | exact reads_one (by simp)); rintro e wr ⟨rfl, Fr⟩; have Fz : Ext w2 wr := (by first | exact Ext.trans Fq Fr | exact Ext.trans (Fq.alloc _) Fr)))
  all_goals (try go_wp2)
  all_goals go_ret
  all_goals exact ⟨rfl, Ext.trans E2 Fz⟩
end Go.Proofs.Ytkbhonafbecbfaa
