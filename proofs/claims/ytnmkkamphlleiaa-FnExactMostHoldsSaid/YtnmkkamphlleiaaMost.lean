/- What MostHolds computes; no condition beyond the lengths that are named. -/
import Derived.Test.YtnmkkamphlleiaaHoldOn2
import Derived.Test.YtnmkkamphlleiaaMostData
namespace Go.Proofs.Ytnmkkamphlleiaa
open Go.RowKit Go.Sort Go.Rd
set_option maxHeartbeats 4000000 in
theorem specMostHolds_ok (l : List Hld) (r : Rec) (v sv : Value) (w : World) (hv : Hld.Rd w v l) (hr : Rec.At w (r, sv)) (hl : l.length ≤ 1048576) (hll : ∀ h ∈ l, h.ss.length ≤ 1048576) (hrl : r.evs.length ≤ 1048576) :
    Calls Try.prog 27 #[v, .agg #[.int .i64 r.id, .int .i64 r.se, .int .i64 r.ma, sv]] w fun e w' => e = .returned (.tuple #[.int .i64 ((mostO l r).1 : Int), .int .i64 (mostO l r).2, .bool (decide (0 < (mostO l r).1))]) ∧ Ext w w' := by
  obtain ⟨a2, cap2, hs⟩ := Reads.shape hr
  simp only at hs
  subst hs
  obtain ⟨w2, hw2⟩ : ∃ w2, w2 = w.alloc (.cells #[.int .i64 r.id, .int .i64 r.se, .int .i64 r.ma, .slice a2 r.evs.length cap2] 41) := ⟨_, rfl⟩
  have E2 : Ext w w2 := by rw [hw2]; exact (Ext.refl w).alloc _
  have k0 : w2.cell? ⟨w.heap.size, 0, none⟩ = some (.int .i64 r.id) := by rw [hw2]; simp
  have k1 : w2.cell? ⟨w.heap.size, 1, none⟩ = some (.int .i64 r.se) := by rw [hw2]; simp
  have k2 : w2.cell? ⟨w.heap.size, 2, none⟩ = some (.int .i64 r.ma) := by rw [hw2]; simp
  have k3 : w2.cell? ⟨w.heap.size, 3, none⟩ = some (.slice a2 r.evs.length cap2) := by rw [hw2]; simp
  have HL := Lib.hid hll
  have HC := l9Asked_ok l r 0 v _ w2 (hv.mono E2) (Reads.mono E2 hr) hl hll hrl
  obtain ⟨a, cap, rfl⟩ := hv.shape
  obtain ⟨⟨M, F⟩, hres⟩ : ∃ z, mostO l r = z := ⟨_, rfl⟩
  have HY := Lib.hid (fun h => hres.symm.trans (mostO_yes (l := l) (r := r) h))
  have HN := Lib.hid (fun h => hres.symm.trans (mostO_no (l := l) (r := r) h))
  rw [hres]
  clear hll hres
  go_enter Try.func27, Try.ntmps27
  go_wp2_with fail
  rw [← hw2]
  clear hw2
  refine HC.mono ?_
  rintro e w3 ⟨rfl, E3⟩
  have E3' := Ext.trans E2 E3
  have k0 := E3.cell k0
  have k1 := E3.cell k1
  have k2 := E3.cell k2
  have k3 := E3.cell k3
  cases ho : askedH l r 0
  case false =>
    have h1 := HN.out ho
    obtain ⟨rfl, rfl⟩ : M = 0 ∧ F = 0 := by simpa using h1
    go_wp2
    go_ret3
    exact ⟨rfl, E3'⟩
  obtain ⟨hg, hrok, hd0, hd1⟩ := asked_parts ho
  have HR := Lib.hid (HY.out ho)
  have hlen := goodHs_len hg
  clear HY HN HC
  go_wp2
  go_loopw [7, 8, 9, 10, 11] (fun mv fv iv _ _ wr => ∃ (k m : Nat) (f : Int), k ≤ l.length ∧ iv = .int .i64 k ∧ mv = .int .i64 m ∧ fv = .int .i64 f ∧ Hid (mostF l r k = (m, f)) ∧ Ext w3 wr) (fun _ _ iv _ _ _ => l.length - (intOf iv).toNat)
  case atStart => exact ⟨0, 0, 0, Nat.zero_le _, rfl, rfl, rfl, Lib.hid rfl, Ext.refl _⟩
  case round =>
    obtain ⟨k, m, f, hk, rfl, rfl, rfl, HM, hE⟩ := hrel
    by_cases hlt : k < l.length
    · have hE' := Ext.trans E3' hE
      obtain ⟨h, hx⟩ := get_of_lt hlt
      obtain ⟨b, off, rfl⟩ := Hld.Rd.addr (hv.mono hE') (by omega)
      obtain ⟨ca, cc, c0, c1, c2, c3, c4, c5, hat⟩ := Hld.Rd.cells (hv.mono hE') hx
      have HSTEP := Lib.hid ((mostF_step (r := r) hx).trans (congrArg (fun s => mstep l r s h) HM.out))
      have HY1 := Lib.hid (@mstep_yes l r (m, f) h)
      have HN1 := Lib.hid (@mstep_no l r (m, f) h)
      have hml : m ≤ l.length := by have := mostF_len l r k hk; rw [HM.out] at this; exact this
      have j0 := hE.cell k0
      have j1 := hE.cell k1
      have j2 := hE.cell k2
      have j3 := hE.cell k3
      clear hx c0 c2 c3 c4 c5
      go_wp2_with fail
      refine (l9On_ok l r h.fr _ _ _ (hv.mono hE') (Reads.mono hE' hr) hl HL.out).mono ?_
      rintro e w4 ⟨v4, rfl, o4, E4⟩
      obtain ⟨a4, cap4, rfl⟩ := o4.shape
      have hE4 := Ext.trans hE E4
      have hnl := onL_length l r h.fr
      obtain ⟨n, hn⟩ : ∃ n, (onL l r h.fr).length = n := ⟨_, rfl⟩
      have HNN : Hid (cntH l r h.fr = n) := Lib.hid hn
      rw [hn] at hnl ⊢
      rw [HNN.out] at HY1 HN1
      clear hn o4 j0 j1 j2 j3 c1
      go_upto_region 9 with fail
      obtain ⟨q, hq⟩ : ∃ q, decide (m < n ∨ (n = m ∧ 0 < m ∧ h.fr < f)) = q := ⟨_, rfl⟩
      have HQ := Lib.hid hq
      clear hq
      go_cut [48] (fun c wx => c = .bool q ∧ wx = w4)
      case first =>
        by_cases t2 : n = m
        · subst t2
          by_cases t3 : (0 : Int) < (n : Int) <;> by_cases t4 : h.fr < f
          all_goals
            go_wp2
            all_goals
              go_meet
              refine ⟨congrArg Value.bool (Eq.trans ?_ HQ.out), rfl⟩
              first | exact (decide_eq_true (by omega)).symm | exact (decide_eq_false (by omega)).symm | (rw [Bool.eq_iff_iff]; simp only [decide_eq_true_eq]; first | omega | (simp; omega))
        · have t2' : ((n : Int) == (m : Int)) = false := beq_eq_false_iff_ne.2 (by omega)
          by_cases t1 : (m : Int) < (n : Int)
          all_goals
            go_wp2
            all_goals
              go_meet
              refine ⟨congrArg Value.bool (Eq.trans ?_ HQ.out), rfl⟩
              first | exact (decide_eq_true (by omega)).symm | exact (decide_eq_false (by omega)).symm | (rw [Bool.eq_iff_iff]; simp only [decide_eq_true_eq]; first | omega | (simp; omega))
      case rest =>
      obtain ⟨rfl, rfl⟩ := hcut
      cases q
      case true =>
        have HK := Lib.hid (HSTEP.out.trans (HY1.out (of_decide_eq_true HQ.out)))
        go_wp2
        go_roundw
        case rel => exact ⟨k + 1, n, h.fr, by omega, by go_num, rfl, rfl, HK, hE4⟩
        case measure => simp [intOf]; omega
      have HK := Lib.hid (HSTEP.out.trans (HN1.out (of_decide_eq_false HQ.out)))
      go_wp2
      go_roundw
      case rel => exact ⟨k + 1, m, f, by omega, by go_num, rfl, rfl, HK, hE4⟩
      case measure => simp [intOf]; omega
    · have HF : Hid ((M, F) = (m, f)) := Lib.hid (HR.out.trans (by rw [← show k = l.length by omega]; exact HM.out))
      obtain ⟨rfl, rfl⟩ : M = m ∧ F = f := by simpa using HF.out
      clear HF
      go_wp2
      go_ret3
      exact ⟨rfl, Ext.trans E3' hE⟩
set_option maxHeartbeats 4000000 in
theorem mostHolds_ok (l : List Hld) (r : Rec) (v sv : Value) (w : World) (hv : Hld.Rd w v l) (hr : Rec.At w (r, sv)) (hl : l.length ≤ 1048576) (hll : ∀ h ∈ l, h.ss.length ≤ 1048576) (hrl : r.evs.length ≤ 1048576) :
    Calls Try.prog 28 #[v, .agg #[.int .i64 r.id, .int .i64 r.se, .int .i64 r.ma, sv]] w fun e w' => e = .returned (.tuple #[.int .i64 ((mostO l r).1 : Int), .int .i64 (mostO l r).2, .bool (decide (0 < (mostO l r).1))]) ∧ Ext w w' := by
  obtain ⟨a2, cap2, hs⟩ := Reads.shape hr
  simp only at hs
  subst hs
  obtain ⟨w2, hw2⟩ : ∃ w2, w2 = w.alloc (.cells #[.int .i64 r.id, .int .i64 r.se, .int .i64 r.ma, .slice a2 r.evs.length cap2] 41) := ⟨_, rfl⟩
  have E2 : Ext w w2 := by rw [hw2]; exact (Ext.refl w).alloc _
  have k0 : w2.cell? ⟨w.heap.size, 0, none⟩ = some (.int .i64 r.id) := by rw [hw2]; simp
  have k1 : w2.cell? ⟨w.heap.size, 1, none⟩ = some (.int .i64 r.se) := by rw [hw2]; simp
  have k2 : w2.cell? ⟨w.heap.size, 2, none⟩ = some (.int .i64 r.ma) := by rw [hw2]; simp
  have k3 : w2.cell? ⟨w.heap.size, 3, none⟩ = some (.slice a2 r.evs.length cap2) := by rw [hw2]; simp
  have HL := Lib.hid hll
  have HC := areHeld_ok l r 0 v _ w2 (hv.mono E2) (Reads.mono E2 hr) hl hll hrl
  obtain ⟨a, cap, rfl⟩ := hv.shape
  obtain ⟨⟨M, F⟩, hres⟩ : ∃ z, mostO l r = z := ⟨_, rfl⟩
  have HY := Lib.hid (fun h => hres.symm.trans (mostO_yes (l := l) (r := r) h))
  have HN := Lib.hid (fun h => hres.symm.trans (mostO_no (l := l) (r := r) h))
  rw [hres]
  clear hll hres
  go_enter Try.func28, Try.ntmps28
  go_wp2_with fail
  rw [← hw2]
  clear hw2
  refine HC.mono ?_
  rintro e w3 ⟨rfl, E3⟩
  have E3' := Ext.trans E2 E3
  have k0 := E3.cell k0
  have k1 := E3.cell k1
  have k2 := E3.cell k2
  have k3 := E3.cell k3
  cases ho : askedH l r 0
  case false =>
    have h1 := HN.out ho
    obtain ⟨rfl, rfl⟩ : M = 0 ∧ F = 0 := by simpa using h1
    go_wp2
    go_ret3
    exact ⟨rfl, E3'⟩
  obtain ⟨hg, hrok, hd0, hd1⟩ := asked_parts ho
  have HR := Lib.hid (HY.out ho)
  have hlen := goodHs_len hg
  clear HY HN HC
  go_wp2
  go_loopw [7, 8, 9, 10, 15] (fun mv fv _ _ iv wr => ∃ (k : Int) (m : Nat) (f : Int), 0 ≤ k ∧ k ≤ 20001 ∧ iv = .int .i64 k ∧ mv = .int .i64 m ∧ fv = .int .i64 f ∧ Hid (MostP l r (fun e => 0 ≤ e ∧ e < k) m f) ∧ m ≤ 8 ∧ Ext w3 wr) (fun _ _ _ _ iv _ => (20001 - intOf iv).toNat)
  case atStart => exact ⟨0, 0, 0, Int.le_refl _, by omega, rfl, rfl, rfl, Lib.hid (MostP.none l r (fun e he => by omega)), Nat.zero_le _, Ext.refl _⟩
  case round =>
    obtain ⟨k, m, f, hk0, hk, rfl, rfl, rfl, HM, hm8, hE⟩ := hrel
    by_cases hlt : k < 20001
    · have hE' := Ext.trans E3' hE
      have HSTEP := Lib.hid (HM.out.step (S' := fun e => 0 ≤ e ∧ e < k + 1) (d := k) (fun e => by constructor <;> intro h <;> omega))
      have HFK : Hid (0 < m → f ≤ k) := Lib.hid (fun h0 => by
        rcases HM.out with h | h
        · omega
        · have := h.2.1; omega)
      have n4 : IntKind.i64.wrap (k + 1) = k + 1 := IntWalk.i64_in _ (by omega)
      have j0 := hE.cell k0
      have j1 := hE.cell k1
      have j2 := hE.cell k2
      have j3 := hE.cell k3
      go_wp2_with fail
      refine (holdsOn_ok l r k _ _ _ hg (hv.mono hE') (Reads.mono hE' hr) hl HL.out).mono ?_
      rintro e w4 ⟨v4, rfl, o4, E4⟩
      obtain ⟨a4, cap4, rfl⟩ := (Reads.of_owns o4).shape
      have hE4 := Ext.trans hE E4
      have hnl := onL_length l r k
      obtain ⟨n, hn⟩ : ∃ n, (onL l r k).length = n := ⟨_, rfl⟩
      have HNN : Hid (cntH l r k = n) := Lib.hid hn
      rw [hn] at hnl ⊢
      rw [HNN.out] at HSTEP
      clear hn o4 j0 j1 j2 j3
      by_cases hc : m < n
      · have hd : (m : Int) < (n : Int) := by omega
        have HK := Lib.hid (HSTEP.out.1 (.inl hc))
        go_wp2
        go_roundw
        case rel => exact ⟨k + 1, n, k, by omega, by omega, rfl, rfl, rfl, HK, by omega, hE4⟩
        case measure => simp [intOf]; omega
      · have hd : ¬ (m : Int) < (n : Int) := by omega
        have HK := Lib.hid (HSTEP.out.2 (by
          rintro (h | ⟨h1, h2, h3⟩)
          · omega
          · have := HFK.out h2; omega))
        go_wp2
        go_roundw
        case rel => exact ⟨k + 1, m, f, by omega, by omega, rfl, rfl, rfl, HK, by omega, hE4⟩
        case measure => simp [intOf]; omega
    · have HF : Hid ((M, F) = (m, f)) := Lib.hid (HR.out.trans (mostF_days (fun h hm => goodHs_mem hg hm) (by have := HM.out; rwa [show k = 20001 by omega] at this)))
      obtain ⟨rfl, rfl⟩ : M = m ∧ F = f := by simpa using HF.out
      clear HF
      go_wp2
      go_ret3
      exact ⟨rfl, Ext.trans E3' hE⟩
end Go.Proofs.Ytnmkkamphlleiaa
