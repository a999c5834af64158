/- slices.BinarySearchFunc at Version, and the comparison that PutVersion hands it; no condition beyond what is named. -/
import Derived.Test.YtankodjcccnjlaaCore
import Derived.Test.YtankodjcccnjlaaOwnX
import Derived.Test.YtankodjcccnjlaaNestEl
import Derived.WalkSpells
import Derived.Lib.SliceRun
import Derived.Deep.RegionHeld3
import Derived.Shelf.Abstract
namespace Go.Rd
theorem cmpI_neg {a b : Int} (h : a < b) : cmpI a b < 0 := by rw [cmpI_lt h]; decide
theorem cmpI_notneg {a b : Int} (h : ¬ a < b) : ¬ cmpI a b < 0 := by
  by_cases h2 : b < a
  · rw [cmpI_gt h2]; decide
  · rw [cmpI_eq (by omega)]; decide
theorem cmpI_zero {a b : Int} (h : a = b) : cmpI a b = 0 := cmpI_eq h
theorem cmpI_notzero {a b : Int} (h : ¬ a = b) : ¬ cmpI a b = 0 := by
  by_cases h2 : b < a
  · rw [cmpI_gt h2]; decide
  · rw [cmpI_lt (by omega)]; decide
end Go.Rd
namespace Go.Proofs.Ytankodjcccnjlaa
open Go.RowKit Go.Sort Go.Rd
set_option maxHeartbeats 1000000 in
theorem putC_ok (x y : Ver) (sv tv : Value) (w : World) (hat : Ver.At w (x, sv)) (hat2 : Ver.At w (y, tv)) :
    Calls Try.prog 23 #[.agg #[.int .i64 x.fr, sv], .agg #[.int .i64 y.fr, tv]] w fun e w' => e = .returned (.int .i64 (cmpI x.fr y.fr)) ∧ Ext w w' := by
  obtain ⟨p1, p2⟩ := x
  obtain ⟨q1, q2⟩ := y
  obtain ⟨a, c, hs⟩ := Reads.shape hat
  obtain ⟨a2, c2, hs2⟩ := Reads.shape hat2
  simp only at hs hs2
  subst hs hs2
  clear hat hat2
  go_enter Try.func23, Try.ntmps23
  go_wp2_with fail
  refine (compare_ok p1 q1 _).mono ?_
  rintro e w2 ⟨rfl, rfl⟩
  go_wp2
  go_ret
  exact ⟨rfl, ((Ext.refl _).alloc _).alloc _⟩
theorem enters_putC : ∀ args w, (callFunc 23 args).run Try.prog w = .ok (.enter 23 args) w := enters_of Try.func23 (by kernel_rfl) rfl
set_option maxHeartbeats 4000000 in
theorem searchVersion_ok (f : FuncId) (l : List Ver) (r : Ver) (v tv : Value) (w : World) (hent : ∀ args w, (callFunc f args).run Try.prog w = .ok (.enter f args) w)
    (hp : ∀ (x : Ver) (sv : Value) (w' : World), Ver.At w' (x, sv) → Ext w w' → Calls Try.prog f #[.agg #[.int .i64 x.fr, sv], .agg #[.int .i64 r.fr, tv]] w' fun e w'' => e = .returned (.int .i64 (cmpI x.fr r.fr)) ∧ Ext w' w'')
    (hv : Ver.Rd w v l) (hat : Ver.At w (r, tv)) (hl : l.length ≤ 1048576) (hasc : ∀ (i j : Nat) (x y : Ver), i < j → l[i]? = some x → l[j]? = some y → x.fr < y.fr) :
    Calls Try.prog 22 #[v, .agg #[.int .i64 r.fr, tv], .func (.func f) #[] #[]] w fun e w' => ∃ k : Nat, e = .returned (.tuple #[.int .i64 k, .bool ((l[k]?).any fun x => x.fr == r.fr)]) ∧ k ≤ l.length ∧ (∀ (j : Nat) x, j < k → l[j]? = some x → x.fr < r.fr) ∧ (∀ (j : Nat) x, k ≤ j → l[j]? = some x → r.fr ≤ x.fr) ∧ Ext w w' := by
  have mixed : Try.prog.follows .mixedOrders = true := by kernel_rfl
  obtain ⟨a, cap, rfl⟩ := hv.shape
  obtain ⟨ta, tc, hts⟩ := Reads.shape hat
  simp only at hts
  subst hts
  obtain ⟨wB, hwB⟩ : ∃ x, x = w.alloc (.cells #[.int .i64 r.fr, .slice ta r.rs.length tc] 34) := ⟨_, rfl⟩
  have EB : Ext w wB := by rw [hwB]; exact (Ext.refl w).alloc _
  have HB : Hid (Box wB w.heap.size 34 [.int .i64 r.fr, .slice ta r.rs.length tc]) := Lib.hid (Box.of_new hwB rfl)
  have HP := Lib.hid hp
  have HV := Lib.hid hv
  have HASC := Lib.hid hasc
  clear hp hv hasc hat
  go_enter Try.func22, Try.ntmps22
  go_upto_region 1 with fail
  rw [← hwB]
  clear hwB
  go_wp2
  go_loopw [9, 10] (fun s9 s10 wr => ∃ lo hi : Nat, s9 = .int .i64 lo ∧ s10 = .int .i64 hi ∧ lo ≤ hi ∧ hi ≤ l.length ∧ Hid (∀ (j : Nat) x, j < lo → l[j]? = some x → x.fr < r.fr) ∧ Hid (∀ (j : Nat) x, hi ≤ j → l[j]? = some x → r.fr ≤ x.fr) ∧ Ext wB wr) (fun s9 s10 _ => (intOf s10).toNat - (intOf s9).toNat)
  case atStart => exact ⟨0, l.length, rfl, rfl, Nat.zero_le _, Nat.le_refl _, Lib.hid fun j x h => by omega, Lib.hid fun j x h hx => by have := (List.getElem?_eq_some_iff.1 hx).1; omega, Ext.refl _⟩
  case round =>
    obtain ⟨lo, hi, rfl, rfl, hlh, hin, HLO, HHI, hE⟩ := hrel
    by_cases hlt : lo < hi
    · obtain ⟨m, hm⟩ : ∃ m, (lo + hi) / 2 = m := ⟨_, rfl⟩
      have hml : lo ≤ m := by omega
      have hmh : m < hi := by omega
      obtain ⟨x, hx⟩ := get_of_lt (show m < l.length by omega)
      have hv1 := HV.out.mono (Ext.trans EB hE)
      obtain ⟨b, off, rfl⟩ := Ver.Rd.addr hv1 (by omega)
      obtain ⟨ca, cc, c0, c1, hatx⟩ := Ver.Rd.cells hv1 hx
      have hm2 : ((lo : Int) + (hi : Int)) / 2 = (m : Int) := by omega
      have HX := Lib.hid hx
      have n0 : (0 : Int) ≤ (m : Int) := by omega
      have n1 : (m : Int) < (l.length : Int) := by omega
      obtain ⟨c, hc⟩ : ∃ c, cmpI x.fr r.fr = c := ⟨_, rfl⟩
      have HC : Hid (∀ w', Ext wr w' → Calls Try.prog f #[.agg #[.int .i64 x.fr, .slice ca x.rs.length cc], .agg #[.int .i64 r.fr, .slice ta r.rs.length tc]] w' fun e w'' => e = .returned (.int .i64 c) ∧ Ext w' w'') := Lib.hid fun w' h => hc ▸ HP.out x _ w' (hatx.mono h) (Ext.trans (Ext.trans EB hE) h)
      have HS : Hid (∀ w', Ext wr w' → w'.cell? ⟨b, off + m * 2, none⟩ = some (.int .i64 x.fr) ∧ w'.cell? ⟨b, off + m * 2 + 1, none⟩ = some (.slice ca x.rs.length cc) ∧ w'.cell? ⟨w.heap.size, 0, none⟩ = some (.int .i64 r.fr) ∧ w'.cell? ⟨w.heap.size, 1, none⟩ = some (.slice ta r.rs.length tc)) := Lib.hid fun w' h => by
        have B := Box.ext (Ext.trans hE h) HB.out
        exact ⟨h.cell c0, h.cell c1, B.cell 0 rfl, B.cell 1 rfl⟩
      clear hx hv1 hatx c0 c1
      go_upto_region 5 with fail
      go_region_held3 (fun w' => w'.cell? ⟨b, off + m * 2, none⟩ = some (.int .i64 x.fr) ∧ w'.cell? ⟨b, off + m * 2 + 1, none⟩ = some (.slice ca x.rs.length cc) ∧ w'.cell? ⟨w.heap.size, 0, none⟩ = some (.int .i64 r.fr) ∧ w'.cell? ⟨w.heap.size, 1, none⟩ = some (.slice ta r.rs.length tc)) (exact HS.out _ (by (repeat' (first | with_reducible exact Ext.refl _ | with_reducible assumption | with_reducible apply Ext.drew)); done)) (first
        | (refine (HC.out _ (by (repeat' (first | with_reducible exact Ext.refl _ | with_reducible assumption | with_reducible apply Ext.drew)); done)).mono ?_; rintro e w2 ⟨rfl, E2⟩; have E3 := Ext.trans ((Ext.refl wr).drew) E2))
      have hE3 := Ext.trans hE E3
      by_cases hq : x.fr < r.fr
      · have hc1 : c < 0 := by rw [← hc]; exact cmpI_neg hq
        have HLO2 : Hid (∀ (j : Nat) y, j < m + 1 → l[j]? = some y → y.fr < r.fr) := Lib.hid fun j y hj hy => by
          by_cases hjm : j = m
          · subst hjm; have := hy.symm.trans HX.out; simp only [Option.some.injEq] at this; rw [this]; exact hq
          · have := HASC.out j m y x (by omega) hy HX.out; omega
        clear hc HC HS
        go_wp2
        go_roundw
        case rel => exact ⟨m + 1, hi, by go_num, rfl, by omega, hin, HLO2, HHI, hE3⟩
        case measure => simp [intOf]; omega
      · have hc1 : ¬ c < 0 := by rw [← hc]; exact cmpI_notneg hq
        have HHI2 : Hid (∀ (j : Nat) y, m ≤ j → l[j]? = some y → r.fr ≤ y.fr) := Lib.hid fun j y hj hy => by
          by_cases hjm : j = m
          · subst hjm; have := hy.symm.trans HX.out; simp only [Option.some.injEq] at this; rw [this]; omega
          · have := HASC.out m j x y (by omega) HX.out hy; omega
        clear hc HC HS
        go_wp2
        go_roundw
        case rel => exact ⟨lo, m, rfl, rfl, hml, by omega, HLO, HHI2, hE3⟩
        case measure => simp [intOf]; omega
    · obtain rfl : hi = lo := by omega
      by_cases hn : hi < l.length
      case neg =>
        have HN : Hid (l[hi]? = none) := Lib.hid (List.getElem?_eq_none (by omega))
        go_upto_region 8 with fail
        refine wp_region_quiet_below mixed (by kernel_rfl) ?_
        repeat (first | go_big_quiet_step (fail) | quiet_step (fail))
        refine wpQuiet_nil ?_
        intro _ hw'
        obtain ⟨⟨dq, osq⟩, hw''⟩ := hw'
        subst hw''
        go_wp2
        go_ret2
        refine ⟨hi, ?_, hin, HLO.out, HHI.out, Ext.trans EB (hE.regrown dq osq)⟩
        rw [HN.out]; rfl
      obtain ⟨x, hx⟩ := get_of_lt hn
      have hv1 := HV.out.mono (Ext.trans EB hE)
      obtain ⟨b, off, rfl⟩ := Ver.Rd.addr hv1 (by omega)
      obtain ⟨ca, cc, c0, c1, hatx⟩ := Ver.Rd.cells hv1 hx
      have n0 : (0 : Int) ≤ (hi : Int) := by omega
      have n1 : (hi : Int) < (l.length : Int) := by omega
      have HX := Lib.hid hx
      obtain ⟨c, hc⟩ : ∃ c, cmpI x.fr r.fr = c := ⟨_, rfl⟩
      have HC : Hid (∀ w', Ext wr w' → Calls Try.prog f #[.agg #[.int .i64 x.fr, .slice ca x.rs.length cc], .agg #[.int .i64 r.fr, .slice ta r.rs.length tc]] w' fun e w'' => e = .returned (.int .i64 c) ∧ Ext w' w'') := Lib.hid fun w' h => hc ▸ HP.out x _ w' (hatx.mono h) (Ext.trans (Ext.trans EB hE) h)
      have HS : Hid (∀ w', Ext wr w' → w'.cell? ⟨b, off + hi * 2, none⟩ = some (.int .i64 x.fr) ∧ w'.cell? ⟨b, off + hi * 2 + 1, none⟩ = some (.slice ca x.rs.length cc) ∧ w'.cell? ⟨w.heap.size, 0, none⟩ = some (.int .i64 r.fr) ∧ w'.cell? ⟨w.heap.size, 1, none⟩ = some (.slice ta r.rs.length tc)) := Lib.hid fun w' h => by
        have B := Box.ext (Ext.trans hE h) HB.out
        exact ⟨h.cell c0, h.cell c1, B.cell 0 rfl, B.cell 1 rfl⟩
      have HF : Hid (((l[hi]?).any fun x => x.fr == r.fr) = (c == 0)) := Lib.hid (by
        rw [hx, Option.any_some, ← hc]
        by_cases hq : x.fr = r.fr
        · rw [cmpI_zero hq, hq, beq_self_eq_true, beq_self_eq_true]
        · rw [beq_eq_false_iff_ne.2 hq, beq_eq_false_iff_ne.2 (cmpI_notzero hq)])
      clear hx hv1 hatx c0 c1 hc
      go_upto_region 8 with fail
      go_region_held3 (fun w' => w'.cell? ⟨b, off + hi * 2, none⟩ = some (.int .i64 x.fr) ∧ w'.cell? ⟨b, off + hi * 2 + 1, none⟩ = some (.slice ca x.rs.length cc) ∧ w'.cell? ⟨w.heap.size, 0, none⟩ = some (.int .i64 r.fr) ∧ w'.cell? ⟨w.heap.size, 1, none⟩ = some (.slice ta r.rs.length tc)) (exact HS.out _ (by (repeat' (first | with_reducible exact Ext.refl _ | with_reducible assumption | with_reducible apply Ext.drew)); done)) (first
        | (refine (HC.out _ (by (repeat' (first | with_reducible exact Ext.refl _ | with_reducible assumption | with_reducible apply Ext.drew)); done)).mono ?_; rintro e w2 ⟨rfl, E2⟩; have E3 := Ext.trans ((Ext.refl wr).drew) E2))
      have hE3 := Ext.trans (Ext.trans EB hE) E3
      go_wp2
      go_ret2
      refine ⟨hi, ?_, hin, HLO.out, HHI.out, hE3⟩
      rw [HF.out]; rfl
end Go.Proofs.Ytankodjcccnjlaa
