/- What the place of a format and the tests of lists of formats compute; no condition beyond the lengths that are named. -/
import Derived.Test.YtefabcnifbnehaaDoorFmtGood
import Derived.Test.YtefabcnifbnehaaDoorSlNFormat
import Derived.Test.YtefabcnifbnehaaDoorWord
import Derived.Test.YtefabcnifbnehaaDoorDays
import Derived.Test.YtefabcnifbnehaaDoorHasI
import Derived.Test.YtefabcnifbnehaaDoorRise
namespace Go.Proofs.YtefabcnifbnehaaDoor
open Go.RowKit Go.Sort Go.Rd
set_option maxHeartbeats 1000000 in
theorem l7Find_ok (l : List Fmt) (id : Int) (v : Value) (w : World) (hv : Fmt.Rd w v l) (hl : l.length ≤ 1048576) :
    Calls Tryd.prog 45 #[v, .int .i64 id] w fun e w' => e = .returned (.int .i64 (atF l id)) ∧ Ext w w' := by
  obtain ⟨a, cap, rfl⟩ := hv.shape
  go_enter Tryd.func45, Tryd.ntmps45
  go_wp2
  go_loopw [5] (fun i wr => ∃ k : Nat, k ≤ l.length ∧ i = .int .i64 k ∧ Hid (∀ j x, j < k → l[j]? = some x → (x.id == id) = false) ∧ wr = w) (fun i _ => l.length - (intOf i).toNat)
  case atStart => exact ⟨0, Nat.zero_le _, rfl, Lib.hid fun j x h => by omega, rfl⟩
  case round =>
    obtain ⟨k, hk, rfl, HALL, rfl⟩ := hrel
    by_cases hlt : k < l.length
    · obtain ⟨x, hx⟩ := get_of_lt hlt
      obtain ⟨b, off, rfl⟩ := Fmt.Rd.addr hv (by omega)
      obtain ⟨ca, cc, c0, c1, c2, c3, hat⟩ := Fmt.Rd.cells hv hx
      have HX := Lib.hid hx
      clear hx hv hat
      cases hp : (x.id == id)
      case false =>
        go_wp2
        go_roundw
        case rel =>
          refine ⟨k + 1, by omega, by go_num, Lib.hid fun j y hj hy => ?_, (by first | rfl | trivial)⟩
          by_cases hjk : j < k
          · exact HALL.out j y hjk hy
          · have : j = k := by omega
            subst this
            have := hy.symm.trans HX.out
            simp only [Option.some.injEq] at this
            rw [this]; exact hp
        case measure => simp [intOf]; omega
      case true =>
        have HR := Lib.hid (show atF l id = k from idxOf_at (p := fun x : Fmt => x.id == id) HX.out hp HALL.out)
        go_wp2
        go_ret
        exact ⟨ret_int HR.out.symm, Ext.refl _⟩
    · have HR := Lib.hid (show atF l id = -1 from idxOf_none (p := fun x : Fmt => x.id == id) (l := l) fun j y hy => HALL.out j y (by have := (List.getElem?_eq_some_iff.1 hy).1; omega) hy)
      go_wp2
      go_ret
      exact ⟨ret_int HR.out.symm, Ext.refl _⟩
set_option maxHeartbeats 400000 in
theorem formatAt1_ok (x : Fmt) (sv : Value) (id : Int) (b : Nat) (w : World) (hc : w.cell? ⟨b, 0, none⟩ = some (.int .i64 id)) :
    Calls Tryd.prog 79 #[.agg #[.int .i64 x.id, .string ⟨x.na.toArray⟩, .int .i64 x.un, sv], .pointer (some ⟨b, 0, none⟩)] w fun e w' => e = .returned (.bool (x.id == id)) ∧ Ext w w' := by
  have hb := block_lt_of_cell hc
  have hne : b ≠ w.heap.size := by have : b < w.heap.size := hb; omega
  have hc2 := cell_alloc hc
  go_enter Tryd.func79, Tryd.ntmps79
  go_wp2
  go_ret
  exact ⟨rfl, (Ext.refl _).alloc _⟩
theorem enters_formatAt1 : ∀ args w, (callFunc 79 args).run Tryd.prog w = .ok (.enter 79 args) w := enters_of Tryd.func79 (by kernel_rfl) rfl
set_option maxHeartbeats 1000000 in
theorem formatAt_ok (l : List Fmt) (id : Int) (v : Value) (w : World) (hv : Fmt.Rd w v l) (hl : l.length ≤ 1048576) :
    Calls Tryd.prog 49 #[v, .int .i64 id] w fun e w' => e = .returned (.int .i64 (atF l id)) ∧ Ext w w' := by
  obtain ⟨w2, hw2⟩ : ∃ w2, w2 = w.alloc (.cells #[.int .i64 id] 3) := ⟨_, rfl⟩
  have E2 : Ext w w2 := by rw [hw2]; exact (Ext.refl w).alloc _
  have k1 : w2.cell? ⟨w.heap.size, 0, none⟩ = some (.int .i64 id) := by rw [hw2]; simp
  have HC := indexFuncFormat_ok 79 #[.pointer (some ⟨w.heap.size, 0, none⟩)] (fun x => x.id == id) l v w2 enters_formatAt1 (fun x sv w' _ ha h => by
    obtain ⟨sa, sc, hs⟩ := Reads.shape ha
    simp only at hs
    subst hs
    exact formatAt1_ok x _ id _ w' (h.cell k1)) (hv.mono E2) hl
  change Calls _ _ _ _ (fun e w' => e = .returned (.int .i64 (atF l id)) ∧ _) at HC
  go_enter Tryd.func49, Tryd.ntmps49
  go_wp2_with fail
  rw [← hw2]
  refine HC.mono ?_
  rintro e w3 ⟨rfl, E3⟩
  go_wp2
  go_ret
  exact ⟨rfl, Ext.trans E2 E3⟩
set_option maxHeartbeats 4000000 in
theorem areReads_ok (l : List Fmt) (x : Fmt) (v sv : Value) (w : World) (hv : Fmt.Rd w v l) (hx : Fmt.At w (x, sv)) (hl : l.length ≤ 1048576) (hll : x.rd.length ≤ 1048576) :
    Calls Tryd.prog 58 #[v, .agg #[.int .i64 x.id, .string ⟨x.na.toArray⟩, .int .i64 x.un, sv]] w fun e w' => e = .returned (.bool (rdI l x)) ∧ Ext w w' := by
  obtain ⟨a, cap, hs⟩ := Reads.shape hx
  simp only at hs
  subst hs
  obtain ⟨w2, hw2⟩ : ∃ w2, w2 = w.alloc (.cells #[.int .i64 x.id, .string ⟨x.na.toArray⟩, .int .i64 x.un, .slice a x.rd.length cap] 60) := ⟨_, rfl⟩
  have E2 : Ext w w2 := by rw [hw2]; exact (Ext.refl w).alloc _
  have k0 : w2.cell? ⟨w.heap.size, 0, none⟩ = some (.int .i64 x.id) := by rw [hw2]; simp
  have k3 : w2.cell? ⟨w.heap.size, 3, none⟩ = some (.slice a x.rd.length cap) := by rw [hw2]; simp
  obtain ⟨res, hres⟩ : ∃ b, rdI l x = b := ⟨_, rfl⟩
  have HRES := Lib.hid hres
  rw [hres]
  clear hres
  go_enter Tryd.func58, Tryd.ntmps58
  go_upto_region 1 with fail
  rw [← hw2]
  clear hw2
  go_wp2
  go_loopw [10] (fun i wr => ∃ k : Nat, k ≤ x.rd.length ∧ i = .int .i64 k ∧ Hid (∀ j, j < k → AscAt (okY l x) ltY x.rd j) ∧ Ext w2 wr) (fun i _ => x.rd.length - (intOf i).toNat)
  case atStart => exact ⟨0, Nat.zero_le _, rfl, Lib.hid fun j h => by omega, Ext.refl _⟩
  case round =>
    obtain ⟨k, hk, rfl, HALL, hE⟩ := hrel
    have hE' := Ext.trans E2 hE
    have k0 := hE.cell k0
    have k3 := hE.cell k3
    by_cases hlt : k < x.rd.length
    · have hv1 := Reads.mono hE' hx
      obtain ⟨b, off, rfl, hc⟩ := Reads.elems (l := x.rd) encI_len hv1 (by omega)
      obtain ⟨p, hp⟩ := get_of_lt hlt
      have c0 := hc k _ hp 0 _ rfl
      simp only [Nat.add_zero, Nat.mul_one] at c0
      obtain ⟨q, hy⟩ : ∃ y, 0 < k → x.rd[k - 1]? = some y := by
        by_cases h0 : 0 < k
        · obtain ⟨y, hy⟩ := get_of_lt (show k - 1 < x.rd.length by omega); exact ⟨y, fun _ => hy⟩
        · exact ⟨default, fun h => absurd h h0⟩
      have HA := Lib.hid (ascAt_iff (ok := okY l x) (lt := ltY) hp hy)
      have HC := Lib.hid hc
      have HY := Lib.hid hy
      have HBAD : Hid (¬ (okY l x p = true ∧ (0 < k → ltY q p = true)) → res = false) := Lib.hid fun h => by
        rw [← HRES.out, rdI, ascB_false hlt (fun h' => h (HA.out.1 h'))]; rfl
      clear hc hp hy hv1
      cases t1 : (p == x.id)
      case true =>
        have HF : Hid (res = false) := Lib.hid (HBAD.out fun h => by have := h.1; simp [okY, t1] at this)
        go_wp2
        go_ret
        exact ⟨ret_bool HF.out.symm, hE'⟩
      go_wp2_with fail
      refine (formatAt_ok l p _ _ (hv.mono hE') hl).mono ?_
      rintro e w4 ⟨rfl, E4⟩
      have hE4 := Ext.trans hE' E4
      have hE24 := Ext.trans hE E4
      have k0 := E4.cell k0
      have k3 := E4.cell k3
      obtain ⟨m, hm⟩ : ∃ m, atF l p = m := ⟨_, rfl⟩
      have HM := Lib.hid hm
      rw [hm]
      clear hm
      by_cases t2 : m < 0
      case pos =>
        have HF : Hid (res = false) := Lib.hid (HBAD.out fun h => by
          have := h.1
          simp only [okY, Bool.and_eq_true, decide_eq_true_eq, HM.out] at this
          omega)
        go_wp2
        go_ret
        exact ⟨ret_bool HF.out.symm, hE4⟩
      have HOK : Hid (okY l x p = true) := Lib.hid (by unfold okY; rw [t1, HM.out, decide_eq_true (by omega : 0 ≤ m)]; rfl)
      by_cases hk0 : 0 < k
      case neg =>
        have hd : decide (0 < (k : Int)) = false := by simp; omega
        have HG := Lib.hid (HA.out.2 ⟨HOK.out, fun h => absurd h hk0⟩)
        go_wp2
        go_roundw
        case rel => exact ⟨k + 1, by omega, by go_num, Lib.hid (ascAt_step HALL.out HG.out), hE24⟩
        case measure => simp [intOf]; omega
      have hd : decide (0 < (k : Int)) = true := by simp; omega
      have y0 := E4.cell (HC.out (k - 1) _ (HY.out hk0) 0 _ rfl)
      simp only [Nat.add_zero, Nat.mul_one] at y0
      have n1 : (k : Int) - 1 < (x.rd.length : Int) := by omega
      have n2 : (1 : Int) ≤ (k : Int) := by omega
      have n3 : (0 : Int) ≤ (k : Int) - 1 := by omega
      have n4 : IntKind.i64.wrap ((k : Int) - 1) = (k : Int) - 1 := IntWalk.i64_in _ (by omega)
      have n5 : ((k : Int) - 1).toNat = k - 1 := by omega
      by_cases t3 : p ≤ q
      case pos =>
        have HF : Hid (res = false) := Lib.hid (HBAD.out fun h => by have : q < p := of_decide_eq_true (h.2 hk0); omega)
        go_wp2
        go_ret
        exact ⟨ret_bool HF.out.symm, hE4⟩
      have HG := Lib.hid (HA.out.2 ⟨HOK.out, fun _ => decide_eq_true (by omega)⟩)
      go_wp2
      go_roundw
      case rel => exact ⟨k + 1, by omega, by go_num, Lib.hid (ascAt_step HALL.out HG.out), hE24⟩
      case measure => simp [intOf]; omega
    · have HG : Hid (res = decide (x.rd.length ≤ 10)) := Lib.hid (by rw [← HRES.out, rdI, ascB_true (fun i hi => HALL.out i (by omega)), Bool.true_and])
      go_wp2
      go_ret
      exact ⟨ret_bool (by rw [HG.out]; exact decide_eq_decide.2 (by omega)), hE'⟩
end Go.Proofs.YtefabcnifbnehaaDoor
