/- What the tests of lists of holds compute; no condition beyond the lengths that are named. -/
import Derived.Test.YtkbhonafbecbfaaHolds
namespace Go.Proofs.Ytkbhonafbecbfaa
open Go.RowKit Go.Sort Go.Rd
set_option maxHeartbeats 2000000 in
theorem l9Good_ok (l0 : List Hld) (v : Value) (w : World) (hv : Hld.Rd w v l0) (hl : l0.length ≤ 1048576) (hll : ∀ p ∈ l0, p.ss.length ≤ 1048576) :
    Calls Try.prog 52 #[v] w fun e w' => e = .returned (.bool (goodHs l0)) ∧ Ext w w' := by
  have mixed : Try.prog.follows .mixedOrders = true := by kernel_rfl
  obtain ⟨pl, hpl, hv, hat⟩ := hv
  have hlen : l0.length = pl.length := by rw [← hpl]; simp
  have HPL := Lib.hid hpl
  have HAT := Lib.hid hat
  have HLL := Lib.hid hll
  obtain ⟨res, hres⟩ : ∃ b, goodHs l0 = b := ⟨_, rfl⟩
  rw [hres]
  have HRES := Lib.hid hres
  rw [hlen] at hl
  have HLEN := Lib.hid hlen
  clear hres hpl hat hll hlen
  obtain ⟨a, cap, rfl⟩ := hv.shape
  go_enter Try.func52, Try.ntmps52
  go_wp2
  go_loopw [3] (fun i wr => ∃ k : Nat, k ≤ pl.length ∧ i = .int .i64 k ∧ Hid (∀ i, i < k → AscAt okH ltH l0 i) ∧ Ext w wr) (fun i _ => pl.length - (intOf i).toNat)
  case atStart => exact ⟨0, Nat.zero_le _, rfl, Lib.hid fun i h => by omega, Ext.refl _⟩
  case round =>
    obtain ⟨k, hk, rfl, HALL, hE⟩ := hrel
    by_cases hlt : k < pl.length
    · have hv1 := hv.mono hE
      obtain ⟨b, off, rfl, hc⟩ := Reads.elems Hld.enc_len hv1 (by omega)
      obtain ⟨⟨p, sv⟩, hx⟩ := get_of_lt hlt
      have hx0 : l0[k]? = some p := by rw [← HPL.out, List.getElem?_map, hx]; rfl
      obtain ⟨⟨q, sq⟩, hy⟩ : ∃ y, 0 < k → pl[k - 1]? = some y := by
        by_cases h0 : 0 < k
        · obtain ⟨y, hy⟩ := get_of_lt (show k - 1 < pl.length by omega); exact ⟨y, fun _ => hy⟩
        · exact ⟨(default, .int .i64 0), fun h => absurd h h0⟩
      have hy0 : 0 < k → l0[k - 1]? = some q := fun h => by rw [← HPL.out, List.getElem?_map, hy h]; rfl
      have HA := Lib.hid (ascAt_iff (ok := okH) (lt := ltH) hx0 hy0)
      have hmem := List.mem_of_getElem? hx
      have hatp := (HAT.out _ hmem).mono hE
      have hlp := HLL.out p (List.mem_of_getElem? hx0)
      rcases p with ⟨p0, p1, p2, e, p4, p5⟩
      obtain ⟨ca, capa, hst⟩ := Reads.shape hatp
      simp only at hst hlp
      subst hst
      have c0 := hc k _ hx 0 _ rfl
      have c1 := hc k _ hx 1 _ rfl
      have c2 := hc k _ hx 2 _ rfl
      have c3 := hc k _ hx 3 _ rfl
      have c4 := hc k _ hx 4 _ rfl
      have c5 := hc k _ hx 5 _ rfl
      simp only [Nat.add_zero] at c0
      have HC := Lib.hid hc
      have HY := Lib.hid hy
      clear hc hx hy hx0 hy0 hmem hv1 hv
      go_upto_region 4 with fail
      go_cut [33] (fun c wx => c = .bool (!okH ⟨p0, p1, p2, e, p4, p5⟩ || (decide (0 < k) && !ltH q ⟨p0, p1, p2, e, p4, p5⟩)) ∧ Ext wr wx)
      case first =>
        have hRb : Ext wr wr := Ext.refl _
        have x0 := cell_in_class c0
        have x1 := cell_in_class c1
        have x2 := cell_in_class c2
        have x3 := cell_in_class c3
        have x4 := cell_in_class c4
        have x5 := cell_in_class c5
        have cO := Calls.in_class (w := wr) (fun w' hw' => l9One_ok ⟨p0, p1, p2, e, p4, p5⟩ _ w' (hatp.mono (Ext.trans hRb hw')) hlp)
        clear c0 c1 c2 c3 c4 c5
        cases hok : okH ⟨p0, p1, p2, e, p4, p5⟩
        case false =>
          rw [hok] at cO
          refine wp_region_quiet_below mixed (by kernel_rfl) ?_
          repeat (first | go_big_quiet_step (exact cO _ _) | quiet_step (exact cO _ _))
          refine wpQuiet_nil ?_
          intro _ hw'
          obtain ⟨⟨dq, osq⟩, hw''⟩ := hw'
          subst hw''
          clear cO x0 x1 x2 x3 x4 x5
          go_wp2
          go_meet
          exact ⟨congrArg Value.bool (by rw [hok]; rfl), hRb.regrown dq osq⟩
        rw [hok] at cO
        by_cases hk0 : 0 < k
        case neg =>
          have hd : decide (0 < (k : Int)) = false := by simp; omega
          have HD := Lib.hid (show (decide (0 < k) : Bool) = false from decide_eq_false hk0)
          refine wp_region_quiet_below mixed (by kernel_rfl) ?_
          repeat (first | go_big_quiet_step (exact cO _ _) | quiet_step (exact cO _ _))
          refine wpQuiet_nil ?_
          intro _ hw'
          obtain ⟨⟨dq, osq⟩, hw''⟩ := hw'
          subst hw''
          clear cO x0 x1 x2 x3 x4 x5
          go_wp2
          go_meet
          exact ⟨congrArg Value.bool (by rw [hok, HD.out]; rfl), hRb.regrown dq osq⟩
        have hd : decide (0 < (k : Int)) = true := by simp; omega
        have HD := Lib.hid (show (decide (0 < k) : Bool) = true from decide_eq_true hk0)
        have y0 := cell_in_class (hRb.cell (HC.out (k - 1) _ (HY.out hk0) 0 _ rfl))
        simp only [Nat.add_zero] at y0
        have n1 : (k : Int) - 1 < (pl.length : Int) := by omega
        have n2 : (1 : Int) ≤ (k : Int) := by omega
        have n3 : (0 : Int) ≤ (k : Int) - 1 := by omega
        have n4 : IntKind.i64.wrap ((k : Int) - 1) = (k : Int) - 1 := IntWalk.i64_in _ (by omega)
        have n5 : ((k : Int) - 1).toNat = k - 1 := by omega
        refine wp_region_quiet_below mixed (by kernel_rfl) ?_
        repeat (first | go_big_quiet_step (exact cO _ _) | quiet_step (exact cO _ _))
        refine wpQuiet_nil ?_
        intro _ hw'
        obtain ⟨⟨dq, osq⟩, hw''⟩ := hw'
        subst hw''
        clear cO x0 x1 x2 x3 x4 x5 y0
        go_wp2
        go_meet
        exact ⟨congrArg Value.bool (by rw [hok, HD.out, ← geHld_not]; rfl), hRb.regrown dq osq⟩
      case rest =>
      obtain ⟨rfl, hE2⟩ := hcut
      clear c0 c1 c2 c3 c4 c5
      have hE3 := Ext.trans hE hE2
      cases hbad : (!okH ⟨p0, p1, p2, e, p4, p5⟩ || (decide (0 < k) && !ltH q ⟨p0, p1, p2, e, p4, p5⟩))
      case true =>
        have hkl : k < l0.length := by have := HLEN.out; omega
        have HF : Hid (res = false) := (HRES.out.symm.trans (show goodHs l0 = false from not_good (m := 8) hkl (by rw [HA.out]; exact asc_bad hbad)) : res = false)
        go_wp2
        go_ret
        exact ⟨ret_bool HF.out.symm, hE3⟩
      go_wp2
      go_roundw
      case rel => exact ⟨k + 1, by omega, by go_num, Lib.hid (ascAt_step HALL.out (HA.out.2 (asc_fine hbad))), hE3⟩
      case measure => simp [intOf]; omega
    · have HG : Hid (res = decide (pl.length ≤ 8)) := (by rw [← HRES.out, goodHs, ascB_true (fun i hi => HALL.out i (by have := HLEN.out; omega)), Bool.true_and, HLEN.out] : res = decide (pl.length ≤ 8))
      go_wp2
      go_ret
      exact ⟨ret_bool (by rw [HG.out]; exact decide_eq_decide.2 (by omega)), hE⟩
set_option maxHeartbeats 2000000 in
theorem areHolds_ok (l0 : List Hld) (v : Value) (w : World) (hv : Hld.Rd w v l0) (hl : l0.length ≤ 1048576) (hll : ∀ p ∈ l0, p.ss.length ≤ 1048576) :
    Calls Try.prog 57 #[v] w fun e w' => e = .returned (.bool (goodHs l0)) ∧ Ext w w' := by
  have mixed : Try.prog.follows .mixedOrders = true := by kernel_rfl
  obtain ⟨pl, hpl, hv, hat⟩ := hv
  have hlen : l0.length = pl.length := by rw [← hpl]; simp
  have HPL := Lib.hid hpl
  have HAT := Lib.hid hat
  have HLL := Lib.hid hll
  obtain ⟨res, hres⟩ : ∃ b, goodHs l0 = b := ⟨_, rfl⟩
  rw [hres]
  have HRES := Lib.hid hres
  rw [hlen] at hl
  have HLEN := Lib.hid hlen
  clear hres hpl hat hll hlen
  obtain ⟨a, cap, rfl⟩ := hv.shape
  go_enter Try.func57, Try.ntmps57
  go_wp2
  go_loopw [3, 4, 7] (fun _ _ i wr => ∃ k : Nat, k ≤ pl.length ∧ i = .int .i64 k ∧ Hid (∀ i, i < k → AscAt okH ltH l0 i) ∧ Ext w wr) (fun _ _ i _ => pl.length - (intOf i).toNat)
  case atStart => exact ⟨0, Nat.zero_le _, rfl, Lib.hid fun i h => by omega, Ext.refl _⟩
  case round =>
    obtain ⟨k, hk, rfl, HALL, hE⟩ := hrel
    by_cases hlt : k < pl.length
    · have hv1 := hv.mono hE
      obtain ⟨b, off, rfl, hc⟩ := Reads.elems Hld.enc_len hv1 (by omega)
      obtain ⟨⟨p, sv⟩, hx⟩ := get_of_lt hlt
      have hx0 : l0[k]? = some p := by rw [← HPL.out, List.getElem?_map, hx]; rfl
      obtain ⟨⟨q, sq⟩, hy⟩ : ∃ y, 0 < k → pl[k - 1]? = some y := by
        by_cases h0 : 0 < k
        · obtain ⟨y, hy⟩ := get_of_lt (show k - 1 < pl.length by omega); exact ⟨y, fun _ => hy⟩
        · exact ⟨(default, .int .i64 0), fun h => absurd h h0⟩
      have hy0 : 0 < k → l0[k - 1]? = some q := fun h => by rw [← HPL.out, List.getElem?_map, hy h]; rfl
      have HA := Lib.hid (ascAt_iff (ok := okH) (lt := ltH) hx0 hy0)
      have hmem := List.mem_of_getElem? hx
      have hatp := (HAT.out _ hmem).mono hE
      have hlp := HLL.out p (List.mem_of_getElem? hx0)
      rcases p with ⟨p0, p1, p2, e, p4, p5⟩
      obtain ⟨ca, capa, hst⟩ := Reads.shape hatp
      simp only at hst hlp
      subst hst
      have c0 := hc k _ hx 0 _ rfl
      have c1 := hc k _ hx 1 _ rfl
      have c2 := hc k _ hx 2 _ rfl
      have c3 := hc k _ hx 3 _ rfl
      have c4 := hc k _ hx 4 _ rfl
      have c5 := hc k _ hx 5 _ rfl
      simp only [Nat.add_zero] at c0
      have HC := Lib.hid hc
      have HY := Lib.hid hy
      clear hc hx hy hx0 hy0 hmem hv1 hv
      go_upto_region 4 with fail
      go_cut [29] (fun c wx => c = .bool (!okH ⟨p0, p1, p2, e, p4, p5⟩ || (decide (0 < k) && !ltH q ⟨p0, p1, p2, e, p4, p5⟩)) ∧ Ext wr wx)
      case first =>
        obtain ⟨wb, hwb⟩ : ∃ wb, wb = wr.alloc (.cells #[.int .i64 p0, .int .i64 p1, .int .i64 p2, .slice ca e.length capa, .int .i64 p4, .int .i64 p5] 93) := ⟨_, rfl⟩
        have hRb : Ext wr wb := by rw [hwb]; exact (Ext.refl _).alloc _
        have x0 := cell_in_class (show wb.cell? ⟨wr.heap.size, 0, none⟩ = some (.int .i64 p0) by rw [hwb]; simp)
        have x1 := cell_in_class (show wb.cell? ⟨wr.heap.size, 1, none⟩ = some (.int .i64 p1) by rw [hwb]; simp)
        have x2 := cell_in_class (show wb.cell? ⟨wr.heap.size, 2, none⟩ = some (.int .i64 p2) by rw [hwb]; simp)
        have x3 := cell_in_class (show wb.cell? ⟨wr.heap.size, 3, none⟩ = some (.slice ca e.length capa) by rw [hwb]; simp)
        have x4 := cell_in_class (show wb.cell? ⟨wr.heap.size, 4, none⟩ = some (.int .i64 p4) by rw [hwb]; simp)
        have x5 := cell_in_class (show wb.cell? ⟨wr.heap.size, 5, none⟩ = some (.int .i64 p5) by rw [hwb]; simp)
        rw [← hwb]
        clear hwb
        have cO := Calls.in_class (w := wb) (fun w' hw' => isHold_ok ⟨p0, p1, p2, e, p4, p5⟩ _ w' (hatp.mono (Ext.trans hRb hw')) hlp)
        clear c0 c1 c2 c3 c4 c5
        cases hok : okH ⟨p0, p1, p2, e, p4, p5⟩
        case false =>
          rw [hok] at cO
          refine wp_region_quiet_below mixed (by kernel_rfl) ?_
          repeat (first | go_big_quiet_step (exact cO _ _) | quiet_step (exact cO _ _))
          refine wpQuiet_nil ?_
          intro _ hw'
          obtain ⟨⟨dq, osq⟩, hw''⟩ := hw'
          subst hw''
          clear cO x0 x1 x2 x3 x4 x5
          go_wp2
          go_meet
          exact ⟨congrArg Value.bool (by rw [hok]; rfl), hRb.regrown dq osq⟩
        rw [hok] at cO
        by_cases hk0 : 0 < k
        case neg =>
          have hd : decide (0 < (k : Int)) = false := by simp; omega
          have HD := Lib.hid (show (decide (0 < k) : Bool) = false from decide_eq_false hk0)
          refine wp_region_quiet_below mixed (by kernel_rfl) ?_
          repeat (first | go_big_quiet_step (exact cO _ _) | quiet_step (exact cO _ _))
          refine wpQuiet_nil ?_
          intro _ hw'
          obtain ⟨⟨dq, osq⟩, hw''⟩ := hw'
          subst hw''
          clear cO x0 x1 x2 x3 x4 x5
          go_wp2
          go_meet
          exact ⟨congrArg Value.bool (by rw [hok, HD.out]; rfl), hRb.regrown dq osq⟩
        have hd : decide (0 < (k : Int)) = true := by simp; omega
        have HD := Lib.hid (show (decide (0 < k) : Bool) = true from decide_eq_true hk0)
        have y0 := cell_in_class (hRb.cell (HC.out (k - 1) _ (HY.out hk0) 0 _ rfl))
        simp only [Nat.add_zero] at y0
        have n1 : (k : Int) - 1 < (pl.length : Int) := by omega
        have n2 : (1 : Int) ≤ (k : Int) := by omega
        have n3 : (0 : Int) ≤ (k : Int) - 1 := by omega
        have n4 : IntKind.i64.wrap ((k : Int) - 1) = (k : Int) - 1 := IntWalk.i64_in _ (by omega)
        have n5 : ((k : Int) - 1).toNat = k - 1 := by omega
        refine wp_region_quiet_below mixed (by kernel_rfl) ?_
        repeat (first | go_big_quiet_step (exact cO _ _) | quiet_step (exact cO _ _))
        refine wpQuiet_nil ?_
        intro _ hw'
        obtain ⟨⟨dq, osq⟩, hw''⟩ := hw'
        subst hw''
        clear cO x0 x1 x2 x3 x4 x5 y0
        go_wp2
        go_meet
        exact ⟨congrArg Value.bool (by rw [hok, HD.out, ← geHld_not]; rfl), hRb.regrown dq osq⟩
      case rest =>
      obtain ⟨rfl, hE2⟩ := hcut
      clear c0 c1 c2 c3 c4 c5
      have hE3 := Ext.trans hE hE2
      cases hbad : (!okH ⟨p0, p1, p2, e, p4, p5⟩ || (decide (0 < k) && !ltH q ⟨p0, p1, p2, e, p4, p5⟩))
      case true =>
        have hkl : k < l0.length := by have := HLEN.out; omega
        have HF : Hid (res = false) := (HRES.out.symm.trans (show goodHs l0 = false from not_good (m := 8) hkl (by rw [HA.out]; exact asc_bad hbad)) : res = false)
        go_wp2
        go_ret
        exact ⟨ret_bool HF.out.symm, hE3⟩
      go_wp2
      go_roundw
      case rel => exact ⟨k + 1, by omega, by go_num, Lib.hid (ascAt_step HALL.out (HA.out.2 (asc_fine hbad))), hE3⟩
      case measure => simp [intOf]; omega
    · have HG : Hid (res = decide (pl.length ≤ 8)) := (by rw [← HRES.out, goodHs, ascB_true (fun i hi => HALL.out i (by have := HLEN.out; omega)), Bool.true_and, HLEN.out] : res = decide (pl.length ≤ 8))
      go_wp2
      go_ret
      exact ⟨ret_bool (by rw [HG.out]; exact decide_eq_decide.2 (by omega)), hE⟩
end Go.Proofs.Ytkbhonafbecbfaa
