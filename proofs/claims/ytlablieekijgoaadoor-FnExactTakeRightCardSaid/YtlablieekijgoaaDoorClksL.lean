/- What the place of a clerk and the tests of lists of clerks compute; no condition beyond the lengths that are named. -/
import Derived.Test.YtlablieekijgoaaDoorClks
import Derived.Test.YtlablieekijgoaaDoorSlClerk
namespace Go.Proofs.YtlablieekijgoaaDoor
open Go.RowKit Go.Sort Go.Rd
set_option maxHeartbeats 1000000 in
theorem l11Find_ok (l : List Clk) (id : Int) (v : Value) (w : World) (hv : Reads w 6 v l.length (l.flatMap Clk.enc)) (hl : l.length ≤ 1048576) :
    Calls Tryd.prog 52 #[v, .int .i64 id] w fun e w' => e = .returned (.int .i64 (atI l id)) ∧ Ext w w' := by
  obtain ⟨a, cap, rfl⟩ := hv.shape
  go_enter Tryd.func52, Tryd.ntmps52
  go_wp2
  go_loopw [5] (fun i wr => ∃ k : Nat, k ≤ l.length ∧ i = .int .i64 k ∧ Hid (∀ j x, j < k → l[j]? = some x → (x.id == id) = false) ∧ wr = w) (fun i _ => l.length - (intOf i).toNat)
  case atStart => exact ⟨0, Nat.zero_le _, rfl, Lib.hid fun j x h => by omega, rfl⟩
  case round =>
    obtain ⟨k, hk, rfl, HALL, rfl⟩ := hrel
    by_cases hlt : k < l.length
    · obtain ⟨b, off, rfl, hc⟩ := Reads.elems Clk.enc_len hv (by omega)
      obtain ⟨x, hx⟩ := get_of_lt hlt
      have c0 := hc k _ hx 0 _ rfl
      simp only [Nat.add_zero] at c0
      have HX := Lib.hid hx
      clear hc hx hv
      cases hp : (x.id == id)
      case false =>
        go_wp2
        go_roundw
        case rel =>
          refine ⟨k + 1, by omega, by go_num, Lib.hid fun j y hj hy => ?_, (by first | rfl | trivial)⟩
          by_cases hjk : j < k
          · exact HALL.out j y hjk hy
          · have : j = k := by omega
            subst this
            have := hy.symm.trans HX.out
            simp only [Option.some.injEq] at this
            rw [this]; exact hp
        case measure => simp [intOf]; omega
      case true =>
        have HR := Lib.hid (show atI l id = k from idxOf_at (p := fun x : Clk => x.id == id) HX.out hp HALL.out)
        go_wp2
        go_ret
        exact ⟨ret_int HR.out.symm, Ext.refl _⟩
    · have HR := Lib.hid (show atI l id = -1 from idxOf_none (p := fun x : Clk => x.id == id) (l := l) fun j y hy => HALL.out j y (by have := (List.getElem?_eq_some_iff.1 hy).1; omega) hy)
      go_wp2
      go_ret
      exact ⟨ret_int HR.out.symm, Ext.refl _⟩
set_option maxHeartbeats 400000 in
theorem clerkAt1_ok (x : Clk) (id : Int) (b : Nat) (w : World) (hc : w.cell? ⟨b, 0, none⟩ = some (.int .i64 id)) :
    Calls Tryd.prog 74 #[.agg #[.int .i64 x.id, .string ⟨x.na.toArray⟩, .int .i64 x.ri, .int .i64 x.fr, .int .i64 x.un, .int .i64 x.st], .pointer (some ⟨b, 0, none⟩)] w fun e w' => e = .returned (.bool (x.id == id)) ∧ Ext w w' := by
  have hb := block_lt_of_cell hc
  have hne : b ≠ w.heap.size := by have : b < w.heap.size := hb; omega
  have hc2 := cell_alloc hc
  go_enter Tryd.func74, Tryd.ntmps74
  go_wp2
  go_ret
  exact ⟨rfl, (Ext.refl _).alloc _⟩
theorem enters_clerkAt1 : ∀ args w, (callFunc 74 args).run Tryd.prog w = .ok (.enter 74 args) w := enters_of Tryd.func74 (by kernel_rfl) rfl
set_option maxHeartbeats 1000000 in
theorem clerkAt_ok (l : List Clk) (id : Int) (v : Value) (w : World) (hv : Reads w 6 v l.length (l.flatMap Clk.enc)) (hl : l.length ≤ 1048576) :
    Calls Tryd.prog 50 #[v, .int .i64 id] w fun e w' => e = .returned (.int .i64 (atI l id)) ∧ Ext w w' := by
  obtain ⟨w2, hw2⟩ : ∃ w2, w2 = w.alloc (.cells #[.int .i64 id] 3) := ⟨_, rfl⟩
  have E2 : Ext w w2 := by rw [hw2]; exact (Ext.refl w).alloc _
  have k1 : w2.cell? ⟨w.heap.size, 0, none⟩ = some (.int .i64 id) := by rw [hw2]; simp
  have HC := indexFuncClerk_ok 74 #[.pointer (some ⟨w.heap.size, 0, none⟩)] (fun x => x.id == id) l v w2 enters_clerkAt1 (fun x w' h => clerkAt1_ok x id _ w' (h.cell k1)) (Reads.mono E2 hv) hl
  change Calls _ _ _ _ (fun e w' => e = .returned (.int .i64 (atI l id)) ∧ _) at HC
  go_enter Tryd.func50, Tryd.ntmps50
  go_wp2_with fail
  rw [← hw2]
  refine HC.mono ?_
  rintro e w3 ⟨rfl, E3⟩
  go_wp2
  go_ret
  exact ⟨rfl, Ext.trans E2 E3⟩
set_option maxHeartbeats 4000000 in
theorem l11Good_ok (l : List Clk) (v : Value) (w : World) (hv : Reads w 6 v l.length (l.flatMap Clk.enc)) (hl : l.length ≤ 1048576) (hll : ∀ p ∈ l, p.na.length ≤ maxLen) :
    Calls Tryd.prog 49 #[v] w fun e w' => e = .returned (.bool (goodC l)) ∧ Ext w w' := by
  have mixed : Tryd.prog.follows .mixedOrders = true := by kernel_rfl
  have HLL := Lib.hid hll
  obtain ⟨res, hres⟩ : ∃ b, goodC l = b := ⟨_, rfl⟩
  rw [hres]
  have HRES := Lib.hid hres
  clear hres hll
  obtain ⟨a, cap, rfl⟩ := hv.shape
  go_enter Tryd.func49, Tryd.ntmps49
  go_wp2
  go_loopw [3] (fun i wr => ∃ k : Nat, k ≤ l.length ∧ i = .int .i64 k ∧ Hid (∀ i, i < k → AscAt (okC l) ltC l i) ∧ Ext w wr ∧ k ≤ 9) (fun i _ => l.length - (intOf i).toNat)
  case atStart => exact ⟨0, Nat.zero_le _, rfl, Lib.hid fun i h => by omega, Ext.refl _, by omega⟩
  case round =>
    obtain ⟨k, hk, rfl, HALL, hE, h9⟩ := hrel
    by_cases h8 : k = 9 ∧ k < l.length
    case pos =>
      have HF : Hid (res = false) := Lib.hid (by rw [← HRES.out]; unfold goodC; rw [decide_eq_false (by omega : ¬ l.length ≤ 8), Bool.and_false])
      have h10 := h8.1
      have h11 := h8.2
      subst h10
      have h12 : decide (l.length ≤ 8) = false := decide_eq_false (by omega)
      go_wp2
      go_ret
      exact ⟨ret_bool (by rw [HF.out]; exact decide_eq_false (by omega)), hE⟩
    have h88 : k < l.length → k ≤ 8 := fun h => by omega
    by_cases hlt : k < l.length
    · have hv1 := hv.mono hE
      have k8 := h88 hlt
      clear h88
      obtain ⟨b, off, rfl, hc⟩ := Reads.elems Clk.enc_len hv1 (by omega)
      obtain ⟨p, hx⟩ := get_of_lt hlt
      obtain ⟨q, hy⟩ : ∃ y, 0 < k → l[k - 1]? = some y := by
        by_cases h0 : 0 < k
        · obtain ⟨y, hy⟩ := get_of_lt (show k - 1 < l.length by omega); exact ⟨y, fun _ => hy⟩
        · exact ⟨default, fun h => absurd h h0⟩
      have HA := Lib.hid (ascAt_iff (ok := okC l) (lt := ltC) hx hy)
      have hlp := HLL.out p (List.mem_of_getElem? hx)
      rcases p with ⟨p0, p1, p2, p3, p4, p5⟩
      simp only at hlp
      have c0 := hc k _ hx 0 _ rfl
      have c1 := hc k _ hx 1 _ rfl
      have c2 := hc k _ hx 2 _ rfl
      have c3 := hc k _ hx 3 _ rfl
      have c4 := hc k _ hx 4 _ rfl
      have c5 := hc k _ hx 5 _ rfl
      simp only [Nat.add_zero] at c0
      have HC := Lib.hid hc
      have HY := Lib.hid hy
      have HX := Lib.hid hx
      clear hc hx hy
      go_upto_region 5 with fail
      go_cut [37] (fun c wx => c = .bool (!okClk ⟨p0, p1, p2, p3, p4, p5⟩ || (decide (0 < k) && !ltC q ⟨p0, p1, p2, p3, p4, p5⟩)) ∧ wx.cell? ⟨wr.heap.size, 5, none⟩ = some (.int .i64 p5) ∧ Ext wr wx)
      case first =>
        obtain ⟨wb, hwb⟩ : ∃ wb, wb = wr.alloc (.cells #[.int .i64 p0, .string ⟨p1.toArray⟩, .int .i64 p2, .int .i64 p3, .int .i64 p4, .int .i64 p5] 26) := ⟨_, rfl⟩
        have hRb : Ext wr wb := by rw [hwb]; exact (Ext.refl _).alloc _
        have x0 := cell_in_class (show wb.cell? ⟨wr.heap.size, 0, none⟩ = some (.int .i64 p0) by rw [hwb]; simp)
        have x1 := cell_in_class (show wb.cell? ⟨wr.heap.size, 1, none⟩ = some (.string ⟨p1.toArray⟩) by rw [hwb]; simp)
        have x2 := cell_in_class (show wb.cell? ⟨wr.heap.size, 2, none⟩ = some (.int .i64 p2) by rw [hwb]; simp)
        have x3 := cell_in_class (show wb.cell? ⟨wr.heap.size, 3, none⟩ = some (.int .i64 p3) by rw [hwb]; simp)
        have x4 := cell_in_class (show wb.cell? ⟨wr.heap.size, 4, none⟩ = some (.int .i64 p4) by rw [hwb]; simp)
        have x5 := cell_in_class (show wb.cell? ⟨wr.heap.size, 5, none⟩ = some (.int .i64 p5) by rw [hwb]; simp)
        have hx5 : wb.cell? ⟨wr.heap.size, 5, none⟩ = some (.int .i64 p5) := by rw [hwb]; simp
        have HX5 := Lib.hid hx5
        clear hx5
        rw [← hwb]
        clear hwb
        have cO := Calls.in_class (w := wb) (fun w' hw' => l11One_ok ⟨p0, p1, p2, p3, p4, p5⟩ w' hlp)
        clear c0 c1 c2 c3 c4 c5
        cases hok : okClk ⟨p0, p1, p2, p3, p4, p5⟩
        case false =>
          rw [hok] at cO
          refine wp_region_quiet_below mixed (by kernel_rfl) ?_
          repeat (first | go_big_quiet_step (exact cO _ _) | quiet_step (exact cO _ _))
          refine wpQuiet_nil ?_
          intro _ hw'
          obtain ⟨⟨dq, osq⟩, hw''⟩ := hw'
          subst hw''
          clear cO x0 x1 x2 x3 x4 x5
          go_wp2
          go_meet
          exact ⟨congrArg Value.bool (by rw [hok]; rfl), ((Ext.refl wb).regrown dq osq).cell HX5.out, hRb.regrown dq osq⟩
        rw [hok] at cO
        by_cases hk0 : 0 < k
        case neg =>
          have hd : decide (0 < (k : Int)) = false := by simp; omega
          have HD := Lib.hid (show (decide (0 < k) : Bool) = false from decide_eq_false hk0)
          refine wp_region_quiet_below mixed (by kernel_rfl) ?_
          repeat (first | go_big_quiet_step (exact cO _ _) | quiet_step (exact cO _ _))
          refine wpQuiet_nil ?_
          intro _ hw'
          obtain ⟨⟨dq, osq⟩, hw''⟩ := hw'
          subst hw''
          clear cO x0 x1 x2 x3 x4 x5
          go_wp2
          go_meet
          exact ⟨congrArg Value.bool (by rw [hok, HD.out]; rfl), ((Ext.refl wb).regrown dq osq).cell HX5.out, hRb.regrown dq osq⟩
        have hd : decide (0 < (k : Int)) = true := by simp; omega
        have HD := Lib.hid (show (decide (0 < k) : Bool) = true from decide_eq_true hk0)
        have y0 := cell_in_class (hRb.cell (HC.out (k - 1) _ (HY.out hk0) 0 _ rfl))
        simp only [Nat.add_zero] at y0
        have n1 : (k : Int) - 1 < (l.length : Int) := by omega
        have n2 : (1 : Int) ≤ (k : Int) := by omega
        have n3 : (0 : Int) ≤ (k : Int) - 1 := by omega
        have n4 : IntKind.i64.wrap ((k : Int) - 1) = (k : Int) - 1 := IntWalk.i64_in _ (by omega)
        have n5 : ((k : Int) - 1).toNat = k - 1 := by omega
        refine wp_region_quiet_below mixed (by kernel_rfl) ?_
        repeat (first | go_big_quiet_step (exact cO _ _) | quiet_step (exact cO _ _))
        refine wpQuiet_nil ?_
        intro _ hw'
        obtain ⟨⟨dq, osq⟩, hw''⟩ := hw'
        subst hw''
        clear cO x0 x1 x2 x3 x4 x5 y0
        go_wp2
        go_meet
        exact ⟨congrArg Value.bool (by rw [hok, HD.out, ← geC_not]; rfl), ((Ext.refl wb).regrown dq osq).cell HX5.out, hRb.regrown dq osq⟩
      case rest =>
      obtain ⟨rfl, q5, hE2⟩ := hcut
      clear c0 c1 c2 c3 c4 c5
      have hE3 := Ext.trans hE hE2
      have hkl : k < l.length := hlt
      cases hbad : (!okClk ⟨p0, p1, p2, p3, p4, p5⟩ || (decide (0 < k) && !ltC q ⟨p0, p1, p2, p3, p4, p5⟩))
      case true =>
        have HF : Hid (res = false) := Lib.hid (HRES.out.symm.trans (not_good (m := 8) hkl (ascC_bad HA.out hbad)))
        go_wp2
        go_ret
        exact ⟨ret_bool HF.out.symm, hE3⟩
      have HOK := Lib.hid (okClk_st (okClk_of hbad))
      go_wp2_with fail
      refine (l11Find_ok l p5 _ _ (hv.mono hE3) hl).mono ?_
      rintro e w5 ⟨rfl, E5⟩
      have hE5 := Ext.trans hE3 E5
      replace q5 := E5.cell q5
      by_cases hs : 0 < p5
      case neg =>
        have HG := Lib.hid (HA.out.2 (ascC_fine hbad (standB_no (l := l) (x := ⟨p0, p1, p2, p3, p4, p5⟩) hs)))
        clear hbad
        go_wp2
        go_roundw
        case rel => exact ⟨k + 1, by omega, by go_num, Lib.hid (ascAt_step HALL.out HG.out), hE5, by omega⟩
        case measure => simp [intOf]; omega
      rcases atI_cases l p5 with hj | ⟨j, y, hj, hjy, hyid⟩
      · rw [hj]
        have HF : Hid (res = false) := Lib.hid (HRES.out.symm.trans (not_good (m := 8) hkl (ascC_bad2 HA.out (standB_neg (x := ⟨p0, p1, p2, p3, p4, p5⟩) hs hj))))
        clear hbad
        go_wp2
        go_ret
        exact ⟨ret_bool HF.out.symm, hE5⟩
      rw [hj]
      have hjl : j < l.length := (List.getElem?_eq_some_iff.1 hjy).1
      have hjk : j ≠ k := fun h => by
        subst h
        have := HX.out.symm.trans hjy
        simp only [Option.some.injEq] at this
        rw [← this] at hyid
        exact HOK.out hyid.symm
      have HS := Lib.hid (standB_at (l := l) (x := ⟨p0, p1, p2, p3, p4, p5⟩) hs hj hjy)
      have hjk2 : ((j : Int) == (k : Int)) = false := beq_eq_false_iff_ne.2 (by omega)
      have d5 := (Ext.trans hE2 E5).cell (HC.out j _ hjy 5 _ rfl)
      clear hj hjy hyid
      by_cases hz : y.st = 0
      case neg =>
        have HF : Hid (res = false) := Lib.hid (HRES.out.symm.trans (not_good (m := 8) hkl (ascC_bad2 HA.out (by rw [HS.out]; exact decide_eq_false hz))))
        have hz2 : (y.st != 0) = true := by simp [hz]
        clear hbad
        go_wp2
        go_ret
        exact ⟨ret_bool HF.out.symm, hE5⟩
      have HG := Lib.hid (HA.out.2 (ascC_fine hbad (by rw [HS.out]; exact decide_eq_true hz)))
      have hz2 : (y.st != 0) = false := by simp [hz]
      rw [hz] at d5
      clear hbad
      go_wp2
      go_roundw
      case rel => exact ⟨k + 1, by omega, by go_num, Lib.hid (ascAt_step HALL.out HG.out), hE5, by omega⟩
      case measure => simp [intOf]; omega
    · have HG : Hid (res = decide (l.length ≤ 8)) := Lib.hid (by rw [← HRES.out, goodC, ascB_true (fun i hi => HALL.out i (by omega)), Bool.true_and])
      go_wp2
      go_ret
      exact ⟨ret_bool (by rw [HG.out]; exact decide_eq_decide.2 (by omega)), hE⟩
set_option maxHeartbeats 4000000 in
theorem areClerks_ok (l : List Clk) (v : Value) (w : World) (hv : Reads w 6 v l.length (l.flatMap Clk.enc)) (hl : l.length ≤ 1048576) (hll : ∀ p ∈ l, p.na.length ≤ maxLen) :
    Calls Tryd.prog 20 #[v] w fun e w' => e = .returned (.bool (goodC l)) ∧ Ext w w' := by
  have mixed : Tryd.prog.follows .mixedOrders = true := by kernel_rfl
  have HLL := Lib.hid hll
  obtain ⟨res, hres⟩ : ∃ b, goodC l = b := ⟨_, rfl⟩
  rw [hres]
  have HRES := Lib.hid hres
  clear hres hll
  obtain ⟨a, cap, rfl⟩ := hv.shape
  go_enter Tryd.func20, Tryd.ntmps20
  go_wp2
  go_loopw [8] (fun i wr => ∃ k : Nat, k ≤ l.length ∧ i = .int .i64 k ∧ Hid (∀ i, i < k → AscAt (okC l) ltC l i) ∧ Ext w wr) (fun i _ => l.length - (intOf i).toNat)
  case atStart => exact ⟨0, Nat.zero_le _, rfl, Lib.hid fun i h => by omega, Ext.refl _⟩
  case round =>
    obtain ⟨k, hk, rfl, HALL, hE⟩ := hrel
    by_cases hlt : k < l.length
    · have hv1 := hv.mono hE
      obtain ⟨b, off, rfl, hc⟩ := Reads.elems Clk.enc_len hv1 (by omega)
      obtain ⟨p, hx⟩ := get_of_lt hlt
      obtain ⟨q, hy⟩ : ∃ y, 0 < k → l[k - 1]? = some y := by
        by_cases h0 : 0 < k
        · obtain ⟨y, hy⟩ := get_of_lt (show k - 1 < l.length by omega); exact ⟨y, fun _ => hy⟩
        · exact ⟨default, fun h => absurd h h0⟩
      have HA := Lib.hid (ascAt_iff (ok := okC l) (lt := ltC) hx hy)
      have hlp := HLL.out p (List.mem_of_getElem? hx)
      rcases p with ⟨p0, p1, p2, p3, p4, p5⟩
      simp only at hlp
      have c0 := hc k _ hx 0 _ rfl
      have c1 := hc k _ hx 1 _ rfl
      have c2 := hc k _ hx 2 _ rfl
      have c3 := hc k _ hx 3 _ rfl
      have c4 := hc k _ hx 4 _ rfl
      have c5 := hc k _ hx 5 _ rfl
      simp only [Nat.add_zero] at c0
      have HC := Lib.hid hc
      have HY := Lib.hid hy
      have HX := Lib.hid hx
      clear hc hx hy
      go_upto_region 4 with fail
      go_cut [30] (fun c wx => c = .bool (!okClk ⟨p0, p1, p2, p3, p4, p5⟩ || (decide (0 < k) && !ltC q ⟨p0, p1, p2, p3, p4, p5⟩)) ∧ wx.cell? ⟨wr.heap.size, 5, none⟩ = some (.int .i64 p5) ∧ Ext wr wx)
      case first =>
        obtain ⟨wb, hwb⟩ : ∃ wb, wb = wr.alloc (.cells #[.int .i64 p0, .string ⟨p1.toArray⟩, .int .i64 p2, .int .i64 p3, .int .i64 p4, .int .i64 p5] 26) := ⟨_, rfl⟩
        have hRb : Ext wr wb := by rw [hwb]; exact (Ext.refl _).alloc _
        have x0 := cell_in_class (show wb.cell? ⟨wr.heap.size, 0, none⟩ = some (.int .i64 p0) by rw [hwb]; simp)
        have x1 := cell_in_class (show wb.cell? ⟨wr.heap.size, 1, none⟩ = some (.string ⟨p1.toArray⟩) by rw [hwb]; simp)
        have x2 := cell_in_class (show wb.cell? ⟨wr.heap.size, 2, none⟩ = some (.int .i64 p2) by rw [hwb]; simp)
        have x3 := cell_in_class (show wb.cell? ⟨wr.heap.size, 3, none⟩ = some (.int .i64 p3) by rw [hwb]; simp)
        have x4 := cell_in_class (show wb.cell? ⟨wr.heap.size, 4, none⟩ = some (.int .i64 p4) by rw [hwb]; simp)
        have x5 := cell_in_class (show wb.cell? ⟨wr.heap.size, 5, none⟩ = some (.int .i64 p5) by rw [hwb]; simp)
        have hx5 : wb.cell? ⟨wr.heap.size, 5, none⟩ = some (.int .i64 p5) := by rw [hwb]; simp
        have HX5 := Lib.hid hx5
        clear hx5
        rw [← hwb]
        clear hwb
        have cO := Calls.in_class (w := wb) (fun w' hw' => isClerk_ok ⟨p0, p1, p2, p3, p4, p5⟩ w' hlp)
        clear c0 c1 c2 c3 c4 c5
        cases hok : okClk ⟨p0, p1, p2, p3, p4, p5⟩
        case false =>
          rw [hok] at cO
          refine wp_region_quiet_below mixed (by kernel_rfl) ?_
          repeat (first | go_big_quiet_step (exact cO _ _) | quiet_step (exact cO _ _))
          refine wpQuiet_nil ?_
          intro _ hw'
          obtain ⟨⟨dq, osq⟩, hw''⟩ := hw'
          subst hw''
          clear cO x0 x1 x2 x3 x4 x5
          go_wp2
          go_meet
          exact ⟨congrArg Value.bool (by rw [hok]; rfl), ((Ext.refl wb).regrown dq osq).cell HX5.out, hRb.regrown dq osq⟩
        rw [hok] at cO
        by_cases hk0 : 0 < k
        case neg =>
          have hd : decide (0 < (k : Int)) = false := by simp; omega
          have HD := Lib.hid (show (decide (0 < k) : Bool) = false from decide_eq_false hk0)
          refine wp_region_quiet_below mixed (by kernel_rfl) ?_
          repeat (first | go_big_quiet_step (exact cO _ _) | quiet_step (exact cO _ _))
          refine wpQuiet_nil ?_
          intro _ hw'
          obtain ⟨⟨dq, osq⟩, hw''⟩ := hw'
          subst hw''
          clear cO x0 x1 x2 x3 x4 x5
          go_wp2
          go_meet
          exact ⟨congrArg Value.bool (by rw [hok, HD.out]; rfl), ((Ext.refl wb).regrown dq osq).cell HX5.out, hRb.regrown dq osq⟩
        have hd : decide (0 < (k : Int)) = true := by simp; omega
        have HD := Lib.hid (show (decide (0 < k) : Bool) = true from decide_eq_true hk0)
        have y0 := cell_in_class (hRb.cell (HC.out (k - 1) _ (HY.out hk0) 0 _ rfl))
        simp only [Nat.add_zero] at y0
        have n1 : (k : Int) - 1 < (l.length : Int) := by omega
        have n2 : (1 : Int) ≤ (k : Int) := by omega
        have n3 : (0 : Int) ≤ (k : Int) - 1 := by omega
        have n4 : IntKind.i64.wrap ((k : Int) - 1) = (k : Int) - 1 := IntWalk.i64_in _ (by omega)
        have n5 : ((k : Int) - 1).toNat = k - 1 := by omega
        refine wp_region_quiet_below mixed (by kernel_rfl) ?_
        repeat (first | go_big_quiet_step (exact cO _ _) | quiet_step (exact cO _ _))
        refine wpQuiet_nil ?_
        intro _ hw'
        obtain ⟨⟨dq, osq⟩, hw''⟩ := hw'
        subst hw''
        clear cO x0 x1 x2 x3 x4 x5 y0
        go_wp2
        go_meet
        exact ⟨congrArg Value.bool (by rw [hok, HD.out, ← geC_not]; rfl), ((Ext.refl wb).regrown dq osq).cell HX5.out, hRb.regrown dq osq⟩
      case rest =>
      obtain ⟨rfl, q5, hE2⟩ := hcut
      clear c0 c1 c2 c3 c4 c5
      have hE3 := Ext.trans hE hE2
      have hkl : k < l.length := hlt
      cases hbad : (!okClk ⟨p0, p1, p2, p3, p4, p5⟩ || (decide (0 < k) && !ltC q ⟨p0, p1, p2, p3, p4, p5⟩))
      case true =>
        have HF : Hid (res = false) := Lib.hid (HRES.out.symm.trans (not_good (m := 8) hkl (ascC_bad HA.out hbad)))
        go_wp2
        go_ret
        exact ⟨ret_bool HF.out.symm, hE3⟩
      have HOK := Lib.hid (okClk_st (okClk_of hbad))
      by_cases hs : 0 < p5
      case neg =>
        have HG := Lib.hid (HA.out.2 (ascC_fine hbad (standB_no (l := l) (x := ⟨p0, p1, p2, p3, p4, p5⟩) hs)))
        clear hbad
        go_wp2
        go_roundw
        case rel => exact ⟨k + 1, by omega, by go_num, Lib.hid (ascAt_step HALL.out HG.out), hE3⟩
        case measure => simp [intOf]; omega
      go_wp2_with fail
      refine (clerkAt_ok l p5 _ _ (hv.mono hE3) hl).mono ?_
      rintro e w5 ⟨rfl, E5⟩
      have hE5 := Ext.trans hE3 E5
      replace q5 := E5.cell q5
      rcases atI_cases l p5 with hj | ⟨j, y, hj, hjy, hyid⟩
      · rw [hj]
        have HF : Hid (res = false) := Lib.hid (HRES.out.symm.trans (not_good (m := 8) hkl (ascC_bad2 HA.out (standB_neg (x := ⟨p0, p1, p2, p3, p4, p5⟩) hs hj))))
        clear hbad
        go_wp2
        go_ret
        exact ⟨ret_bool HF.out.symm, hE5⟩
      rw [hj]
      have hjl : j < l.length := (List.getElem?_eq_some_iff.1 hjy).1
      have HS := Lib.hid (standB_at (l := l) (x := ⟨p0, p1, p2, p3, p4, p5⟩) hs hj hjy)
      have d5 := (Ext.trans hE2 E5).cell (HC.out j _ hjy 5 _ rfl)
      clear hj hjy hyid
      by_cases hz : y.st = 0
      case neg =>
        have HF : Hid (res = false) := Lib.hid (HRES.out.symm.trans (not_good (m := 8) hkl (ascC_bad2 HA.out (by rw [HS.out]; exact decide_eq_false hz))))
        have hz2 : (y.st != 0) = true := by simp [hz]
        clear hbad
        go_wp2
        go_ret
        exact ⟨ret_bool HF.out.symm, hE5⟩
      have HG := Lib.hid (HA.out.2 (ascC_fine hbad (by rw [HS.out]; exact decide_eq_true hz)))
      have hz2 : (y.st != 0) = false := by simp [hz]
      rw [hz] at d5
      clear hbad
      go_wp2
      go_roundw
      case rel => exact ⟨k + 1, by omega, by go_num, Lib.hid (ascAt_step HALL.out HG.out), hE5⟩
      case measure => simp [intOf]; omega
    · have HG : Hid (res = decide (l.length ≤ 8)) := Lib.hid (by rw [← HRES.out, goodC, ascB_true (fun i hi => HALL.out i (by omega)), Bool.true_and])
      go_wp2
      go_ret
      exact ⟨ret_bool (by rw [HG.out]; exact decide_eq_decide.2 (by omega)), hE⟩
theorem specAreClerks_ok (l : List Clk) (v : Value) (w : World) (hv : Reads w 6 v l.length (l.flatMap Clk.enc)) (hl : l.length ≤ 1048576) (hll : ∀ p ∈ l, p.na.length ≤ maxLen) :
    Calls Tryd.prog 18 #[v] w fun e w' => e = .returned (.bool (goodC l)) ∧ Ext w w' := by
  go_enter Tryd.func18, Tryd.ntmps18
  go_wp2_with fail
  refine (l11Good_ok l v _ hv hl hll).mono ?_
  rintro e w' ⟨rfl, E⟩
  go_wp2
  go_ret
  exact ⟨rfl, E⟩
end Go.Proofs.YtlablieekijgoaaDoor
