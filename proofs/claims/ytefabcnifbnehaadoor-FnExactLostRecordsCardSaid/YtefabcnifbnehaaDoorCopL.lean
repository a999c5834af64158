/- What the tests of copies compute; no condition beyond the lengths and rooms that are named. -/
import Derived.Test.YtefabcnifbnehaaDoorFmtL4
import Derived.Deep.RegionHeld3
namespace Go.Proofs.YtefabcnifbnehaaDoor
open Go.RowKit Go.Sort Go.Rd
set_option maxRecDepth 4000 in
set_option maxHeartbeats 8000000 in
theorem l7Copies_ok (l : List Fmt) (cs : List Cpy) (v vc : Value) (w : World) (hv : Fmt.Rd w v l) (hc : Reads w 4 vc cs.length (cs.flatMap Cpy.enc)) (hl : l.length ≤ 1048576) (hll : ∀ p ∈ l, p.rd.length ≤ 1048576) (hnl : ∀ p ∈ l, p.na.length ≤ maxLen) (hcl : cs.length ≤ 1048576) :
    Calls Tryd.prog 63 #[v, vc] w fun e w' => e = .returned (.bool (goodCs l cs)) ∧ Ext w w' := by
  have mixed : Tryd.prog.follows .mixedOrders = true := by kernel_rfl
  obtain ⟨res, hres⟩ : ∃ b, goodCs l cs = b := ⟨_, rfl⟩
  rw [hres]
  have HRES := Lib.hid hres
  clear hres
  obtain ⟨a, cap, rfl⟩ := hc.shape
  obtain ⟨n, hn⟩ : ∃ n, cs.length = n := ⟨_, rfl⟩
  rw [hn] at hc hcl ⊢
  have HN := Lib.hid hn
  clear hn
  go_enter Tryd.func63, Tryd.ntmps63
  have E0 := Ext.refl w
  obtain ⟨w0, hw0⟩ : ∃ w', w' = w := ⟨_, rfl⟩
  go_wp2
  go_loopw [5] (fun i wr => ∃ k : Nat, k ≤ n ∧ i = .int .i64 k ∧ Hid (∀ i, i < k → AscAt (okCp l) ltCp cs i) ∧ Ext w wr) (fun i _ => n - (intOf i).toNat)
  case atStart => exact ⟨0, Nat.zero_le _, rfl, Lib.hid fun i h => by omega, Ext.refl _⟩
  case round =>
    obtain ⟨k, hk, rfl, HALL, hE⟩ := hrel
    by_cases hlt : k < n
    · have hkl : k < cs.length := by have := HN.out; omega
      obtain ⟨b, off, rfl, hcc⟩ := Reads.elems Cpy.enc_len (by rw [← HN.out] at hc; exact hc.mono hE) (by omega)
      obtain ⟨⟨p1, p2, p3, p4⟩, hx⟩ := get_of_lt hkl
      obtain ⟨⟨q1, q2, q3, q4⟩, hy⟩ : ∃ y, 0 < k → cs[k - 1]? = some y := by
        by_cases h0 : 0 < k
        · obtain ⟨y, hy⟩ := get_of_lt (show k - 1 < cs.length by omega); exact ⟨y, fun _ => hy⟩
        · exact ⟨default, fun h => absurd h h0⟩
      have HA := Lib.hid (ascAt_iff (ok := okCp l) (lt := ltCp) hx hy)
      have HBAD : Hid (¬ (okCp l ⟨p1, p2, p3, p4⟩ = true ∧ (0 < k → ltCp ⟨q1, q2, q3, q4⟩ ⟨p1, p2, p3, p4⟩ = true)) → res = false) := Lib.hid fun h => by
        have h2 := not_good (m := 15) hkl (fun h' => h (HA.out.1 h'))
        rw [← HRES.out, goodCs, h2, Bool.and_false]
      have c0 := hcc k _ hx 0 _ rfl
      have c1 := hcc k _ hx 1 _ rfl
      have c2 := hcc k _ hx 2 _ rfl
      have c3 := hcc k _ hx 3 _ rfl
      simp only [Nat.add_zero] at c0
      have HC := Lib.hid hcc
      have HY := Lib.hid hy
      clear hcc hx hy
      obtain ⟨wb, hwb⟩ : ∃ wb, wb = wr.alloc (.cells #[.int .i64 p1, .int .i64 p2, .int .i64 p3, .int .i64 p4] 73) := ⟨_, rfl⟩
      have hRb : Ext wr wb := by rw [hwb]; exact (Ext.refl _).alloc _
      have x0 : wb.cell? ⟨wr.heap.size, 0, none⟩ = some (.int .i64 p1) := by rw [hwb]; simp
      have x1 : wb.cell? ⟨wr.heap.size, 1, none⟩ = some (.int .i64 p2) := by rw [hwb]; simp
      have x2 : wb.cell? ⟨wr.heap.size, 2, none⟩ = some (.int .i64 p3) := by rw [hwb]; simp
      have x3 : wb.cell? ⟨wr.heap.size, 3, none⟩ = some (.int .i64 p4) := by rw [hwb]; simp
      have hEb := Ext.trans hE hRb
      go_wp2_with fail
      rw [← hwb]
      clear hwb c0 c1 c2 c3
      refine (l1In_ok p1 1 999 _).mono ?_
      rintro e w' ⟨rfl, rfl⟩
      cases t1 : inB p1 1 999
      case false =>
        have HF : Hid (res = false) := Lib.hid (HBAD.out fun h => by have := h.1; simp [okCp, t1] at this)
        go_wp2
        go_ret
        exact ⟨ret_bool HF.out.symm, hEb⟩
      go_wp2_with fail
      refine (l7Find_ok l p2 _ _ (hv.mono hEb) hl).mono ?_
      rintro e w3 ⟨rfl, F3⟩
      have hE3 := Ext.trans hEb F3
      have hR3 := Ext.trans hRb F3
      replace x0 := F3.cell x0
      replace x1 := F3.cell x1
      replace x2 := F3.cell x2
      replace x3 := F3.cell x3
      obtain ⟨z, hz⟩ : ∃ z, atF l p2 = z := ⟨_, rfl⟩
      have HZ := Lib.hid hz
      rw [hz]
      clear hz
      by_cases hz0 : z < 0
      case pos =>
        have HF : Hid (res = false) := Lib.hid (HBAD.out fun h => by
          have := h.1
          simp only [okCp, Bool.and_eq_true, decide_eq_true_eq, HZ.out] at this
          omega)
        go_wp2
        go_ret
        exact ⟨ret_bool HF.out.symm, hE3⟩
      go_wp2_with fail
      refine (l1In_ok p3 1 1000000 _).mono ?_
      rintro e w' ⟨rfl, rfl⟩
      cases t3 : inB p3 1 1000000
      case false =>
        have HF : Hid (res = false) := Lib.hid (HBAD.out fun h => by have := h.1; simp [okCp, t3] at this)
        go_wp2
        go_ret
        exact ⟨ret_bool HF.out.symm, hE3⟩
      go_wp2_with fail
      refine (l2Day_ok p4 _).mono ?_
      rintro e w' ⟨rfl, rfl⟩
      cases t4 : inB p4 0 20000
      case false =>
        have HF : Hid (res = false) := Lib.hid (HBAD.out fun h => by have := h.1; simp [okCp, t4] at this)
        go_wp2
        go_ret
        exact ⟨ret_bool HF.out.symm, hE3⟩
      have HOK : Hid (okCp l ⟨p1, p2, p3, p4⟩ = true) := Lib.hid (by simp only [okCp, t1, t3, t4, HZ.out, Bool.and_true, Bool.true_and, decide_eq_true_eq]; omega)
      clear t1 t3 t4 x2 x3
      obtain ⟨bad, hbad⟩ : ∃ b, (decide (0 < k) && !ltCp ⟨q1, q2, q3, q4⟩ ⟨p1, p2, p3, p4⟩) = b := ⟨_, rfl⟩
      have HBD := Lib.hid hbad
      clear hbad
      go_upto_region 7 with fail
      go_cut [74] (fun c wx => c = .bool bad ∧ Ext w3 wx)
      case first =>
        by_cases hk0 : 0 < k
        case neg =>
          have hd : decide (0 < (k : Int)) = false := by simp; omega
          have HD := Lib.hid (show (decide (0 < k) : Bool) = false from decide_eq_false hk0)
          refine wp_region_quiet_below mixed (by kernel_rfl) ?_
          repeat (first | go_big_quiet_step (fail) | quiet_step (fail))
          refine wpQuiet_nil ?_
          intro _ hw'
          obtain ⟨⟨dq, osq⟩, hw''⟩ := hw'
          subst hw''
          clear x0 x1
          go_wp2
          go_meet
          exact ⟨congrArg Value.bool (by rw [← HBD.out, HD.out]; rfl), (Ext.refl w3).regrown dq osq⟩
        have hd : decide (0 < (k : Int)) = true := by simp; omega
        have HD := Lib.hid (show (decide (0 < k) : Bool) = true from decide_eq_true hk0)
        have y0 := hR3.cell (HC.out (k - 1) _ (HY.out hk0) 0 _ rfl)
        have y1 := hR3.cell (HC.out (k - 1) _ (HY.out hk0) 1 _ rfl)
        simp only [Nat.add_zero] at y0
        have n1 : (k : Int) - 1 < (n : Int) := by omega
        have n2 : (1 : Int) ≤ (k : Int) := by omega
        have n3 : (0 : Int) ≤ (k : Int) - 1 := by omega
        have n4 : IntKind.i64.wrap ((k : Int) - 1) = (k : Int) - 1 := IntWalk.i64_in _ (by omega)
        have n5 : ((k : Int) - 1).toNat = k - 1 := by omega
        have z0 := cell_in_class x0
        have z1 := cell_in_class x1
        have y0 := cell_in_class y0
        have y1 := cell_in_class y1
        by_cases g1 : p1 < q1
        case pos =>
          have HG : Hid (ltCp ⟨q1, q2, q3, q4⟩ ⟨p1, p2, p3, p4⟩ = false) := Lib.hid (by simp [ltCp]; omega)
          refine wp_region_quiet_below mixed (by kernel_rfl) ?_
          repeat (first | go_big_quiet_step (fail) | quiet_step (fail))
          refine wpQuiet_nil ?_
          intro _ hw'
          obtain ⟨⟨dq, osq⟩, hw''⟩ := hw'
          subst hw''
          clear x0 x1 z0 z1 y0 y1
          go_wp2
          go_meet
          exact ⟨congrArg Value.bool (by rw [← HBD.out, HD.out, HG.out]; rfl), (Ext.refl w3).regrown dq osq⟩
        cases g2 : (q1 == p1)
        case false =>
          have HG : Hid (ltCp ⟨q1, q2, q3, q4⟩ ⟨p1, p2, p3, p4⟩ = true) := Lib.hid (by simp [ltCp] at *; omega)
          refine wp_region_quiet_below mixed (by kernel_rfl) ?_
          repeat (first | go_big_quiet_step (fail) | quiet_step (fail))
          refine wpQuiet_nil ?_
          intro _ hw'
          obtain ⟨⟨dq, osq⟩, hw''⟩ := hw'
          subst hw''
          clear x0 x1 z0 z1 y0 y1
          go_wp2
          go_meet
          exact ⟨congrArg Value.bool (by rw [← HBD.out, HD.out, HG.out]; rfl), (Ext.refl w3).regrown dq osq⟩
        have HG : Hid (ltCp ⟨q1, q2, q3, q4⟩ ⟨p1, p2, p3, p4⟩ = !decide (p2 ≤ q2)) := Lib.hid (by
          rw [Bool.eq_iff_iff]; simp [ltCp] at *; omega)
        refine wp_region_quiet_below mixed (by kernel_rfl) ?_
        repeat (first | go_big_quiet_step (fail) | quiet_step (fail))
        refine wpQuiet_nil ?_
        intro _ hw'
        obtain ⟨⟨dq, osq⟩, hw''⟩ := hw'
        subst hw''
        clear x0 x1 z0 z1 y0 y1
        go_wp2
        go_meet
        exact ⟨congrArg Value.bool (by rw [← HBD.out, HD.out, HG.out, Bool.not_not]; rfl), (Ext.refl w3).regrown dq osq⟩
      case rest =>
      obtain ⟨rfl, F5⟩ := hcut
      have hE5 := Ext.trans hE3 F5
      clear x0 x1
      cases bad
      case true =>
        have HF : Hid (res = false) := Lib.hid (HBAD.out fun h => by
          have h2 := HBD.out
          simp only [Bool.and_eq_true, decide_eq_true_eq, Bool.not_eq_true'] at h2
          rw [h.2 h2.1] at h2
          cases h2.2)
        go_wp2
        go_ret
        exact ⟨ret_bool HF.out.symm, hE5⟩
      have HNX := Lib.hid (ascAt_step HALL.out (HA.out.2 ⟨HOK.out, fun h0 => by
        have h2 := HBD.out
        rw [decide_eq_true h0, Bool.true_and, Bool.not_eq_false'] at h2
        exact h2⟩))
      go_wp2
      go_roundw
      case rel => exact ⟨k + 1, by omega, by go_num, HNX, hE5⟩
      case measure => simp [intOf]; omega
    · have HR2 : Hid (res = (goodF l && decide (cs.length ≤ 15))) := Lib.hid (by rw [← HRES.out, goodCs, ascB_true (fun i hi => HALL.out i (by have := HN.out; omega)), Bool.true_and])
      have hrest : ¬ k < n := hlt
      go_wp2_with fail
      refine (l7Good_ok l _ _ (hv.mono hE) hl hll hnl).mono ?_
      rintro e w3 ⟨rfl, F3⟩
      have hE3 := Ext.trans hE F3
      cases t0 : goodF l
      case false =>
        have HF : Hid (res = false) := Lib.hid (by rw [HR2.out, t0]; rfl)
        go_wp2
        go_ret
        exact ⟨ret_bool HF.out.symm, hE3⟩
      have HF : Hid (res = decide (cs.length ≤ 15)) := Lib.hid (by rw [HR2.out, t0, Bool.true_and])
      go_wp2
      go_ret
      exact ⟨ret_bool (by rw [HF.out]; exact decide_eq_decide.2 (by have := HN.out; omega)), hE3⟩
set_option maxRecDepth 4000 in
set_option maxHeartbeats 8000000 in
theorem areCopies_ok (l : List Fmt) (cs : List Cpy) (v vc : Value) (w : World) (hv : Fmt.Rd w v l) (hc : Reads w 4 vc cs.length (cs.flatMap Cpy.enc)) (hcap : Room v) (hl : l.length ≤ 1048576) (hll : ∀ p ∈ l, p.rd.length ≤ 1048576) (hnl : ∀ p ∈ l, p.na.length ≤ maxLen) (hcl : cs.length ≤ 1048576) :
    Calls Tryd.prog 33 #[v, vc] w fun e w' => e = .returned (.bool (goodCs l cs)) ∧ Ext w w' := by
  have mixed : Tryd.prog.follows .mixedOrders = true := by kernel_rfl
  obtain ⟨res, hres⟩ : ∃ b, goodCs l cs = b := ⟨_, rfl⟩
  rw [hres]
  have HRES := Lib.hid hres
  clear hres
  obtain ⟨a, cap, rfl⟩ := hc.shape
  obtain ⟨n, hn⟩ : ∃ n, cs.length = n := ⟨_, rfl⟩
  rw [hn] at hc hcl ⊢
  have HN := Lib.hid hn
  clear hn
  go_enter Tryd.func33, Tryd.ntmps33
  go_wp2_with fail
  refine (areFormats_ok l _ _ hv hcap hl hll hnl).mono ?_
  rintro e w0 ⟨rfl, E0⟩
  cases t0 : goodF l
  case false =>
    have HF : Hid (res = false) := Lib.hid (by rw [← HRES.out, goodCs, t0]; rfl)
    go_wp2
    go_ret
    exact ⟨ret_bool HF.out.symm, E0⟩
  have HR1 : Hid (res = (ascB (okCp l) ltCp cs && decide (cs.length ≤ 15))) := Lib.hid (by rw [← HRES.out, goodCs, t0, Bool.true_and])
  clear t0
  by_cases h15 : (15 : Int) < (n : Int)
  case pos =>
    have HF : Hid (res = false) := Lib.hid (by rw [HR1.out, decide_eq_false (by have := HN.out; omega : ¬ cs.length ≤ 15), Bool.and_false])
    go_wp2
    go_ret
    exact ⟨ret_bool HF.out.symm, E0⟩
  go_wp2
  go_loopw [17] (fun i wr => ∃ k : Nat, k ≤ n ∧ i = .int .i64 k ∧ Hid (∀ i, i < k → AscAt (okCp l) ltCp cs i) ∧ Ext w wr) (fun i _ => n - (intOf i).toNat)
  case atStart => exact ⟨0, Nat.zero_le _, rfl, Lib.hid fun i h => by omega, E0⟩
  case round =>
    obtain ⟨k, hk, rfl, HALL, hE⟩ := hrel
    by_cases hlt : k < n
    · have hkl : k < cs.length := by have := HN.out; omega
      obtain ⟨b, off, rfl, hcc⟩ := Reads.elems Cpy.enc_len (by rw [← HN.out] at hc; exact hc.mono hE) (by omega)
      obtain ⟨⟨p1, p2, p3, p4⟩, hx⟩ := get_of_lt hkl
      obtain ⟨⟨q1, q2, q3, q4⟩, hy⟩ : ∃ y, 0 < k → cs[k - 1]? = some y := by
        by_cases h0 : 0 < k
        · obtain ⟨y, hy⟩ := get_of_lt (show k - 1 < cs.length by omega); exact ⟨y, fun _ => hy⟩
        · exact ⟨default, fun h => absurd h h0⟩
      have HA := Lib.hid (ascAt_iff (ok := okCp l) (lt := ltCp) hx hy)
      have HBAD : Hid (¬ (okCp l ⟨p1, p2, p3, p4⟩ = true ∧ (0 < k → ltCp ⟨q1, q2, q3, q4⟩ ⟨p1, p2, p3, p4⟩ = true)) → res = false) := Lib.hid fun h => by
        have h2 := not_good (m := 15) hkl (fun h' => h (HA.out.1 h'))
        rw [HR1.out]; exact h2
      have c0 := hcc k _ hx 0 _ rfl
      have c1 := hcc k _ hx 1 _ rfl
      have c2 := hcc k _ hx 2 _ rfl
      have c3 := hcc k _ hx 3 _ rfl
      simp only [Nat.add_zero] at c0
      have HC := Lib.hid hcc
      have HY := Lib.hid hy
      clear hcc hx hy
      obtain ⟨wb, hwb⟩ : ∃ wb, wb = wr.alloc (.cells #[.int .i64 p1, .int .i64 p2, .int .i64 p3, .int .i64 p4] 73) := ⟨_, rfl⟩
      have hRb : Ext wr wb := by rw [hwb]; exact (Ext.refl _).alloc _
      have x0 : wb.cell? ⟨wr.heap.size, 0, none⟩ = some (.int .i64 p1) := by rw [hwb]; simp
      have x1 : wb.cell? ⟨wr.heap.size, 1, none⟩ = some (.int .i64 p2) := by rw [hwb]; simp
      have x2 : wb.cell? ⟨wr.heap.size, 2, none⟩ = some (.int .i64 p3) := by rw [hwb]; simp
      have x3 : wb.cell? ⟨wr.heap.size, 3, none⟩ = some (.int .i64 p4) := by rw [hwb]; simp
      have hEb := Ext.trans hE hRb
      go_wp2_with fail
      rw [← hwb]
      clear hwb c0 c1 c2 c3
      refine (within_ok p1 1 999 _).mono ?_
      rintro e w' ⟨rfl, rfl⟩
      cases t1 : inB p1 1 999
      case false =>
        have HF : Hid (res = false) := Lib.hid (HBAD.out fun h => by have := h.1; simp [okCp, t1] at this)
        go_wp2
        go_ret
        exact ⟨ret_bool HF.out.symm, hEb⟩
      go_wp2_with fail
      refine (formatAt_ok l p2 _ _ (hv.mono hEb) hl).mono ?_
      rintro e w3 ⟨rfl, F3⟩
      have hE3 := Ext.trans hEb F3
      have hR3 := Ext.trans hRb F3
      replace x0 := F3.cell x0
      replace x1 := F3.cell x1
      replace x2 := F3.cell x2
      replace x3 := F3.cell x3
      obtain ⟨z, hz⟩ : ∃ z, atF l p2 = z := ⟨_, rfl⟩
      have HZ := Lib.hid hz
      rw [hz]
      clear hz
      by_cases hz0 : z < 0
      case pos =>
        have HF : Hid (res = false) := Lib.hid (HBAD.out fun h => by
          have := h.1
          simp only [okCp, Bool.and_eq_true, decide_eq_true_eq, HZ.out] at this
          omega)
        go_wp2
        go_ret
        exact ⟨ret_bool HF.out.symm, hE3⟩
      go_wp2_with fail
      refine (within_ok p3 1 1000000 _).mono ?_
      rintro e w' ⟨rfl, rfl⟩
      cases t3 : inB p3 1 1000000
      case false =>
        have HF : Hid (res = false) := Lib.hid (HBAD.out fun h => by have := h.1; simp [okCp, t3] at this)
        go_wp2
        go_ret
        exact ⟨ret_bool HF.out.symm, hE3⟩
      go_wp2_with fail
      refine (isDay_ok p4 _).mono ?_
      rintro e w' ⟨rfl, rfl⟩
      cases t4 : inB p4 0 20000
      case false =>
        have HF : Hid (res = false) := Lib.hid (HBAD.out fun h => by have := h.1; simp [okCp, t4] at this)
        go_wp2
        go_ret
        exact ⟨ret_bool HF.out.symm, hE3⟩
      have HOK : Hid (okCp l ⟨p1, p2, p3, p4⟩ = true) := Lib.hid (by simp only [okCp, t1, t3, t4, HZ.out, Bool.and_true, Bool.true_and, decide_eq_true_eq]; omega)
      clear t1 t3 t4 x2 x3
      obtain ⟨bad, hbad⟩ : ∃ b, (decide (0 < k) && !ltCp ⟨q1, q2, q3, q4⟩ ⟨p1, p2, p3, p4⟩) = b := ⟨_, rfl⟩
      have HBD := Lib.hid hbad
      clear hbad
      go_upto_region 8 with fail
      go_cut [69] (fun c wx => c = .bool bad ∧ Ext w3 wx)
      case first =>
        by_cases hk0 : 0 < k
        case neg =>
          have hd : decide (0 < (k : Int)) = false := by simp; omega
          have HD := Lib.hid (show (decide (0 < k) : Bool) = false from decide_eq_false hk0)
          refine wp_region_quiet_below mixed (by kernel_rfl) ?_
          repeat (first | go_big_quiet_step (fail) | quiet_step (fail))
          refine wpQuiet_nil ?_
          intro _ hw'
          obtain ⟨⟨dq, osq⟩, hw''⟩ := hw'
          subst hw''
          clear x0 x1
          go_wp2
          go_meet
          exact ⟨congrArg Value.bool (by rw [← HBD.out, HD.out]; rfl), (Ext.refl w3).regrown dq osq⟩
        have hd : decide (0 < (k : Int)) = true := by simp; omega
        have HD := Lib.hid (show (decide (0 < k) : Bool) = true from decide_eq_true hk0)
        have y0 := hR3.cell (HC.out (k - 1) _ (HY.out hk0) 0 _ rfl)
        have y1 := hR3.cell (HC.out (k - 1) _ (HY.out hk0) 1 _ rfl)
        simp only [Nat.add_zero] at y0
        have n1 : (k : Int) - 1 < (n : Int) := by omega
        have n2 : (1 : Int) ≤ (k : Int) := by omega
        have n3 : (0 : Int) ≤ (k : Int) - 1 := by omega
        have n4 : IntKind.i64.wrap ((k : Int) - 1) = (k : Int) - 1 := IntWalk.i64_in _ (by omega)
        have n5 : ((k : Int) - 1).toNat = k - 1 := by omega
        have HG := Lib.hid (ltCp_cmp ⟨q1, q2, q3, q4⟩ ⟨p1, p2, p3, p4⟩)
        have HS : Hid (∀ w', Ext w3 w' → (w'.cell? ⟨b, off + (k - 1) * 4, none⟩ = some (.int .i64 q1) ∧ w'.cell? ⟨b, off + (k - 1) * 4 + 1, none⟩ = some (.int .i64 q2) ∧ w'.cell? ⟨wr.heap.size, 0, none⟩ = some (.int .i64 p1) ∧ w'.cell? ⟨wr.heap.size, 1, none⟩ = some (.int .i64 p2))) := Lib.hid fun w' hE => ⟨hE.cell y0, hE.cell y1, hE.cell x0, hE.cell x1⟩
        clear y0 y1 x0 x1
        go_region_held3 (fun w' => w'.cell? ⟨b, off + (k - 1) * 4, none⟩ = some (.int .i64 q1) ∧ w'.cell? ⟨b, off + (k - 1) * 4 + 1, none⟩ = some (.int .i64 q2) ∧ w'.cell? ⟨wr.heap.size, 0, none⟩ = some (.int .i64 p1) ∧ w'.cell? ⟨wr.heap.size, 1, none⟩ = some (.int .i64 p2)) (exact HS.out _ (by repeat' (first | exact Ext.refl _ | assumption | refine Ext.drew ?_ | refine Ext.alloc ?_ _)))
          (first | (go_at_call 66; refine (compare_ok _ _ _).mono ?_; rintro e w' ⟨rfl, rfl⟩) | (go_at_call 65; refine (or_ok (cmpI q1 p1) (cmpI q2 p2) _ _ ?_ ?_).mono ?_; (simp); (simp); rintro e w' ⟨rfl, rfl⟩))
        all_goals
          go_wp2
          go_meet
          exact ⟨congrArg Value.bool (by rw [← HBD.out, HD.out, Bool.true_and]; exact HG.out), by repeat' (first | exact Ext.refl _ | assumption | refine Ext.drew ?_ | refine Ext.alloc ?_ _)⟩
      case rest =>
      obtain ⟨rfl, F5⟩ := hcut
      have hE5 := Ext.trans hE3 F5
      clear x0 x1
      cases bad
      case true =>
        have HF : Hid (res = false) := Lib.hid (HBAD.out fun h => by
          have h2 := HBD.out
          simp only [Bool.and_eq_true, decide_eq_true_eq, Bool.not_eq_true'] at h2
          rw [h.2 h2.1] at h2
          cases h2.2)
        go_wp2
        go_ret
        exact ⟨ret_bool HF.out.symm, hE5⟩
      have HNX := Lib.hid (ascAt_step HALL.out (HA.out.2 ⟨HOK.out, fun h0 => by
        have h2 := HBD.out
        rw [decide_eq_true h0, Bool.true_and, Bool.not_eq_false'] at h2
        exact h2⟩))
      go_wp2
      go_roundw
      case rel => exact ⟨k + 1, by omega, by go_num, HNX, hE5⟩
      case measure => simp [intOf]; omega
    · have HF : Hid (res = true) := Lib.hid (by rw [HR1.out, ascB_true (fun i hi => HALL.out i (by have := HN.out; omega)), Bool.true_and]; exact decide_eq_true (by have := HN.out; omega))
      go_wp2
      go_ret
      exact ⟨ret_bool HF.out.symm, hE⟩
theorem specAreCopies_ok (l : List Fmt) (cs : List Cpy) (v vc : Value) (w : World) (hv : Fmt.Rd w v l) (hc : Reads w 4 vc cs.length (cs.flatMap Cpy.enc)) (hl : l.length ≤ 1048576) (hll : ∀ p ∈ l, p.rd.length ≤ 1048576) (hnl : ∀ p ∈ l, p.na.length ≤ maxLen) (hcl : cs.length ≤ 1048576) :
    Calls Tryd.prog 31 #[v, vc] w fun e w' => e = .returned (.bool (goodCs l cs)) ∧ Ext w w' := by
  go_enter Tryd.func31, Tryd.ntmps31
  go_wp2_with fail
  refine (l7Copies_ok l cs _ _ _ hv hc hl hll hnl hcl).mono ?_
  rintro e w' ⟨rfl, E⟩
  go_wp2
  go_ret
  exact ⟨rfl, E⟩
end Go.Proofs.YtefabcnifbnehaaDoor
