/- What WaysTo and LongestLived compute, the program's and the reference's; no condition beyond the lengths and rooms that are named. -/
import Derived.Test.YtefabcnifbnehaaDoorWays2
import Derived.Test.YtefabcnifbnehaaDoorLongData
namespace Go.Proofs.YtefabcnifbnehaaDoor
open Go.RowKit Go.Sort Go.Rd
theorem waysOk_parts {l : List Fmt} {id day : Int} (h : waysOk l id day = true) : goodF l = true ∧ 0 ≤ atF l id := by
  simp only [waysOk, Bool.and_eq_true, decide_eq_true_eq] at h; exact h.1
set_option maxHeartbeats 1000000 in
theorem specWaysTo_ok (l : List Fmt) (id day : Int) (v : Value) (w : World) (hv : Fmt.Rd w v l) (hl : l.length ≤ 1048576) (hll : ∀ p ∈ l, p.rd.length ≤ 1048576) (hnl : ∀ p ∈ l, p.na.length ≤ maxLen) :
    Calls Tryd.prog 18 #[v, .int .i64 id, .int .i64 day] w fun e w' => ∃ v', e = .returned (.tuple #[v', .bool (waysOk l id day)]) ∧ Reads w' 1 v' (waysR l id day).length ((waysR l id day).flatMap Go.Rd.encI) ∧ Ext w w' := by
  obtain ⟨ok, hok⟩ : ∃ b, waysOk l id day = b := ⟨_, rfl⟩
  have HR := Lib.hid hok
  have HY := Lib.hid (fun h => waysR_yes (l := l) (id := id) (day := day) (hok.trans h))
  have HN := Lib.hid (fun h => waysR_no (l := l) (id := id) (day := day) (hok.trans h))
  obtain ⟨N, hN⟩ : ∃ z, waysR l id day = z := ⟨_, rfl⟩
  rw [hN] at HY HN
  rw [hok, hN]
  clear hok hN
  go_enter Tryd.func18, Tryd.ntmps18
  go_wp2_with fail
  refine (l7Good_ok l _ _ hv hl hll hnl).mono ?_
  rintro e w1 ⟨rfl, E1⟩
  cases t1 : goodF l
  case false =>
    obtain rfl : ok = false := by rw [← HR.out, waysOk, t1]; rfl
    obtain rfl := HN.out rfl
    go_wp2
    go_ret2
    exact ⟨_, rfl, (OutR.empty w w 3 1 _).reads.mono (E1.alloc _), E1.alloc _⟩
  go_wp2_with fail
  refine (l7Find_ok l id _ _ (hv.mono E1) hl).mono ?_
  rintro e w2 ⟨rfl, E2⟩
  have E2' := Ext.trans E1 E2
  obtain ⟨z, hz⟩ : ∃ z, atF l id = z := ⟨_, rfl⟩
  have HZ := Lib.hid hz
  rw [hz]
  clear hz
  by_cases hz0 : z < 0
  case pos =>
    obtain rfl : ok = false := by rw [← HR.out, waysOk, t1, HZ.out, decide_eq_false (by omega)]; rfl
    obtain rfl := HN.out rfl
    go_wp2
    go_ret2
    exact ⟨_, rfl, (OutR.empty w w 3 1 _).reads.mono (E2'.alloc _), E2'.alloc _⟩
  go_wp2_with fail
  refine (l2Day_ok day _).mono ?_
  rintro e w' ⟨rfl, rfl⟩
  cases t2 : inB day 0 20000
  case false =>
    obtain rfl : ok = false := by rw [← HR.out, waysOk, t1, HZ.out, decide_eq_true (by omega), t2]; rfl
    obtain rfl := HN.out rfl
    go_wp2
    go_ret2
    exact ⟨_, rfl, (OutR.empty w w 3 1 _).reads.mono (E2'.alloc _), E2'.alloc _⟩
  obtain rfl : ok = true := by rw [← HR.out, waysOk, t1, HZ.out, decide_eq_true (by omega), t2]; rfl
  obtain rfl := HY.out rfl
  go_wp2_with fail
  refine (l7Ways_ok l id day _ _ t1 (by have := HZ.out; omega) (hv.mono E2') hl hll).mono ?_
  rintro e w3 ⟨v3, rfl, o3, r3, E3⟩
  go_wp2
  go_ret2
  exact ⟨_, rfl, o3, Ext.trans E2' E3⟩
set_option maxHeartbeats 1000000 in
theorem waysToTop_ok (l : List Fmt) (id day : Int) (v : Value) (w : World) (hv : Fmt.Rd w v l) (hcap : Room v) (hl : l.length ≤ 1048576) (hll : ∀ p ∈ l, p.rd.length ≤ 1048576) (hnl : ∀ p ∈ l, p.na.length ≤ maxLen) :
    Calls Tryd.prog 19 #[v, .int .i64 id, .int .i64 day] w (RetOwnB w 3 1 (waysR l id day).length ((waysR l id day).flatMap Go.Rd.encI) (waysOk l id day)) := by
  obtain ⟨ok, hok⟩ : ∃ b, waysOk l id day = b := ⟨_, rfl⟩
  have HR := Lib.hid hok
  have HY := Lib.hid (fun h => waysR_yes (l := l) (id := id) (day := day) (hok.trans h))
  have HN := Lib.hid (fun h => waysR_no (l := l) (id := id) (day := day) (hok.trans h))
  obtain ⟨N, hN⟩ : ∃ z, waysR l id day = z := ⟨_, rfl⟩
  rw [hN] at HY HN
  rw [hok, hN]
  clear hN
  go_enter Tryd.func19, Tryd.ntmps19
  go_wp2_with fail
  refine (isOnDay_ok l id day _ _ hv hcap hl hll hnl).mono ?_
  rintro e w1 ⟨rfl, E1⟩
  rw [hok]
  clear hok
  cases ok
  case false =>
    obtain rfl := HN.out rfl
    go_wp2
    go_ret2
    exact ⟨_, rfl, World.ownsRow_nil _ _ _ _, E1⟩
  obtain rfl := HY.out rfl
  obtain ⟨hg, h0⟩ := waysOk_parts HR.out
  go_wp2_with fail
  refine (waysTo_ok l id day _ _ hg h0 (hv.mono E1) hl hll).mono ?_
  rintro e w3 ⟨v3, rfl, o3, E3⟩
  clear h0
  go_wp2
  go_ret2
  exact ⟨_, rfl, owns_mono o3 E1.size, Ext.trans E1 E3⟩
set_option maxHeartbeats 4000000 in
theorem specLongestLived_ok (l : List Fmt) (id day : Int) (v : Value) (w : World) (hv : Fmt.Rd w v l) (hl : l.length ≤ 1048576) (hll : ∀ p ∈ l, p.rd.length ≤ 1048576) (hnl : ∀ p ∈ l, p.na.length ≤ maxLen) :
    Calls Tryd.prog 14 #[v, .int .i64 id, .int .i64 day] w fun e w' => e = .returned (.tuple #[.int .i64 (longL l id day), .bool (waysOk l id day)]) ∧ Ext w w' := by
  have mixed : Tryd.prog.follows .mixedOrders = true := by kernel_rfl
  obtain ⟨ok, hok⟩ : ∃ b, waysOk l id day = b := ⟨_, rfl⟩
  have HR := Lib.hid hok
  have HY := Lib.hid (fun h => longL_yes (l := l) (id := id) (day := day) (hok.trans h))
  have HN := Lib.hid (fun h => longL_no (l := l) (id := id) (day := day) (hok.trans h))
  have HWY := Lib.hid (fun h => waysR_yes (l := l) (id := id) (day := day) (hok.trans h))
  obtain ⟨D, hD⟩ : ∃ z, longL l id day = z := ⟨_, rfl⟩
  rw [hD] at HY HN
  rw [hok, hD]
  clear hD
  go_enter Tryd.func14, Tryd.ntmps14
  go_wp2_with fail
  refine (specWaysTo_ok l id day _ _ hv hl hll hnl).mono ?_
  rintro e w1 ⟨v1, rfl, o1, E1⟩
  rw [hok]
  clear hok
  cases ok
  case false =>
    obtain rfl := HN.out rfl
    go_wp2
    go_ret2
    exact ⟨rfl, E1⟩
  obtain ⟨hg, h0⟩ := waysOk_parts HR.out
  rw [HWY.out rfl] at o1
  have HD := Lib.hid (HY.out rfl)
  have hpos := ways_pos (day := day) h0
  have HID := Lib.hid (fun x (hx : x ∈ waysL l id day) => ways_id h0 hx)
  have HSND := Lib.hid (bestK_snd hg (ws := waysL l id day) HID.out)
  have hWl := waysL_length l id day
  have HEND := Lib.hid (fun k h => bestK_end (l := l) (ws := waysL l id day) (k := k) h)
  have HONE : Hid (∀ x, (waysL l id day)[0]? = some x → bestK l (waysL l id day) 1 = (x, unF l x)) := Lib.hid fun x hx => bestK_yes hx (by rw [bestK_zero]; have := unF_nonneg hg (HID.out x (List.mem_of_getElem? hx)); simp only; omega)
  obtain ⟨W, hW⟩ : ∃ W, waysL l id day = W := ⟨_, rfl⟩
  rw [hW] at o1 HD hpos HID HSND hWl HEND HONE
  clear HY HN HWY hW h0 HR
  obtain ⟨a1, cap1, rfl⟩ := o1.shape
  obtain ⟨b, off, rfl, hc⟩ := Reads.elems Go.Rd.encI_len o1 hpos
  obtain ⟨x0, hx0⟩ := get_of_lt hpos
  have c0 := hc 0 _ hx0 0 _ rfl
  simp only [Nat.add_zero, Nat.mul_one] at c0
  have HB1 := Lib.hid (HONE.out x0 hx0)
  clear hc hx0
  obtain ⟨av, cv, rfl⟩ := hv.shape
  go_wp2
  go_loopw [10, 11] (fun bst i wr => ∃ k : Nat, 1 ≤ k ∧ k ≤ W.length ∧ i = .int .i64 k ∧ bst = .int .i64 (bestK l W k).1 ∧ Ext w1 wr) (fun _ i _ => W.length - (intOf i).toNat)
  case atStart => exact ⟨1, Nat.le_refl _, hpos, rfl, by rw [HB1.out], Ext.refl _⟩
  case round =>
    obtain ⟨k, hk1, hk, rfl, rfl, hE⟩ := hrel
    have hE' := Ext.trans E1 hE
    clear c0
    by_cases hlt : k < W.length
    · obtain ⟨b2, off2, hb, hc⟩ := Reads.elems Go.Rd.encI_len (Reads.mono hE o1) hpos
      simp only [Option.some.injEq, Addr.mk.injEq, and_true] at hb
      obtain ⟨rfl, rfl⟩ := hb
      obtain ⟨x, hx⟩ := get_of_lt hlt
      have d0 := hc k _ hx 0 _ rfl
      simp only [Nat.add_zero, Nat.mul_one] at d0
      obtain ⟨hs1, hs2⟩ := HSND.out (k - 1) (by omega)
      rw [show k - 1 + 1 = k by omega] at hs1 hs2
      have HX := Lib.hid hx
      have HBY := Lib.hid (fun h => bestK_yes (l := l) hx h)
      have HBN := Lib.hid (fun h => bestK_no (l := l) hx h)
      obtain ⟨⟨B, U⟩, hB⟩ : ∃ z, bestK l W k = z := ⟨_, rfl⟩
      rw [hB] at hs1 hs2 HBY HBN ⊢
      simp only at hs1 hs2 HBY HBN ⊢
      obtain ⟨j1, f1, hj1, hf1, _⟩ := atF_mem (HID.out x (List.mem_of_getElem? hx))
      obtain ⟨j2, f2, hj2, hf2, _⟩ := atF_mem (HID.out B hs2)
      have hu1 := unF_at hj1 hf1
      have hu2 := unF_at hj2 hf2
      have hl1 := (List.getElem?_eq_some_iff.1 hf1).1
      have hl2 := (List.getElem?_eq_some_iff.1 hf2).1
      obtain ⟨bl, ol, rfl⟩ := Fmt.Rd.addr (hv.mono hE') (by omega)
      obtain ⟨_, _, _, _, y1, _, _⟩ := Fmt.Rd.cells (hv.mono hE') hf1
      obtain ⟨_, _, _, _, y2, _, _⟩ := Fmt.Rd.cells (hv.mono hE') hf2
      have z1 := cell_in_class y1
      have z2 := cell_in_class y2
      have e0 := cell_in_class d0
      have q := fun id => Calls.in_class (w := wr) (fun w' hw' => l7Find_ok l id _ w' (hv.mono (Ext.trans hE' hw')) hl)
      have HU1 := Lib.hid hu1
      have HU2 : Hid (U = f2.un) := Lib.hid (hs1.trans hu2)
      have n1 : (j1 : Int) < (l.length : Int) := by omega
      have n2 : (j2 : Int) < (l.length : Int) := by omega
      have n3 : (k : Int) < (W.length : Int) := by omega
      clear hc hx hB hs1 hs2 hf1 hf2 hu1 hu2 y1 y2 hl1 hl2
      go_upto_region 8 with fail
      go_cut [47] (fun c wx => c = .bool (decide (f2.un < f1.un)) ∧ Ext wr wx)
      case first =>
        refine wp_region_quiet_below mixed (by kernel_rfl) ?_
        repeat (first | go_big_quiet_step (exact q _ _ _) | quiet_step (exact q _ _ _))
        refine wpQuiet_nil ?_
        intro _ hw'
        obtain ⟨⟨dq, osq⟩, hw''⟩ := hw'
        subst hw''
        clear q z1 z2 e0 hj1 hj2
        go_wp2
        go_meet
        exact ⟨rfl, (Ext.refl wr).regrown dq osq⟩
      case rest =>
      obtain ⟨rfl, E5⟩ := hcut
      have d0 := E5.cell d0
      have hE5 := Ext.trans hE E5
      clear q z1 z2 e0 hj1 hj2
      by_cases hlt2 : f2.un < f1.un
      case pos =>
        have HK := Lib.hid (HBY.out (by rw [HU1.out, HU2.out]; omega))
        clear HBY HBN HU1 HU2
        go_wp2
        go_roundw
        case rel => exact ⟨k + 1, by omega, by omega, by go_num, by rw [HK.out], hE5⟩
        case measure => simp [intOf]; omega
      have HK := Lib.hid (HBN.out (by rw [HU1.out, HU2.out]; omega))
      clear HBY HBN HU1 HU2
      go_wp2
      go_roundw
      case rel => exact ⟨k + 1, by omega, by omega, by go_num, by rw [HK.out], hE5⟩
      case measure => simp [intOf]; omega
    · have HF : Hid ((bestK l W k).1 = D) := Lib.hid (by rw [HEND.out k (by omega)]; exact HD.out.symm)
      rw [HF.out]
      go_wp2
      go_ret2
      exact ⟨rfl, hE'⟩
set_option maxHeartbeats 4000000 in
theorem longestLived_ok (l : List Fmt) (id day : Int) (v : Value) (w : World) (hv : Fmt.Rd w v l) (hcap : Room v) (hl : l.length ≤ 1048576) (hll : ∀ p ∈ l, p.rd.length ≤ 1048576) (hnl : ∀ p ∈ l, p.na.length ≤ maxLen) :
    Calls Tryd.prog 16 #[v, .int .i64 id, .int .i64 day] w fun e w' => e = .returned (.tuple #[.int .i64 (longL l id day), .bool (waysOk l id day)]) ∧ Ext w w' := by
  have mixed : Tryd.prog.follows .mixedOrders = true := by kernel_rfl
  obtain ⟨ok, hok⟩ : ∃ b, waysOk l id day = b := ⟨_, rfl⟩
  have HR := Lib.hid hok
  have HY := Lib.hid (fun h => longL_yes (l := l) (id := id) (day := day) (hok.trans h))
  have HN := Lib.hid (fun h => longL_no (l := l) (id := id) (day := day) (hok.trans h))
  obtain ⟨D, hD⟩ : ∃ z, longL l id day = z := ⟨_, rfl⟩
  rw [hD] at HY HN
  rw [hok, hD]
  clear hD
  go_enter Tryd.func16, Tryd.ntmps16
  go_wp2_with fail
  refine (isOnDay_ok l id day _ _ hv hcap hl hll hnl).mono ?_
  rintro e w0 ⟨rfl, E0⟩
  rw [hok]
  clear hok
  cases ok
  case false =>
    obtain rfl := HN.out rfl
    go_wp2
    go_ret2
    exact ⟨rfl, E0⟩
  have HD := Lib.hid (HY.out rfl)
  obtain ⟨hg, h0⟩ := waysOk_parts HR.out
  go_wp2_with fail
  refine (waysTo_ok l id day _ _ hg h0 (hv.mono E0) hl hll).mono ?_
  rintro e w1 ⟨v1, rfl, p1, E01⟩
  have E1 := Ext.trans E0 E01
  have o1 := Reads.of_owns p1
  have HID := Lib.hid (fun x (hx : x ∈ waysL l id day) => ways_id h0 hx)
  have hWl := waysL_length l id day
  obtain ⟨W, hW⟩ : ∃ W, waysL l id day = W := ⟨_, rfl⟩
  rw [hW] at o1 HD HID hWl
  rw [hW] at *
  clear HY HN hW h0 HR p1
  obtain ⟨a1, cap1, rfl⟩ := o1.shape
  obtain ⟨av, cv, rfl⟩ := hv.shape
  go_wp2
  go_loopw [8, 9, 23] (fun bst unt i wr => ∃ k : Nat, k ≤ W.length ∧ i = .int .i64 k ∧ bst = .int .i64 (bestK l W k).1 ∧ unt = .int .i64 (bestK l W k).2 ∧ Ext w1 wr) (fun _ _ i _ => W.length - (intOf i).toNat)
  case atStart => exact ⟨0, Nat.zero_le _, rfl, by rw [bestK_zero], by rw [bestK_zero], Ext.refl _⟩
  case round =>
    obtain ⟨k, hk, rfl, rfl, rfl, hE⟩ := hrel
    have hE' := Ext.trans E1 hE
    by_cases hlt : k < W.length
    · obtain ⟨b2, off2, rfl, hc⟩ := Reads.elems Go.Rd.encI_len (Reads.mono hE o1) (by omega)
      obtain ⟨x, hx⟩ := get_of_lt hlt
      have d0 := hc k _ hx 0 _ rfl
      simp only [Nat.add_zero, Nat.mul_one] at d0
      have HBY := Lib.hid (fun h => bestK_yes (l := l) hx h)
      have HBN := Lib.hid (fun h => bestK_no (l := l) hx h)
      obtain ⟨⟨B, U⟩, hB⟩ : ∃ z, bestK l W k = z := ⟨_, rfl⟩
      rw [hB] at HBY HBN ⊢
      simp only at HBY HBN ⊢
      obtain ⟨j1, f1, hj1, hf1, hfx⟩ := atF_mem (HID.out x (List.mem_of_getElem? hx))
      clear hfx
      have HU1 := Lib.hid (unF_at hj1 hf1)
      have hl1 := (List.getElem?_eq_some_iff.1 hf1).1
      obtain ⟨bl, ol, rfl⟩ := Fmt.Rd.addr (hv.mono hE') (by omega)
      have n1 : (j1 : Int) < (l.length : Int) := by omega
      have HJ := Lib.hid hj1
      have HF := Lib.hid hf1
      clear hc hx hB hj1 hf1 hl1
      go_wp2_with fail
      refine (formatAt_ok l x _ _ (hv.mono hE') hl).mono ?_
      rw [HJ.out]
      rintro e w3 ⟨rfl, E3⟩
      have hE3 := Ext.trans hE' E3
      have hE13 := Ext.trans hE E3
      obtain ⟨ca, cc, y0, y1, y2, y3, _⟩ := Fmt.Rd.cells (hv.mono hE3) HF.out
      obtain ⟨w4, hw4⟩ : ∃ w4, w4 = w3.alloc (.cells #[.int .i64 f1.id, .string ⟨f1.na.toArray⟩, .int .i64 f1.un, .slice ca f1.rd.length cc] 60) := ⟨_, rfl⟩
      have E34 : Ext w3 w4 := by rw [hw4]; exact (Ext.refl _).alloc _
      have z2 : w4.cell? ⟨w3.heap.size, 2, none⟩ = some (.int .i64 f1.un) := by rw [hw4]; simp
      have hE4 := Ext.trans hE13 E34
      go_upto_region 8 with fail
      rw [← hw4]
      clear hw4 y0 y1 y2 y3 d0
      by_cases hlt2 : U < f1.un
      case neg =>
        have HK := Lib.hid (HBN.out (by rw [HU1.out]; omega))
        go_wp2
        go_roundw
        case rel => exact ⟨k + 1, by omega, by go_num, by rw [HK.out], by rw [HK.out], hE4⟩
        case measure => simp [intOf]; omega
      have HK := Lib.hid (HBY.out (by rw [HU1.out]; omega))
      have z2 := cell_in_class z2
      go_upto_region 9 with fail
      refine wp_region_quiet_below mixed (by kernel_rfl) ?_
      repeat (first | go_big_quiet_step (fail) | quiet_step (fail))
      refine wpQuiet_nil ?_
      intro _ hw'
      obtain ⟨⟨dq, osq⟩, hw''⟩ := hw'
      subst hw''
      clear z2
      go_wp2
      go_roundw
      case rel => exact ⟨k + 1, by omega, by go_num, by rw [HK.out], by rw [HK.out, HU1.out], hE4.regrown dq osq⟩
      case measure => simp [intOf]; omega
    · have HF : Hid ((bestK l W k).1 = D) := Lib.hid (by rw [bestK_end (by omega)]; exact HD.out.symm)
      rw [HF.out]
      go_wp2
      go_ret2
      exact ⟨rfl, hE'⟩
end Go.Proofs.YtefabcnifbnehaaDoor
