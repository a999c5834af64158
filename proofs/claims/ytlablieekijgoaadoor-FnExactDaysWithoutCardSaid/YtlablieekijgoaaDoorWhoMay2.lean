/- What a pair of clerks and the days without one compute; no condition beyond the lengths that are named. -/
import Derived.Test.YtlablieekijgoaaDoorWhoMay
import Derived.Lib.QuietBelow
namespace Go.Proofs.YtlablieekijgoaaDoor
open Go.RowKit Go.Sort Go.Rd
theorem cons_of_pos {l : List Int} (h : ¬ l.length = 0) : ∃ a s, l = a :: s := by
  cases l with
  | nil => exact absurd rfl h
  | cons a s => exact ⟨a, s, rfl⟩

set_option maxHeartbeats 2000000 in
theorem specPairFor_ok (l : List Clk) (day : Int) (v : Value) (w : World) (hv : Reads w 6 v l.length (l.flatMap Clk.enc)) (hl : l.length ≤ 1048576) (hll : ∀ p ∈ l, p.na.length ≤ maxLen) :
    Calls Tryd.prog 26 #[v, .int .i64 day] w fun e w' => e = .returned (.tuple #[.int .i64 (pairO l day).1, .int .i64 (pairO l day).2.1, .bool (pairO l day).2.2]) ∧ Ext w w' := by
  have mixed : Tryd.prog.follows .mixedOrders = true := by kernel_rfl
  have HLL := Lib.hid hll
  obtain ⟨P, hP⟩ : ∃ P, pairO l day = P := ⟨_, rfl⟩
  rw [hP]
  have HP := Lib.hid hP
  clear hP hll
  go_enter Tryd.func26, Tryd.ntmps26
  go_wp2_with fail
  refine (l11Good_ok l _ _ hv hl HLL.out).mono ?_
  rintro e w1 ⟨rfl, E1⟩
  cases h1 : goodC l
  case false =>
    obtain rfl := HP.out.symm.trans (pairO_no (by unfold pairOk; rw [h1]; rfl))
    go_wp2
    go_ret3
    exact ⟨rfl, E1⟩
  go_wp2_with fail
  refine (l2Day_ok day _).mono ?_
  rintro e w' ⟨rfl, rfl⟩
  cases h2 : inB day 0 20000
  case false =>
    obtain rfl := HP.out.symm.trans (pairO_no (by unfold pairOk; rw [h1, h2]; rfl))
    go_wp2
    go_ret3
    exact ⟨rfl, E1⟩
  have HOK := Lib.hid (show pairOk l day = true by unfold pairOk; rw [h1, h2]; rfl)
  go_wp2_with fail
  refine (l11Who_ok l 2 day v _ (hv.mono E1) hl h1).mono ?_
  rintro e w3 ⟨v3, rfl, o3, E3⟩
  have E3' := Ext.trans E1 E3
  go_wp2_with fail
  refine (l11Who_ok l 8 day v _ (hv.mono E3') hl h1).mono ?_
  rintro e w4 ⟨v4, rfl, o4, E4⟩
  have E4' := Ext.trans E3' E4
  have r3 := o3.mono E4
  have r4 := o4
  obtain ⟨A, hA⟩ : ∃ A, whoL l 2 day = A := ⟨_, rfl⟩
  obtain ⟨B, hB⟩ : ∃ B, whoL l 8 day = B := ⟨_, rfl⟩
  rw [hA] at r3
  rw [hB] at r4
  obtain ⟨a3, cap3, rfl⟩ := r3.shape
  obtain ⟨a4, cap4, rfl⟩ := r4.shape
  have HA := Lib.hid hA
  have HB := Lib.hid hB
  clear hA hB o3 o4
  by_cases z3 : A.length = 0
  case pos =>
    obtain rfl := HP.out.symm.trans (pairO_a (HA.out.trans (List.eq_nil_of_length_eq_zero z3)))
    have z3' : ((A.length : Int) == 0) = true := by simp [z3]
    go_wp2
    go_ret3
    exact ⟨rfl, E4'⟩
  have z3' : ((A.length : Int) == 0) = false := by simp [z3]
  by_cases z4 : B.length = 0
  case pos =>
    obtain rfl := HP.out.symm.trans (pairO_b (HB.out.trans (List.eq_nil_of_length_eq_zero z4)))
    have z4' : ((B.length : Int) == 0) = true := by simp [z4]
    go_wp2
    go_ret3
    exact ⟨rfl, E4'⟩
  have z4' : ((B.length : Int) == 0) = false := by simp [z4]
  obtain ⟨a, s, rfl⟩ := cons_of_pos z3
  obtain ⟨b, t, rfl⟩ := cons_of_pos z4
  obtain rfl := HP.out.symm.trans (pairO_yes HOK.out HA.out HB.out)
  obtain ⟨b3, off3, rfl, hc3⟩ := Reads.elems encI_len r3 (by simp)
  obtain ⟨b4, off4, rfl, hc4⟩ := Reads.elems encI_len r4 (by simp)
  have c3 := hc3 0 a rfl 0 _ rfl
  have c4 := hc4 0 b rfl 0 _ rfl
  simp only [Nat.zero_mul, Nat.add_zero] at c3 c4
  have x3 := cell_in_class c3
  have x4 := cell_in_class c4
  have n3 : (0 : Int) < (s.length : Int) + 1 := by omega
  have n4 : (0 : Int) < (t.length : Int) + 1 := by omega
  have m3 : ((s.length : Int) + 1 == 0) = false := beq_eq_false_iff_ne.2 (by omega)
  have m4 : ((t.length : Int) + 1 == 0) = false := beq_eq_false_iff_ne.2 (by omega)
  clear hc3 hc4 r3 r4 hv
  go_upto_region 6 with fail
  refine wp_region_quiet_below mixed (by kernel_rfl) ?_
  repeat (first | go_big_quiet_step (fail) | quiet_step (fail))
  refine wpQuiet_nil ?_
  intro _ hw'
  obtain ⟨⟨dq, osq⟩, hw''⟩ := hw'
  subst hw''
  clear x3 x4
  go_wp2
  go_ret3
  exact ⟨rfl, E4'.regrown dq osq⟩
set_option maxHeartbeats 2000000 in
theorem pairFor_ok (l : List Clk) (day : Int) (v : Value) (w : World) (hv : Reads w 6 v l.length (l.flatMap Clk.enc)) (hl : l.length ≤ 1048576) (hll : ∀ p ∈ l, p.na.length ≤ maxLen) :
    Calls Tryd.prog 27 #[v, .int .i64 day] w fun e w' => e = .returned (.tuple #[.int .i64 (pairO l day).1, .int .i64 (pairO l day).2.1, .bool (pairO l day).2.2]) ∧ Ext w w' := by
  have mixed : Tryd.prog.follows .mixedOrders = true := by kernel_rfl
  have HLL := Lib.hid hll
  obtain ⟨P, hP⟩ : ∃ P, pairO l day = P := ⟨_, rfl⟩
  rw [hP]
  have HP := Lib.hid hP
  clear hP hll
  go_enter Tryd.func27, Tryd.ntmps27
  go_wp2_with fail
  refine (areClerks_ok l _ _ hv hl HLL.out).mono ?_
  rintro e w1 ⟨rfl, E1⟩
  cases h1 : goodC l
  case false =>
    obtain rfl := HP.out.symm.trans (pairO_no (by unfold pairOk; rw [h1]; rfl))
    go_wp2
    go_ret3
    exact ⟨rfl, E1⟩
  go_wp2_with fail
  refine (isDay_ok day _).mono ?_
  rintro e w' ⟨rfl, rfl⟩
  cases h2 : inB day 0 20000
  case false =>
    obtain rfl := HP.out.symm.trans (pairO_no (by unfold pairOk; rw [h1, h2]; rfl))
    go_wp2
    go_ret3
    exact ⟨rfl, E1⟩
  have HOK := Lib.hid (show pairOk l day = true by unfold pairOk; rw [h1, h2]; rfl)
  go_wp2_with fail
  refine (whoMay_ok l 2 day v _ (hv.mono E1) hl h1).mono ?_
  rintro e w3 ⟨v3, rfl, o3, E3⟩
  have E3' := Ext.trans E1 E3
  go_wp2_with fail
  refine (whoMay_ok l 8 day v _ (hv.mono E3') hl h1).mono ?_
  rintro e w4 ⟨v4, rfl, o4, E4⟩
  have E4' := Ext.trans E3' E4
  have r3 := (Reads.of_owns o3).mono E4
  have r4 := (Reads.of_owns o4)
  obtain ⟨A, hA⟩ : ∃ A, whoL l 2 day = A := ⟨_, rfl⟩
  obtain ⟨B, hB⟩ : ∃ B, whoL l 8 day = B := ⟨_, rfl⟩
  rw [hA] at r3
  rw [hB] at r4
  obtain ⟨a3, cap3, rfl⟩ := r3.shape
  obtain ⟨a4, cap4, rfl⟩ := r4.shape
  have HA := Lib.hid hA
  have HB := Lib.hid hB
  clear hA hB o3 o4
  by_cases z3 : A.length = 0
  case pos =>
    obtain rfl := HP.out.symm.trans (pairO_a (HA.out.trans (List.eq_nil_of_length_eq_zero z3)))
    have z3' : ((A.length : Int) == 0) = true := by simp [z3]
    go_wp2
    go_ret3
    exact ⟨rfl, E4'⟩
  have z3' : ((A.length : Int) == 0) = false := by simp [z3]
  by_cases z4 : B.length = 0
  case pos =>
    obtain rfl := HP.out.symm.trans (pairO_b (HB.out.trans (List.eq_nil_of_length_eq_zero z4)))
    have z4' : ((B.length : Int) == 0) = true := by simp [z4]
    go_wp2
    go_ret3
    exact ⟨rfl, E4'⟩
  have z4' : ((B.length : Int) == 0) = false := by simp [z4]
  obtain ⟨a, s, rfl⟩ := cons_of_pos z3
  obtain ⟨b, t, rfl⟩ := cons_of_pos z4
  obtain rfl := HP.out.symm.trans (pairO_yes HOK.out HA.out HB.out)
  obtain ⟨b3, off3, rfl, hc3⟩ := Reads.elems encI_len r3 (by simp)
  obtain ⟨b4, off4, rfl, hc4⟩ := Reads.elems encI_len r4 (by simp)
  have c3 := hc3 0 a rfl 0 _ rfl
  have c4 := hc4 0 b rfl 0 _ rfl
  simp only [Nat.zero_mul, Nat.add_zero] at c3 c4
  have x3 := cell_in_class c3
  have x4 := cell_in_class c4
  have n3 : (0 : Int) < (s.length : Int) + 1 := by omega
  have n4 : (0 : Int) < (t.length : Int) + 1 := by omega
  have m3 : ((s.length : Int) + 1 == 0) = false := beq_eq_false_iff_ne.2 (by omega)
  have m4 : ((t.length : Int) + 1 == 0) = false := beq_eq_false_iff_ne.2 (by omega)
  clear hc3 hc4 r3 r4 hv
  go_upto_region 6 with fail
  refine wp_region_quiet_below mixed (by kernel_rfl) ?_
  repeat (first | go_big_quiet_step (fail) | quiet_step (fail))
  refine wpQuiet_nil ?_
  intro _ hw'
  obtain ⟨⟨dq, osq⟩, hw''⟩ := hw'
  subst hw''
  clear x3 x4
  go_wp2
  go_ret3
  exact ⟨rfl, E4'.regrown dq osq⟩
set_option maxHeartbeats 4000000 in
theorem specDaysWithout_ok (l : List Clk) (rights fr tt : Int) (v : Value) (w : World) (hv : Reads w 6 v l.length (l.flatMap Clk.enc)) (hl : l.length ≤ 1048576) (hll : ∀ p ∈ l, p.na.length ≤ maxLen) :
    Calls Tryd.prog 41 #[v, .int .i64 rights, .int .i64 fr, .int .i64 tt] w (RetReadB w 1 (daysW l rights fr tt).length ((daysW l rights fr tt).flatMap encI) (daysOk l rights fr tt)) := by
  have HLL := Lib.hid hll
  obtain ⟨N, hN⟩ : ∃ N, daysW l rights fr tt = N := ⟨_, rfl⟩
  have HY := Lib.hid (fun h => hN.symm.trans (daysW_yes (l := l) (rights := rights) (fr := fr) (tt := tt) h))
  have HF := Lib.hid (fun h => hN.symm.trans (daysW_no (l := l) (rights := rights) (fr := fr) (tt := tt) h))
  rw [hN]
  obtain ⟨ok, hok⟩ : ∃ ok, daysOk l rights fr tt = ok := ⟨_, rfl⟩
  have HOK := Lib.hid hok
  rw [hok] at HY HF ⊢
  clear hN hok hll
  go_enter Tryd.func41, Tryd.ntmps41
  have e0 : Ext w (w.alloc (.cells #[] 3)) := (Ext.refl w).alloc _
  go_wp2_with fail
  refine (l11Good_ok l _ _ (hv.mono e0) hl HLL.out).mono ?_
  rintro e w1 ⟨rfl, F1⟩
  have E1 := Ext.trans e0 F1
  cases h1 : goodC l
  case false =>
    obtain rfl : ok = false := by rw [← HOK.out, daysOk, h1]; rfl
    obtain rfl := HF.out rfl
    go_wp2
    go_ret2
    exact ⟨_, rfl, (OutR.empty w w 3 1 _).reads.mono E1, E1⟩
  go_wp2_with fail
  refine (l11Sum_ok rights _).mono ?_
  rintro e w' ⟨rfl, rfl⟩
  cases h2 : inB rights 1 15
  case false =>
    obtain rfl : ok = false := by rw [← HOK.out, daysOk, h1, h2]; rfl
    obtain rfl := HF.out rfl
    go_wp2
    go_ret2
    exact ⟨_, rfl, (OutR.empty w w 3 1 _).reads.mono E1, E1⟩
  go_wp2_with fail
  refine (l2Day_ok tt _).mono ?_
  rintro e w' ⟨rfl, rfl⟩
  cases h3 : inB tt 0 20000
  case false =>
    obtain rfl : ok = false := by rw [← HOK.out, daysOk, h1, h2, h3]; rfl
    obtain rfl := HF.out rfl
    go_wp2
    go_ret2
    exact ⟨_, rfl, (OutR.empty w w 3 1 _).reads.mono E1, E1⟩
  go_wp2_with fail
  refine (l1In_ok fr 0 tt _).mono ?_
  rintro e w' ⟨rfl, rfl⟩
  cases h4 : inB fr 0 tt
  case false =>
    obtain rfl : ok = false := by rw [← HOK.out, daysOk, h1, h2, h3, h4]; rfl
    obtain rfl := HF.out rfl
    go_wp2
    go_ret2
    exact ⟨_, rfl, (OutR.empty w w 3 1 _).reads.mono E1, E1⟩
  have b3 := inB_true.1 h3
  have b4 := inB_true.1 h4
  have hw : IntKind.i64.wrap (tt - fr) = tt - fr := IntWalk.i64_in _ (by omega)
  by_cases h5 : tt - fr ≤ 200
  case neg =>
    obtain rfl : ok = false := by rw [← HOK.out, daysOk, h1, h2, h3, h4, decide_eq_false h5]; rfl
    obtain rfl := HF.out rfl
    go_wp2
    go_ret2
    exact ⟨_, rfl, (OutR.empty w w 3 1 _).reads.mono E1, E1⟩
  obtain rfl : ok = true := by rw [← HOK.out, daysOk, h1, h2, h3, h4, decide_eq_true h5]; rfl
  have HN := Lib.hid (HY.out rfl)
  clear HY HF HOK h3 h4
  obtain ⟨n, hn⟩ : ∃ n, (tt - fr + 1).toNat = n := ⟨_, rfl⟩
  rw [hn] at HN
  have hn2 : (n : Int) = tt - fr + 1 := by omega
  clear hn
  go_wp2
  go_loopw [10, 11] (fun out i wr => ∃ k : Nat, k ≤ n ∧ i = .int .i64 (fr + (k : Int)) ∧ OutR w1 wr 3 1 out (daysN l rights fr n k).length ((daysN l rights fr n k).flatMap encI) ∧ Ext w1 wr) (fun _ i _ => (tt + 1 - intOf i).toNat)
  case atStart => exact ⟨0, Nat.zero_le _, by simp, OutR.empty _ _ _ _ _, Ext.refl _⟩
  case round =>
    obtain ⟨k, hk, rfl, ho, hE⟩ := hrel
    have hwk : IntKind.i64.wrap (fr + (k : Int) + 1) = fr + (k : Int) + 1 := IntWalk.i64_in _ (by omega)
    by_cases hlt : k < n
    · have hle : fr + (k : Int) ≤ tt := by omega
      have hflen := daysN_len l rights fr n k
      go_wp2_with fail
      refine (l11Who_ok l rights (fr + (k : Int)) v _ (hv.mono (Ext.trans E1 hE)) hl h1).mono ?_
      rintro e w4 ⟨v4, rfl, o4, E4⟩
      obtain ⟨a4, cap4, rfl⟩ := o4.shape
      have hE4 := Ext.trans hE E4
      have ho4 := OutR.ext E4 ho
      have HYN := Lib.hid (daysN_yes (l := l) (rights := rights) (fr := fr) hlt)
      have HNN := Lib.hid (daysN_no (l := l) (rights := rights) (fr := fr) hlt)
      obtain ⟨m, hm⟩ : ∃ m, (whoL l rights (fr + (k : Int))).length = m := ⟨_, rfl⟩
      rw [hm] at HYN HNN ⊢
      clear hm o4
      by_cases hz : m = 0
      case neg =>
        have HK := Lib.hid (HNN.out hz)
        have hzb : ((m : Int) == 0) = false := by simp [hz]
        go_wp2
        go_roundw
        case rel => exact ⟨k + 1, by omega, by simp; omega, by rw [HK.out]; exact ho4, hE4⟩
        case measure => simp [intOf]; omega
      have HK := Lib.hid (HYN.out hz)
      have hzb : ((m : Int) == 0) = true := by simp [hz]
      go_wp2_with (at_builtin; refine wpl_appendR w1 _ rfl _ _ 48 rfl 3 _ 1 8 Tryd.underlying48 Tryd.infoInt rfl (by decide) (by decide) _ _ _ hE4 ho4 ?c1 [.int .i64 (fr + (k : Int))] rfl rfl rfl (encI_one _) ?_)
      case c1 => omega
      intro v' w6 o6 E6 _
      go_wp2
      go_roundw
      case rel => exact ⟨k + 1, by omega, by simp; omega, by rw [HK.out]; simpa [encI] using o6, E6⟩
      case measure => simp [intOf]; omega
    · have hkn : k = n := by omega
      subst hkn
      have hle : ¬ fr + (k : Int) ≤ tt := by omega
      rw [← HN.out] at ho
      go_wp2
      go_ret2
      exact ⟨_, rfl, ho.reads, Ext.trans E1 hE⟩
set_option maxHeartbeats 4000000 in
theorem daysWithout_ok (l : List Clk) (rights fr tt : Int) (v : Value) (w : World) (hv : Reads w 6 v l.length (l.flatMap Clk.enc)) (hl : l.length ≤ 1048576) (hll : ∀ p ∈ l, p.na.length ≤ maxLen) :
    Calls Tryd.prog 42 #[v, .int .i64 rights, .int .i64 fr, .int .i64 tt] w (RetOwnB w 3 1 (daysW l rights fr tt).length ((daysW l rights fr tt).flatMap encI) (daysOk l rights fr tt)) := by
  have HLL := Lib.hid hll
  obtain ⟨N, hN⟩ : ∃ N, daysW l rights fr tt = N := ⟨_, rfl⟩
  have HY := Lib.hid (fun h => hN.symm.trans (daysW_yes (l := l) (rights := rights) (fr := fr) (tt := tt) h))
  have HF := Lib.hid (fun h => hN.symm.trans (daysW_no (l := l) (rights := rights) (fr := fr) (tt := tt) h))
  rw [hN]
  obtain ⟨ok, hok⟩ : ∃ ok, daysOk l rights fr tt = ok := ⟨_, rfl⟩
  have HOK := Lib.hid hok
  rw [hok] at HY HF ⊢
  clear hN hok hll
  go_enter Tryd.func42, Tryd.ntmps42
  go_wp2_with fail
  refine (areClerks_ok l _ _ hv hl HLL.out).mono ?_
  rintro e w1 ⟨rfl, E1⟩
  cases h1 : goodC l
  case false =>
    obtain rfl : ok = false := by rw [← HOK.out, daysOk, h1]; rfl
    obtain rfl := HF.out rfl
    go_wp2
    go_ret2
    exact ⟨_, rfl, World.ownsRow_nil _ _ _ _, E1⟩
  go_wp2_with fail
  refine (isNeed_ok rights _).mono ?_
  rintro e w' ⟨rfl, rfl⟩
  cases h2 : inB rights 1 15
  case false =>
    obtain rfl : ok = false := by rw [← HOK.out, daysOk, h1, h2]; rfl
    obtain rfl := HF.out rfl
    go_wp2
    go_ret2
    exact ⟨_, rfl, World.ownsRow_nil _ _ _ _, E1⟩
  have HD := Lib.hid (show (inB fr 0 20000 && inB tt fr 20000) = (inB tt 0 20000 && inB fr 0 tt) by
    unfold inB; rw [← Bool.decide_and, ← Bool.decide_and]; exact decide_eq_decide.2 (by omega))
  go_wp2_with fail
  refine (areDays_ok fr tt _).mono ?_
  rintro e w' ⟨rfl, rfl⟩
  rw [HD.out]
  cases h34 : (inB tt 0 20000 && inB fr 0 tt)
  case false =>
    obtain rfl : ok = false := by rw [← HOK.out, daysOk, h1, h2, ← Bool.and_assoc (inB tt 0 20000), h34]; rfl
    obtain rfl := HF.out rfl
    go_wp2
    go_ret2
    exact ⟨_, rfl, World.ownsRow_nil _ _ _ _, E1⟩
  obtain ⟨h3, h4⟩ : inB tt 0 20000 = true ∧ inB fr 0 tt = true := by simpa using h34
  have b3 := inB_true.1 h3
  have b4 := inB_true.1 h4
  have hw : IntKind.i64.wrap (tt - fr) = tt - fr := IntWalk.i64_in _ (by omega)
  by_cases h5 : tt - fr ≤ 200
  case neg =>
    obtain rfl : ok = false := by rw [← HOK.out, daysOk, h1, h2, h3, h4, decide_eq_false h5]; rfl
    obtain rfl := HF.out rfl
    go_wp2
    go_ret2
    exact ⟨_, rfl, World.ownsRow_nil _ _ _ _, E1⟩
  obtain rfl : ok = true := by rw [← HOK.out, daysOk, h1, h2, h3, h4, decide_eq_true h5]; rfl
  have HN := Lib.hid (HY.out rfl)
  clear HY HF HOK h3 h4
  obtain ⟨n, hn⟩ : ∃ n, (tt - fr + 1).toNat = n := ⟨_, rfl⟩
  rw [hn] at HN
  have hn2 : (n : Int) = tt - fr + 1 := by omega
  clear hn
  go_wp2
  go_loopw [10, 11] (fun out i wr => ∃ k : Nat, k ≤ n ∧ i = .int .i64 (fr + (k : Int)) ∧ wr.ownsRow w1.heap.size 3 1 out (daysN l rights fr n k).length ((daysN l rights fr n k).flatMap encI) ∧ Ext w1 wr) (fun _ i _ => (tt + 1 - intOf i).toNat)
  case atStart => exact ⟨0, Nat.zero_le _, by simp, World.ownsRow_nil _ _ _ _, Ext.refl _⟩
  case round =>
    obtain ⟨k, hk, rfl, ho, hE⟩ := hrel
    have hwk : IntKind.i64.wrap (fr + (k : Int) + 1) = fr + (k : Int) + 1 := IntWalk.i64_in _ (by omega)
    by_cases hlt : k < n
    · have hle : fr + (k : Int) ≤ tt := by omega
      have hflen := daysN_len l rights fr n k
      go_wp2_with fail
      refine (whoMay_ok l rights (fr + (k : Int)) v _ (hv.mono (Ext.trans E1 hE)) hl h1).mono ?_
      rintro e w4 ⟨v4, rfl, o4, E4⟩
      obtain ⟨a4, cap4, rfl⟩ := (Reads.of_owns o4).shape
      have hE4 := Ext.trans hE E4
      have ho4 := E4.owns ho
      have HYN := Lib.hid (daysN_yes (l := l) (rights := rights) (fr := fr) hlt)
      have HNN := Lib.hid (daysN_no (l := l) (rights := rights) (fr := fr) hlt)
      obtain ⟨m, hm⟩ : ∃ m, (whoL l rights (fr + (k : Int))).length = m := ⟨_, rfl⟩
      rw [hm] at HYN HNN ⊢
      clear hm o4
      by_cases hz : m = 0
      case neg =>
        have HK := Lib.hid (HNN.out hz)
        have hzb : ((m : Int) == 0) = false := by simp [hz]
        go_wp2
        go_roundw
        case rel => exact ⟨k + 1, by omega, by simp; omega, by rw [HK.out]; exact ho4, hE4⟩
        case measure => simp [intOf]; omega
      have HK := Lib.hid (HYN.out hz)
      have hzb : ((m : Int) == 0) = true := by simp [hz]
      go_wp2_with (at_builtin; refine wpl_append1 w1 _ rfl _ _ 48 rfl 3 _ 1 8 Tryd.underlying48 Tryd.infoInt rfl (by decide) (by decide) _ _ _ hE4 ho4 ?c1 [.int .i64 (fr + (k : Int))] rfl rfl rfl (encI_one _) ?_)
      case c1 => omega
      intro v' w6 o6 E6 _
      go_wp2
      go_roundw
      case rel => exact ⟨k + 1, by omega, by simp; omega, by rw [HK.out]; simpa [encI] using o6, E6⟩
      case measure => simp [intOf]; omega
    · have hkn : k = n := by omega
      subst hkn
      have hle : ¬ fr + (k : Int) ≤ tt := by omega
      rw [← HN.out] at ho
      go_wp2
      go_ret2
      exact ⟨_, rfl, owns_mono ho E1.size, Ext.trans E1 hE⟩
end Go.Proofs.YtlablieekijgoaaDoor
