/- What Unseen computes, the program's and the reference's; no condition beyond the lengths and rooms that are named. -/
import Derived.Test.YtefabcnifbnehaaDoorCopL
import Derived.Test.YtefabcnifbnehaaDoorAppR
namespace Go.Proofs.YtefabcnifbnehaaDoor
open Go.RowKit Go.Sort Go.Rd
set_option maxHeartbeats 4000000 in
theorem specUnseen_ok (l : List Fmt) (cs : List Cpy) (day days : Int) (v vc : Value) (w : World) (hv : Fmt.Rd w v l) (hc : Reads w 4 vc cs.length (cs.flatMap Cpy.enc)) (hl : l.length ≤ 1048576) (hll : ∀ p ∈ l, p.rd.length ≤ 1048576) (hnl : ∀ p ∈ l, p.na.length ≤ maxLen) (hcl : cs.length ≤ 1048576) :
    Calls Tryd.prog 40 #[v, vc, .int .i64 day, .int .i64 days] w (RetReadB w 1 (unsL l cs day days).length ((unsL l cs day days).flatMap encI) (unsOk l cs day days)) := by
  have e0 : Ext w (w.alloc (.cells #[] 3)) := (Ext.refl w).alloc _
  obtain ⟨a, cap, rfl⟩ := hc.shape
  obtain ⟨N, hN⟩ : ∃ N, unsL l cs day days = N := ⟨_, rfl⟩
  have HY := Lib.hid (fun h => hN.symm.trans (unsL_yes (l := l) (cs := cs) (day := day) (days := days) h))
  have HF := Lib.hid (fun h => hN.symm.trans (unsL_no (l := l) (cs := cs) (day := day) (days := days) h))
  rw [hN]
  obtain ⟨ok, hok⟩ : ∃ ok, unsOk l cs day days = ok := ⟨_, rfl⟩
  have HOK := Lib.hid hok
  rw [hok] at HY HF ⊢
  clear hN hok
  go_enter Tryd.func40, Tryd.ntmps40
  go_wp2_with fail
  refine (l7Copies_ok l cs _ _ _ (hv.mono e0) (hc.mono e0) hl hll hnl hcl).mono ?_
  rintro e w1 ⟨rfl, E1⟩
  have E1' := Ext.trans e0 E1
  cases h1 : goodCs l cs
  case false =>
    obtain rfl : ok = false := by rw [← HOK.out, unsOk, h1]; rfl
    obtain rfl := HF.out rfl
    go_wp2
    go_ret2
    exact ⟨_, rfl, (OutR.empty w w 3 1 _).reads.mono E1', E1'⟩
  go_wp2_with fail
  refine (l2Day_ok day _).mono ?_
  rintro e w' ⟨rfl, rfl⟩
  cases h2 : inB day 0 20000
  case false =>
    obtain rfl : ok = false := by rw [← HOK.out, unsOk, h1, h2]; rfl
    obtain rfl := HF.out rfl
    go_wp2
    go_ret2
    exact ⟨_, rfl, (OutR.empty w w 3 1 _).reads.mono E1', E1'⟩
  go_wp2_with fail
  refine (l2Day_ok days _).mono ?_
  rintro e w' ⟨rfl, rfl⟩
  cases h3 : inB days 0 20000
  case false =>
    obtain rfl : ok = false := by rw [← HOK.out, unsOk, h1, h2, h3]; rfl
    obtain rfl := HF.out rfl
    go_wp2
    go_ret2
    exact ⟨_, rfl, (OutR.empty w w 3 1 _).reads.mono E1', E1'⟩
  have HO2 : Hid (ok = unsB cs day) := Lib.hid (by rw [← HOK.out, unsOk, h1, h2, h3]; rfl)
  obtain ⟨d1, d2⟩ := inB_true.1 h2
  obtain ⟨d3, d4⟩ := inB_true.1 h3
  have HMB := Lib.hid (goodCs_parts h1).2.2
  clear h1 h2 h3 HOK
  go_wp2
  go_loopw [10, 11] (fun out i wr => ∃ k : Nat, k ≤ cs.length ∧ i = .int .i64 k ∧ Hid (∀ j x, j < k → cs[j]? = some x → x.sn ≤ day) ∧ OutR w1 wr 3 1 out (unsK day days cs k).length ((unsK day days cs k).flatMap encI) ∧ Ext w1 wr) (fun _ i _ => cs.length - (intOf i).toNat)
  case atStart => exact ⟨0, Nat.zero_le _, rfl, Lib.hid (fun j x h => by omega), by rw [unsK_zero]; exact OutR.empty _ _ _ _ _, Ext.refl _⟩
  case round =>
    obtain ⟨k, hk, rfl, HALL, ho, hE⟩ := hrel
    have hE' := Ext.trans E1' hE
    by_cases hlt : k < cs.length
    · obtain ⟨b, off, rfl, hcc⟩ := Reads.elems Cpy.enc_len (hc.mono hE') (by omega)
      obtain ⟨⟨p1, p2, p3, p4⟩, hx⟩ := get_of_lt hlt
      have hb4 := (HMB.out _ (List.mem_of_getElem? hx)).2.2.2
      simp only at hb4
      obtain ⟨b1, b2⟩ := hb4
      have c0 := hcc k _ hx 0 _ rfl
      have c1 := hcc k _ hx 1 _ rfl
      have c2 := hcc k _ hx 2 _ rfl
      have c3 := hcc k _ hx 3 _ rfl
      simp only [Nat.add_zero] at c0
      have HX := Lib.hid hx
      have hflen := unsK_len day days cs k
      clear hcc hx
      by_cases g1 : day < p4
      case pos =>
        obtain rfl : ok = false := by
          rw [HO2.out, unsB, List.all_eq_false]
          exact ⟨_, List.mem_of_getElem? HX.out, by simp; omega⟩
        obtain rfl := HF.out rfl
        go_wp2
        go_ret2
        exact ⟨_, rfl, (OutR.empty w w 3 1 _).reads.mono (hE'.alloc _), hE'.alloc _⟩
      have HALL2 : Hid (∀ j x, j < k + 1 → cs[j]? = some x → x.sn ≤ day) := Lib.hid fun j x hj hx => by
        by_cases hjk : j < k
        · exact HALL.out j x hjk hx
        · obtain rfl : j = k := by omega
          have := hx.symm.trans HX.out
          simp only [Option.some.injEq] at this
          subst this
          simp only; omega
      by_cases g2 : days < day - p4
      case neg =>
        have HK := Lib.hid (unsK_no (day := day) (days := days) HX.out g2)
        go_wp2
        go_roundw
        case rel => exact ⟨k + 1, by omega, by go_num, HALL2, by rw [HK.out]; exact ho, hE⟩
        case measure => simp [intOf]; omega
      have HK := Lib.hid (unsK_yes (day := day) (days := days) HX.out g2)
      go_wp2_with (at_builtin; refine wpl_appendR w1 _ rfl _ _ 30 rfl 3 _ 1 8 Tryd.underlying30 Tryd.infoInt rfl (by decide) (by decide) _ _ _ hE ho ?c1 [.int .i64 ((k : Int))] rfl rfl rfl (encI_one _) ?_)
      case c1 => omega
      intro v' w6 o6 E6 _
      go_wp2
      go_roundw
      case rel => exact ⟨k + 1, by omega, by go_num, HALL2, by rw [HK.out]; simpa [encI] using o6, E6⟩
      case measure => simp [intOf]; omega
    · obtain rfl : ok = true := by
        rw [HO2.out, unsB, List.all_eq_true]
        intro x hx
        obtain ⟨j, hj⟩ := List.mem_iff_getElem?.1 hx
        exact decide_eq_true (HALL.out j x (by have := (List.getElem?_eq_some_iff.1 hj).1; omega) hj)
      have HN : Hid (unsK day days cs k = N) := Lib.hid (by rw [show k = cs.length by omega]; exact (HY.out rfl).symm)
      rw [HN.out] at ho
      go_wp2
      go_ret2
      exact ⟨_, rfl, ho.reads, hE'⟩
set_option maxHeartbeats 4000000 in
theorem unseen_ok (l : List Fmt) (cs : List Cpy) (day days : Int) (v vc : Value) (w : World) (hv : Fmt.Rd w v l) (hc : Reads w 4 vc cs.length (cs.flatMap Cpy.enc)) (hcap : Room v) (hl : l.length ≤ 1048576) (hll : ∀ p ∈ l, p.rd.length ≤ 1048576) (hnl : ∀ p ∈ l, p.na.length ≤ maxLen) (hcl : cs.length ≤ 1048576) :
    Calls Tryd.prog 41 #[v, vc, .int .i64 day, .int .i64 days] w (RetOwnB w 3 1 (unsL l cs day days).length ((unsL l cs day days).flatMap encI) (unsOk l cs day days)) := by
  obtain ⟨a, cap, rfl⟩ := hc.shape
  obtain ⟨N, hN⟩ : ∃ N, unsL l cs day days = N := ⟨_, rfl⟩
  have HY := Lib.hid (fun h => hN.symm.trans (unsL_yes (l := l) (cs := cs) (day := day) (days := days) h))
  have HF := Lib.hid (fun h => hN.symm.trans (unsL_no (l := l) (cs := cs) (day := day) (days := days) h))
  rw [hN]
  obtain ⟨ok, hok⟩ : ∃ ok, unsOk l cs day days = ok := ⟨_, rfl⟩
  have HOK := Lib.hid hok
  rw [hok] at HY HF ⊢
  clear hN hok
  go_enter Tryd.func41, Tryd.ntmps41
  go_wp2_with fail
  refine (areCopies_ok l cs _ _ _ hv hc hcap hl hll hnl hcl).mono ?_
  rintro e w1 ⟨rfl, E1⟩
  have E1' := E1
  cases h1 : goodCs l cs
  case false =>
    obtain rfl : ok = false := by rw [← HOK.out, unsOk, h1]; rfl
    obtain rfl := HF.out rfl
    go_wp2
    go_ret2
    exact ⟨_, rfl, World.ownsRow_nil _ _ _ _, E1'⟩
  go_wp2_with fail
  refine (isDay_ok day _).mono ?_
  rintro e w' ⟨rfl, rfl⟩
  cases h2 : inB day 0 20000
  case false =>
    obtain rfl : ok = false := by rw [← HOK.out, unsOk, h1, h2]; rfl
    obtain rfl := HF.out rfl
    go_wp2
    go_ret2
    exact ⟨_, rfl, World.ownsRow_nil _ _ _ _, E1'⟩
  go_wp2_with fail
  refine (isDay_ok days _).mono ?_
  rintro e w' ⟨rfl, rfl⟩
  cases h3 : inB days 0 20000
  case false =>
    obtain rfl : ok = false := by rw [← HOK.out, unsOk, h1, h2, h3]; rfl
    obtain rfl := HF.out rfl
    go_wp2
    go_ret2
    exact ⟨_, rfl, World.ownsRow_nil _ _ _ _, E1'⟩
  have HO2 : Hid (ok = unsB cs day) := Lib.hid (by rw [← HOK.out, unsOk, h1, h2, h3]; rfl)
  obtain ⟨d1, d2⟩ := inB_true.1 h2
  obtain ⟨d3, d4⟩ := inB_true.1 h3
  have HMB := Lib.hid (goodCs_parts h1).2.2
  clear h1 h2 h3 HOK
  go_wp2
  go_loopw [10, 29] (fun out i wr => ∃ k : Nat, k ≤ cs.length ∧ i = .int .i64 k ∧ Hid (∀ j x, j < k → cs[j]? = some x → x.sn ≤ day) ∧ wr.ownsRow w1.heap.size 3 1 out (unsK day days cs k).length ((unsK day days cs k).flatMap encI) ∧ Ext w1 wr) (fun _ i _ => cs.length - (intOf i).toNat)
  case atStart => exact ⟨0, Nat.zero_le _, rfl, Lib.hid (fun j x h => by omega), by rw [unsK_zero]; exact World.ownsRow_nil _ _ _ _, Ext.refl _⟩
  case round =>
    obtain ⟨k, hk, rfl, HALL, ho, hE⟩ := hrel
    have hE' := Ext.trans E1' hE
    by_cases hlt : k < cs.length
    · obtain ⟨b, off, rfl, hcc⟩ := Reads.elems Cpy.enc_len (hc.mono hE') (by omega)
      obtain ⟨⟨p1, p2, p3, p4⟩, hx⟩ := get_of_lt hlt
      have hb4 := (HMB.out _ (List.mem_of_getElem? hx)).2.2.2
      simp only at hb4
      obtain ⟨b1, b2⟩ := hb4
      have c0 := hcc k _ hx 0 _ rfl
      have c1 := hcc k _ hx 1 _ rfl
      have c2 := hcc k _ hx 2 _ rfl
      have c3 := hcc k _ hx 3 _ rfl
      simp only [Nat.add_zero] at c0
      have HX := Lib.hid hx
      have hflen := unsK_len day days cs k
      clear hcc hx
      obtain ⟨w5, hw5⟩ : ∃ w5, w5 = wr.alloc (.cells #[.int .i64 p1, .int .i64 p2, .int .i64 p3, .int .i64 p4] 73) := ⟨_, rfl⟩
      have E5 : Ext wr w5 := by rw [hw5]; exact (Ext.refl wr).alloc _
      have x3 : w5.cell? ⟨wr.heap.size, 3, none⟩ = some (.int .i64 p4) := by rw [hw5]; simp
      have ho := Ext.owns E5 ho
      have hE := Ext.trans hE E5
      have hE' := Ext.trans hE' E5
      go_upto_region 7 with fail
      rw [← hw5]
      clear hw5 c0 c1 c2 c3
      by_cases g1 : day < p4
      case pos =>
        obtain rfl : ok = false := by
          rw [HO2.out, unsB, List.all_eq_false]
          exact ⟨_, List.mem_of_getElem? HX.out, by simp; omega⟩
        obtain rfl := HF.out rfl
        go_wp2
        go_ret2
        exact ⟨_, rfl, World.ownsRow_nil _ _ _ _, hE'⟩
      have HALL2 : Hid (∀ j x, j < k + 1 → cs[j]? = some x → x.sn ≤ day) := Lib.hid fun j x hj hx => by
        by_cases hjk : j < k
        · exact HALL.out j x hjk hx
        · obtain rfl : j = k := by omega
          have := hx.symm.trans HX.out
          simp only [Option.some.injEq] at this
          subst this
          simp only; omega
      by_cases g2 : days < day - p4
      case neg =>
        have HK := Lib.hid (unsK_no (day := day) (days := days) HX.out g2)
        go_wp2
        go_roundw
        case rel => exact ⟨k + 1, by omega, by go_num, HALL2, by rw [HK.out]; exact ho, hE⟩
        case measure => simp [intOf]; omega
      have HK := Lib.hid (unsK_yes (day := day) (days := days) HX.out g2)
      go_wp2_with (at_builtin; refine wpl_append1 w1 _ rfl _ _ 30 rfl 3 _ 1 8 Tryd.underlying30 Tryd.infoInt rfl (by decide) (by decide) _ _ _ hE ho ?c1 [.int .i64 ((k : Int))] rfl rfl rfl (encI_one _) ?_)
      case c1 => omega
      intro v' w6 o6 E6 _
      go_wp2
      go_roundw
      case rel => exact ⟨k + 1, by omega, by go_num, HALL2, by rw [HK.out]; simpa [encI] using o6, E6⟩
      case measure => simp [intOf]; omega
    · obtain rfl : ok = true := by
        rw [HO2.out, unsB, List.all_eq_true]
        intro x hx
        obtain ⟨j, hj⟩ := List.mem_iff_getElem?.1 hx
        exact decide_eq_true (HALL.out j x (by have := (List.getElem?_eq_some_iff.1 hj).1; omega) hj)
      have HN : Hid (unsK day days cs k = N) := Lib.hid (by rw [show k = cs.length by omega]; exact (HY.out rfl).symm)
      rw [HN.out] at ho
      go_wp2
      go_ret2
      exact ⟨_, rfl, owns_mono ho E1'.size, hE'⟩
end Go.Proofs.YtefabcnifbnehaaDoor
