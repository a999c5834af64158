/- What the lists of those who may do something compute; no condition beyond the lengths that are named. -/
import Derived.Test.YtlablieekijgoaaDoorWhoData
import Derived.Test.YtlablieekijgoaaDoorRights
import Derived.Test.YtlablieekijgoaaDoorAppR
import Derived.Test.YtlablieekijgoaaDoorInts
namespace Go.Proofs.YtlablieekijgoaaDoor
open Go.RowKit Go.Sort Go.Rd

set_option maxHeartbeats 2000000 in
theorem l11Who_ok (l : List Clk) (rights day : Int) (v : Value) (w : World) (hv : Reads w 6 v l.length (l.flatMap Clk.enc)) (hl : l.length ≤ 1048576) (hg : goodC l = true) :
    Calls Tryd.prog 59 #[v, .int .i64 rights, .int .i64 day] w (RetRead w 1 (whoL l rights day).length ((whoL l rights day).flatMap encI)) := by
  obtain ⟨a, cap, rfl⟩ := hv.shape
  have HV := Lib.hid hv
  have HG := Lib.hid hg
  obtain ⟨N, hN⟩ : ∃ N, whoL l rights day = N := ⟨_, rfl⟩
  rw [hN]
  have HN := Lib.hid hN
  clear hN hv hg
  go_enter Tryd.func59, Tryd.ntmps59
  go_wp2
  go_loopw [7, 8] (fun out i wr => ∃ k : Nat, k ≤ l.length ∧ i = .int .i64 k ∧ OutR w wr 3 1 out (fmK (hasR l rights day) (·.id) l k).length ((fmK (hasR l rights day) (·.id) l k).flatMap encI) ∧ Ext w wr) (fun _ i _ => l.length - (intOf i).toNat)
  case atStart => exact ⟨0, Nat.zero_le _, rfl, by rw [fmK_zero]; exact OutR.empty _ _ _ _ _, (Ext.refl w).alloc _⟩
  case round =>
    obtain ⟨k, hk, rfl, ho, hE⟩ := hrel
    by_cases hlt : k < l.length
    · obtain ⟨b, off, rfl, hc⟩ := Reads.elems Clk.enc_len HV.out (by omega)
      obtain ⟨x, hx⟩ := get_of_lt hlt
      have HX := Lib.hid hx
      have hflen := fmK_len (hasR l rights day) (·.id) l k
      have c0 := hE.cell (hc k _ hx 0 _ rfl)
      simp only [Nat.add_zero] at c0
      clear hc hx
      go_wp2_with fail
      refine (l11Rights_ok l k x day _ _ (HV.out.mono hE) hl HG.out HX.out).mono ?_
      rintro e w4 ⟨rfl, E4⟩
      replace c0 := E4.cell c0
      have hE4 := Ext.trans hE E4
      have ho4 := OutR.ext E4 ho
      obtain ⟨R, hR⟩ : ∃ R, rightsC l x day = R := ⟨_, rfl⟩
      rw [hR]
      obtain ⟨q, hq⟩ : ∃ q, bits .and .i64 R rights = q := ⟨_, rfl⟩
      have HP := Lib.hid (show hasR l rights day x = decide (q = rights) by unfold hasR; rw [hR, ← hq]; rfl)
      clear hR
      by_cases hz : q = rights
      case neg =>
        have HK := Lib.hid (fmK_no (p := hasR l rights day) (f := fun x : Clk => x.id) HX.out (by rw [HP.out]; exact decide_eq_false hz))
        have hzb : (q == rights) = false := beq_eq_false_iff_ne.2 hz
        clear hz
        go_wp2
        go_roundw
        case rel => exact ⟨k + 1, by omega, by go_num, by rw [HK.out]; exact ho4, hE4⟩
        case measure => simp [intOf]; omega
      have HK := Lib.hid (fmK_yes (p := hasR l rights day) (f := fun x : Clk => x.id) HX.out (by rw [HP.out]; exact decide_eq_true hz))
      have hzb : (q == rights) = true := beq_iff_eq.2 hz
      clear hz
      go_wp2_with (at_builtin; refine wpl_appendR w _ rfl _ _ 48 rfl 3 _ 1 8 Tryd.underlying48 Tryd.infoInt rfl (by decide) (by decide) _ _ _ hE4 ho4 ?c1 [.int .i64 (x.id)] rfl rfl rfl (encI_one _) ?_)
      case c1 => omega
      intro v' w6 o6 E6 _
      go_wp2
      go_roundw
      case rel => exact ⟨k + 1, by omega, by go_num, by rw [HK.out]; simpa [encI] using o6, E6⟩
      case measure => simp [intOf]; omega
    · have HF : Hid (fmK (hasR l rights day) (·.id) l k = N) := Lib.hid ((fmK_all _ _ (show l.length ≤ k by omega)).trans HN.out)
      rw [HF.out] at ho
      go_wp2
      go_ret
      exact ⟨_, rfl, ho.reads, hE⟩
set_option maxHeartbeats 2000000 in
theorem whoMay_ok (l : List Clk) (rights day : Int) (v : Value) (w : World) (hv : Reads w 6 v l.length (l.flatMap Clk.enc)) (hl : l.length ≤ 1048576) (hg : goodC l = true) :
    Calls Tryd.prog 60 #[v, .int .i64 rights, .int .i64 day] w (RetOwn w 3 1 (whoL l rights day).length ((whoL l rights day).flatMap encI)) := by
  obtain ⟨a, cap, rfl⟩ := hv.shape
  have HV := Lib.hid hv
  have HG := Lib.hid hg
  obtain ⟨N, hN⟩ : ∃ N, whoL l rights day = N := ⟨_, rfl⟩
  rw [hN]
  have HN := Lib.hid hN
  clear hN hv hg
  go_enter Tryd.func60, Tryd.ntmps60
  go_wp2
  go_loopw [7, 9, 12] (fun out _ i wr => ∃ k : Nat, k ≤ l.length ∧ i = .int .i64 k ∧ wr.ownsRow w.heap.size 3 1 out (fmK (hasR l rights day) (·.id) l k).length ((fmK (hasR l rights day) (·.id) l k).flatMap encI) ∧ Ext w wr) (fun _ _ i _ => l.length - (intOf i).toNat)
  case atStart => exact ⟨0, Nat.zero_le _, rfl, by rw [fmK_zero]; exact World.ownsRow_nil _ _ _ _, Ext.refl w⟩
  case round =>
    obtain ⟨k, hk, rfl, ho, hE⟩ := hrel
    by_cases hlt : k < l.length
    · obtain ⟨b, off, rfl, hc⟩ := Reads.elems Clk.enc_len HV.out (by omega)
      obtain ⟨x, hx⟩ := get_of_lt hlt
      have HX := Lib.hid hx
      have hflen := fmK_len (hasR l rights day) (·.id) l k
      have c0 := hE.cell (hc k _ hx 0 _ rfl)
      have c1 := hE.cell (hc k _ hx 1 _ rfl)
      have c2 := hE.cell (hc k _ hx 2 _ rfl)
      have c3 := hE.cell (hc k _ hx 3 _ rfl)
      have c4 := hE.cell (hc k _ hx 4 _ rfl)
      have c5 := hE.cell (hc k _ hx 5 _ rfl)
      simp only [Nat.add_zero] at c0
      clear hc hx
      obtain ⟨w5, hw5⟩ : ∃ w5, w5 = wr.alloc (.cells #[.int .i64 x.id, .string ⟨x.na.toArray⟩, .int .i64 x.ri, .int .i64 x.fr, .int .i64 x.un, .int .i64 x.st] 26) := ⟨_, rfl⟩
      have E5 : Ext wr w5 := by rw [hw5]; exact (Ext.refl wr).alloc _
      have y0 : w5.cell? ⟨wr.heap.size, 0, none⟩ = some (.int .i64 x.id) := by rw [hw5]; simp
      go_wp2_with fail
      rw [← hw5]
      refine (rightsOn_ok l k x day _ _ (HV.out.mono (Ext.trans hE E5)) hl HG.out HX.out).mono ?_
      rintro e w4 ⟨rfl, E4⟩
      replace y0 := E4.cell y0
      have E54 := Ext.trans E5 E4
      have hE4 := Ext.trans hE E54
      have ho4 := E54.owns ho
      clear hw5 c0 c1 c2 c3 c4 c5
      obtain ⟨R, hR⟩ : ∃ R, rightsC l x day = R := ⟨_, rfl⟩
      rw [hR]
      obtain ⟨q, hq⟩ : ∃ q, bits .and .i64 R rights = q := ⟨_, rfl⟩
      have HP := Lib.hid (show hasR l rights day x = decide (q = rights) by unfold hasR; rw [hR, ← hq]; rfl)
      clear hR
      by_cases hz : q = rights
      case neg =>
        have HK := Lib.hid (fmK_no (p := hasR l rights day) (f := fun x : Clk => x.id) HX.out (by rw [HP.out]; exact decide_eq_false hz))
        have hzb : (q == rights) = false := beq_eq_false_iff_ne.2 hz
        clear hz
        go_wp2
        go_roundw
        case rel => exact ⟨k + 1, by omega, by go_num, by rw [HK.out]; exact ho4, hE4⟩
        case measure => simp [intOf]; omega
      have HK := Lib.hid (fmK_yes (p := hasR l rights day) (f := fun x : Clk => x.id) HX.out (by rw [HP.out]; exact decide_eq_true hz))
      have hzb : (q == rights) = true := beq_iff_eq.2 hz
      clear hz
      go_wp2_with (at_builtin; refine wpl_append1 w _ rfl _ _ 48 rfl 3 _ 1 8 Tryd.underlying48 Tryd.infoInt rfl (by decide) (by decide) _ _ _ hE4 ho4 ?c1 [.int .i64 (x.id)] rfl rfl rfl (encI_one _) ?_)
      case c1 => omega
      intro v' w6 o6 E6 _
      go_wp2
      go_roundw
      case rel => exact ⟨k + 1, by omega, by go_num, by rw [HK.out]; simpa [encI] using o6, E6⟩
      case measure => simp [intOf]; omega
    · have HF : Hid (fmK (hasR l rights day) (·.id) l k = N) := Lib.hid ((fmK_all _ _ (show l.length ≤ k by omega)).trans HN.out)
      rw [HF.out] at ho
      go_wp2
      go_ret
      exact ⟨_, rfl, ho, hE⟩
set_option maxHeartbeats 2000000 in
theorem specWhoMay_ok (l : List Clk) (rights day : Int) (v : Value) (w : World) (hv : Reads w 6 v l.length (l.flatMap Clk.enc)) (hl : l.length ≤ 1048576) (hll : ∀ p ∈ l, p.na.length ≤ maxLen) :
    Calls Tryd.prog 36 #[v, .int .i64 rights, .int .i64 day] w (RetReadB w 1 (whoR l rights day).length ((whoR l rights day).flatMap encI) (whoOk l rights day)) := by
  have HLL := Lib.hid hll
  obtain ⟨N, hN⟩ : ∃ N, whoR l rights day = N := ⟨_, rfl⟩
  have HY := Lib.hid (fun h => hN.symm.trans (whoR_yes (l := l) (rights := rights) (day := day) h))
  have HF := Lib.hid (fun h => hN.symm.trans (whoR_no (l := l) (rights := rights) (day := day) h))
  rw [hN]
  obtain ⟨ok, hok⟩ : ∃ ok, whoOk l rights day = ok := ⟨_, rfl⟩
  have HOK := Lib.hid hok
  rw [hok] at HY HF ⊢
  clear hN hok hll
  go_enter Tryd.func36, Tryd.ntmps36
  go_wp2_with fail
  refine (l11Good_ok l _ _ hv hl HLL.out).mono ?_
  rintro e w1 ⟨rfl, E1⟩
  cases h1 : goodC l
  case false =>
    obtain rfl : ok = false := by rw [← HOK.out, whoOk, h1]; rfl
    obtain rfl := HF.out rfl
    go_wp2
    go_ret2
    exact ⟨_, rfl, (OutR.empty w w 3 1 _).reads.mono (E1.alloc _), E1.alloc _⟩
  go_wp2_with fail
  refine (l11Sum_ok rights _).mono ?_
  rintro e w' ⟨rfl, rfl⟩
  cases h2 : inB rights 1 15
  case false =>
    obtain rfl : ok = false := by rw [← HOK.out, whoOk, h1, h2]; rfl
    obtain rfl := HF.out rfl
    go_wp2
    go_ret2
    exact ⟨_, rfl, (OutR.empty w w 3 1 _).reads.mono (E1.alloc _), E1.alloc _⟩
  go_wp2_with fail
  refine (l2Day_ok day _).mono ?_
  rintro e w' ⟨rfl, rfl⟩
  cases h3 : inB day 0 20000
  case false =>
    obtain rfl : ok = false := by rw [← HOK.out, whoOk, h1, h2, h3]; rfl
    obtain rfl := HF.out rfl
    go_wp2
    go_ret2
    exact ⟨_, rfl, (OutR.empty w w 3 1 _).reads.mono (E1.alloc _), E1.alloc _⟩
  obtain rfl : ok = true := by rw [← HOK.out, whoOk, h1, h2, h3]; rfl
  have HN := Lib.hid (HY.out rfl)
  clear HY HF HOK
  go_wp2_with fail
  refine (l11Who_ok l rights day v _ (hv.mono E1) hl h1).mono ?_
  rintro e w4 ⟨v4, rfl, o4, E4⟩
  go_wp2
  go_ret2
  rw [HN.out]
  exact ⟨_, rfl, o4, Ext.trans E1 E4⟩
set_option maxHeartbeats 2000000 in
theorem whoMayTop_ok (l : List Clk) (rights day : Int) (v : Value) (w : World) (hv : Reads w 6 v l.length (l.flatMap Clk.enc)) (hl : l.length ≤ 1048576) (hll : ∀ p ∈ l, p.na.length ≤ maxLen) :
    Calls Tryd.prog 37 #[v, .int .i64 rights, .int .i64 day] w (RetOwnB w 3 1 (whoR l rights day).length ((whoR l rights day).flatMap encI) (whoOk l rights day)) := by
  have HLL := Lib.hid hll
  obtain ⟨N, hN⟩ : ∃ N, whoR l rights day = N := ⟨_, rfl⟩
  have HY := Lib.hid (fun h => hN.symm.trans (whoR_yes (l := l) (rights := rights) (day := day) h))
  have HF := Lib.hid (fun h => hN.symm.trans (whoR_no (l := l) (rights := rights) (day := day) h))
  rw [hN]
  obtain ⟨ok, hok⟩ : ∃ ok, whoOk l rights day = ok := ⟨_, rfl⟩
  have HOK := Lib.hid hok
  rw [hok] at HY HF ⊢
  clear hN hok hll
  go_enter Tryd.func37, Tryd.ntmps37
  go_wp2_with fail
  refine (areClerks_ok l _ _ hv hl HLL.out).mono ?_
  rintro e w1 ⟨rfl, E1⟩
  cases h1 : goodC l
  case false =>
    obtain rfl : ok = false := by rw [← HOK.out, whoOk, h1]; rfl
    obtain rfl := HF.out rfl
    go_wp2
    go_ret2
    exact ⟨_, rfl, World.ownsRow_nil _ _ _ _, E1⟩
  go_wp2_with fail
  refine (isNeed_ok rights _).mono ?_
  rintro e w' ⟨rfl, rfl⟩
  cases h2 : inB rights 1 15
  case false =>
    obtain rfl : ok = false := by rw [← HOK.out, whoOk, h1, h2]; rfl
    obtain rfl := HF.out rfl
    go_wp2
    go_ret2
    exact ⟨_, rfl, World.ownsRow_nil _ _ _ _, E1⟩
  go_wp2_with fail
  refine (isDay_ok day _).mono ?_
  rintro e w' ⟨rfl, rfl⟩
  cases h3 : inB day 0 20000
  case false =>
    obtain rfl : ok = false := by rw [← HOK.out, whoOk, h1, h2, h3]; rfl
    obtain rfl := HF.out rfl
    go_wp2
    go_ret2
    exact ⟨_, rfl, World.ownsRow_nil _ _ _ _, E1⟩
  obtain rfl : ok = true := by rw [← HOK.out, whoOk, h1, h2, h3]; rfl
  have HN := Lib.hid (HY.out rfl)
  clear HY HF HOK
  go_wp2_with fail
  refine (whoMay_ok l rights day v _ (hv.mono E1) hl h1).mono ?_
  rintro e w4 ⟨v4, rfl, o4, E4⟩
  go_wp2
  go_ret2
  rw [HN.out]
  exact ⟨_, rfl, owns_mono o4 E1.size, Ext.trans E1 E4⟩
end Go.Proofs.YtlablieekijgoaaDoor
