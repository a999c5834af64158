/- What DueRecords and NextDue compute; no condition beyond the lengths that are named. -/
import Derived.Test.YtpmjjkhikciokaaDueR
namespace Go.Proofs.Ytpmjjkhikciokaa
open Go.RowKit Go.Sort Go.Rd
set_option maxHeartbeats 4000000 in
theorem l6Due_ok (r : Rec) (sch : List Rul) (day : Int) (sv vs : Value) (w : World) (hr : okRec r = true) (hg : goodR sch = true) (hv : Rec.At w (r, sv)) (hvs : Reads w 4 vs sch.length (sch.flatMap Rul.enc)) (hl : r.evs.length ≤ 1048576) (hls : sch.length ≤ 1048576) :
    Calls Try.prog 80 #[.agg #[.int .i64 r.id, .int .i64 r.se, .int .i64 r.ma, sv], vs, .int .i64 day] w fun e w' => e = .returned (.bool (inB (decD r sch).2 0 day)) ∧ Ext w w' := by
  obtain ⟨a, cap, hs⟩ := Reads.shape hv
  simp only at hs
  subst hs
  obtain ⟨w2, hw2⟩ : ∃ w2, w2 = w.alloc (.cells #[.int .i64 r.id, .int .i64 r.se, .int .i64 r.ma, .slice a r.evs.length cap] 49) := ⟨_, rfl⟩
  have E2 : Ext w w2 := by rw [hw2]; exact (Ext.refl w).alloc _
  have HC := l6Deciding_ok r sch _ vs w2 hr hg (Reads.mono E2 hv) (hvs.mono E2) hl hls
  obtain ⟨⟨⟨D1, D2, D3, D4⟩, D5⟩, hD⟩ : ∃ D, decD r sch = D := ⟨_, rfl⟩
  rw [hD] at HC ⊢
  go_enter Try.func80, Try.ntmps80
  go_wp2_with fail
  rw [← hw2]
  refine HC.mono ?_
  rintro e w3 ⟨rfl, E3⟩
  have E3' := (Ext.trans E2 E3).alloc (.cells #[.int .i64 D1, .int .i64 D2, .int .i64 D3, .int .i64 D4] 78)
  go_wp2_with fail
  refine (l1In_ok D5 0 day _).mono ?_
  rintro e w4 ⟨rfl, rfl⟩
  go_wp2
  go_ret
  exact ⟨rfl, E3'⟩
set_option maxHeartbeats 4000000 in
theorem specDueRecords_ok (l : List Rec) (sch : List Rul) (day act : Int) (v vs : Value) (w : World) (hv : Rec.Rd w v l) (hvs : Reads w 4 vs sch.length (sch.flatMap Rul.enc)) (hl : l.length ≤ 1048576) (hll : ∀ r ∈ l, r.evs.length ≤ 1048576) (hls : sch.length ≤ 1048576) :
    Calls Try.prog 42 #[v, vs, .int .i64 day, .int .i64 act] w (RetReadB w 1 (dueL l sch day act).length ((dueL l sch day act).flatMap encI) (dueOk l sch day act)) := by
  have e0 : Ext w (w.alloc (.cells #[] 3)) := (Ext.refl w).alloc _
  obtain ⟨a, cap, rfl⟩ := hv.shape
  have HL := Lib.hid hll
  obtain ⟨N, hN⟩ : ∃ N, dueL l sch day act = N := ⟨_, rfl⟩
  have HY := Lib.hid (fun h => hN.symm.trans (dueL_yes (l := l) (sch := sch) (day := day) (act := act) h))
  have HF := Lib.hid (fun h => hN.symm.trans (dueL_no (l := l) (sch := sch) (day := day) (act := act) h))
  rw [hN]
  obtain ⟨ok, hok⟩ : ∃ ok, dueOk l sch day act = ok := ⟨_, rfl⟩
  have HOK := Lib.hid hok
  rw [hok] at HY HF ⊢
  clear hN hok hll
  go_enter Try.func42, Try.ntmps42
  go_wp2_with fail
  refine (l2Records_ok l _ _ (hv.mono e0) hl HL.out).mono ?_
  rintro e w1 ⟨rfl, E1⟩
  have E1' := Ext.trans e0 E1
  cases h1 : goodRs l
  case false =>
    obtain rfl : ok = false := by rw [← HOK.out, dueOk, allOk, h1]; rfl
    obtain rfl := HF.out rfl
    go_wp2
    go_ret2
    exact ⟨_, rfl, (OutR.empty w w 3 1 _).reads.mono E1', E1'⟩
  go_wp2_with fail
  refine (l4Good_ok sch _ _ (hvs.mono E1') hls).mono ?_
  rintro e w2 ⟨rfl, E2⟩
  have E2' := Ext.trans E1' E2
  cases h2 : goodR sch
  case false =>
    obtain rfl : ok = false := by rw [← HOK.out, dueOk, allOk, h1, h2]; rfl
    obtain rfl := HF.out rfl
    go_wp2
    go_ret2
    exact ⟨_, rfl, (OutR.empty w w 3 1 _).reads.mono E2', E2'⟩
  go_wp2_with fail
  refine (l2Day_ok day _).mono ?_
  rintro e w' ⟨rfl, rfl⟩
  cases h3 : inB day 0 20000
  case false =>
    obtain rfl : ok = false := by rw [← HOK.out, dueOk, allOk, h1, h2, h3]; rfl
    obtain rfl := HF.out rfl
    go_wp2
    go_ret2
    exact ⟨_, rfl, (OutR.empty w w 3 1 _).reads.mono E2', E2'⟩
  go_wp2_with fail
  refine (l1In_ok act 1 3 _).mono ?_
  rintro e w' ⟨rfl, rfl⟩
  cases h4 : inB act 1 3
  case false =>
    obtain rfl : ok = false := by rw [← HOK.out, dueOk, allOk, h1, h2, h3, h4]; rfl
    obtain rfl := HF.out rfl
    go_wp2
    go_ret2
    exact ⟨_, rfl, (OutR.empty w w 3 1 _).reads.mono E2', E2'⟩
  obtain rfl : ok = true := by rw [← HOK.out, dueOk, allOk, h1, h2, h3, h4]; rfl
  have HN := Lib.hid (HY.out rfl)
  clear HY HF HOK
  go_wp2
  go_loopw [10, 11, 12, 13] (fun out i _ _ wr => ∃ k : Nat, k ≤ l.length ∧ i = .int .i64 k ∧ OutR w2 wr 3 1 out (fmK (dueP sch day act) (·.id) l k).length ((fmK (dueP sch day act) (·.id) l k).flatMap encI) ∧ Ext w2 wr) (fun _ i _ _ _ => l.length - (intOf i).toNat)
  case atStart => exact ⟨0, Nat.zero_le _, rfl, by rw [fmK_zero]; exact OutR.empty _ _ _ _ _, Ext.refl _⟩
  case round =>
    obtain ⟨k, hk, rfl, ho, hE⟩ := hrel
    by_cases hlt : k < l.length
    · have hE' := Ext.trans E2' hE
      obtain ⟨r, hx⟩ := get_of_lt hlt
      obtain ⟨b, off, rfl⟩ := Rec.Rd.addr (hv.mono hE') (by omega)
      obtain ⟨ca, cc, c0, c1, c2, c3, hat⟩ := Rec.Rd.cells (hv.mono hE') hx
      have HX := Lib.hid hx
      have hflen := fmK_len (dueP sch day act) (·.id) l k
      have hr := goodRs_mem h1 (List.mem_of_getElem? hx)
      have hrl := HL.out r (List.mem_of_getElem? hx)
      have HD := l6Deciding_ok r sch _ _ wr hr h2 hat (hvs.mono hE') hrl hls
      have HP : Hid (dueP sch day act r = ((decD r sch).1.ac == act && inB (decD r sch).2 0 day)) := Lib.hid rfl
      obtain ⟨⟨⟨D1, D2, D3, D4⟩, D5⟩, hD⟩ : ∃ D, decD r sch = D := ⟨_, rfl⟩
      have HDD := Lib.hid hD
      rw [hD] at HD HP
      clear hx hD
      go_wp2_with fail
      refine HD.mono ?_
      rintro e w3 ⟨rfl, E3⟩
      have c0 := E3.cell c0
      have c1 := E3.cell c1
      have c2 := E3.cell c2
      have c3 := E3.cell c3
      obtain ⟨w4, hw4⟩ : ∃ w4, w4 = w3.alloc (.cells #[.int .i64 D1, .int .i64 D2, .int .i64 D3, .int .i64 D4] 78) := ⟨_, rfl⟩
      have E4 : Ext w3 w4 := by rw [hw4]; exact (Ext.refl _).alloc _
      have E34 := Ext.trans E3 E4
      have hE4 := Ext.trans hE E34
      have ho4 := OutR.ext E34 ho
      have hat4 := hat.mono E34
      have x3 : w4.cell? ⟨w3.heap.size, 3, none⟩ = some (.int .i64 D4) := by rw [hw4]; simp
      go_upto_region 8 with fail
      rw [← hw4]
      clear hw4
      cases hA : (D4 == act)
      case false =>
        have hp : dueP sch day act r = false := by rw [HP.out]; simp [hA]
        have HK := Lib.hid (fmK_no (f := fun x : Rec => x.id) HX.out hp)
        go_wp2
        go_roundw
        case rel => exact ⟨k + 1, by omega, by go_num, by rw [HK.out]; exact ho4, hE4⟩
        case measure => simp [intOf]; omega
      have d0 := E4.cell c0
      have d1 := E4.cell c1
      have d2 := E4.cell c2
      have d3 := E4.cell c3
      have HU := l6Due_ok r sch day _ _ w4 hr h2 hat4 (hvs.mono (Ext.trans E2' hE4)) hrl hls
      rw [HDD.out] at HU
      clear c0 c1 c2 c3
      go_wp2_with fail
      refine HU.mono ?_
      rintro e w5 ⟨rfl, E5⟩
      have d0 := E5.cell d0
      have hE5 := Ext.trans hE4 E5
      have ho5 := OutR.ext E5 ho4
      cases hB : inB D5 0 day
      case false =>
        have hp : dueP sch day act r = false := by rw [HP.out]; simp [hB]
        have HK := Lib.hid (fmK_no (f := fun x : Rec => x.id) HX.out hp)
        go_wp2
        go_roundw
        case rel => exact ⟨k + 1, by omega, by go_num, by rw [HK.out]; exact ho5, hE5⟩
        case measure => simp [intOf]; omega
      have hp : dueP sch day act r = true := by rw [HP.out]; simp only [hA, hB, Bool.and_self]
      have HK := Lib.hid (fmK_yes (f := fun x : Rec => x.id) HX.out hp)
      go_wp2_with (at_builtin; refine wpl_appendR w2 _ rfl _ _ 23 rfl 3 _ 1 8 Try.underlying23 Try.infoInt rfl (by decide) (by decide) _ _ _ hE5 ho5 ?c1 [.int .i64 (r.id)] rfl rfl rfl (encI_one _) ?_)
      case c1 => omega
      intro v' w6 o6 E6 _
      go_wp2
      go_roundw
      case rel => exact ⟨k + 1, by omega, by go_num, by rw [HK.out]; simpa [encI] using o6, E6⟩
      case measure => simp [intOf]; omega
    · have HF := Lib.hid ((fmK_all (dueP sch day act) (·.id) (show l.length ≤ k by omega)).trans HN.out.symm)
      rw [HF.out] at ho
      go_wp2
      go_ret2
      exact ⟨_, rfl, ho.reads, Ext.trans E2' hE⟩
set_option maxHeartbeats 4000000 in
theorem dueRecords_ok (l : List Rec) (sch : List Rul) (day act : Int) (v vs : Value) (w : World) (hv : Rec.Rd w v l) (hvs : Reads w 4 vs sch.length (sch.flatMap Rul.enc)) (hl : l.length ≤ 1048576) (hll : ∀ r ∈ l, r.evs.length ≤ 1048576) (hls : sch.length ≤ 1048576) :
    Calls Try.prog 43 #[v, vs, .int .i64 day, .int .i64 act] w (RetOwnB w 3 1 (dueL l sch day act).length ((dueL l sch day act).flatMap encI) (dueOk l sch day act)) := by
  obtain ⟨a, cap, rfl⟩ := hv.shape
  have HL := Lib.hid hll
  obtain ⟨N, hN⟩ : ∃ N, dueL l sch day act = N := ⟨_, rfl⟩
  have HY := Lib.hid (fun h => hN.symm.trans (dueL_yes (l := l) (sch := sch) (day := day) (act := act) h))
  have HF := Lib.hid (fun h => hN.symm.trans (dueL_no (l := l) (sch := sch) (day := day) (act := act) h))
  rw [hN]
  obtain ⟨ok, hok⟩ : ∃ ok, dueOk l sch day act = ok := ⟨_, rfl⟩
  have HOK := Lib.hid hok
  rw [hok] at HY HF ⊢
  clear hN hok hll
  go_enter Try.func43, Try.ntmps43
  go_wp2_with fail
  refine (areAll_ok l _ sch _ _ hv hl HL.out hvs hls).mono ?_
  rintro e w2 ⟨rfl, E2⟩
  cases h1 : allOk l sch
  case false =>
    obtain rfl : ok = false := by rw [← HOK.out, dueOk, h1]; rfl
    obtain rfl := HF.out rfl
    go_wp2
    go_ret2
    exact ⟨_, rfl, World.ownsRow_nil _ _ _ _, E2⟩
  go_wp2_with fail
  refine (isDay_ok day _).mono ?_
  rintro e w' ⟨rfl, rfl⟩
  cases h3 : inB day 0 20000
  case false =>
    obtain rfl : ok = false := by rw [← HOK.out, dueOk, h1, h3]; rfl
    obtain rfl := HF.out rfl
    go_wp2
    go_ret2
    exact ⟨_, rfl, World.ownsRow_nil _ _ _ _, E2⟩
  go_wp2_with fail
  refine (isAct_ok act _).mono ?_
  rintro e w' ⟨rfl, rfl⟩
  cases h4 : inB act 1 3
  case false =>
    obtain rfl : ok = false := by rw [← HOK.out, dueOk, h1, h3, h4]; rfl
    obtain rfl := HF.out rfl
    go_wp2
    go_ret2
    exact ⟨_, rfl, World.ownsRow_nil _ _ _ _, E2⟩
  obtain rfl : ok = true := by rw [← HOK.out, dueOk, h1, h3, h4]; rfl
  have HN := Lib.hid (HY.out rfl)
  simp only [allOk, Bool.and_eq_true] at h1
  obtain ⟨h1, h2⟩ := h1
  clear HY HF HOK
  go_wp2
  go_loopw [10, 12, 13, 14, 15, 32] (fun out _ _ _ _ i wr => ∃ k : Nat, k ≤ l.length ∧ i = .int .i64 k ∧ wr.ownsRow w2.heap.size 3 1 out (fmK (dueP sch day act) (·.id) l k).length ((fmK (dueP sch day act) (·.id) l k).flatMap encI) ∧ Ext w2 wr) (fun _ _ _ _ _ i _ => l.length - (intOf i).toNat)
  case atStart => exact ⟨0, Nat.zero_le _, rfl, by rw [fmK_zero]; exact World.ownsRow_nil _ _ _ _, Ext.refl _⟩
  case round =>
    obtain ⟨k, hk, rfl, ho, hE⟩ := hrel
    by_cases hlt : k < l.length
    · have hE' := Ext.trans E2 hE
      obtain ⟨r, hx⟩ := get_of_lt hlt
      obtain ⟨b, off, rfl⟩ := Rec.Rd.addr (hv.mono hE') (by omega)
      obtain ⟨ca, cc, c0, c1, c2, c3, hat⟩ := Rec.Rd.cells (hv.mono hE') hx
      have HX := Lib.hid hx
      have hflen := fmK_len (dueP sch day act) (·.id) l k
      have hr := goodRs_mem h1 (List.mem_of_getElem? hx)
      have hrl := HL.out r (List.mem_of_getElem? hx)
      obtain ⟨w4, hw4⟩ : ∃ w4, w4 = wr.alloc (.cells #[.int .i64 r.id, .int .i64 r.se, .int .i64 r.ma, .slice ca r.evs.length cc] 49) := ⟨_, rfl⟩
      have E4 : Ext wr w4 := by rw [hw4]; exact (Ext.refl wr).alloc _
      have y0 : w4.cell? ⟨wr.heap.size, 0, none⟩ = some (.int .i64 r.id) := by rw [hw4]; simp
      have HD := deciding_ok r sch _ _ w4 hr h2 (hat.mono E4) (hvs.mono (Ext.trans hE' E4)) hrl hls
      have HP : Hid (dueP sch day act r = ((decD r sch).1.ac == act && inB (decD r sch).2 0 day)) := Lib.hid rfl
      obtain ⟨⟨⟨D1, D2, D3, D4⟩, D5⟩, hD⟩ : ∃ D, decD r sch = D := ⟨_, rfl⟩
      rw [hD] at HD HP
      have HQ : Hid (inB D5 0 day = (decide (0 ≤ D5) && decide (max D5 0 ≤ day))) := Lib.hid (by rw [Bool.eq_iff_iff]; simp [inB]; omega)
      obtain ⟨ob, hob⟩ : ∃ b, decide (0 ≤ D5) = b := ⟨_, rfl⟩
      obtain ⟨m, hm⟩ : ∃ m, max D5 0 = m := ⟨_, rfl⟩
      rw [hob, hm] at HD HQ
      clear hx hD hob hm
      go_wp2_with fail
      rw [← hw4]
      refine HD.mono ?_
      rintro e w5 ⟨rfl, E5⟩
      have y0 := E5.cell y0
      have E45 := Ext.trans E4 E5
      have hE5 := Ext.trans hE E45
      have ho5 := E45.owns ho
      have hyb := block_lt_of_cell y0
      clear c0 c1 c2 c3 hw4 HD
      obtain ⟨w6, hw6⟩ : ∃ w6, w6 = w5.alloc (.cells #[.int .i64 D1, .int .i64 D2, .int .i64 D3, .int .i64 D4] 78) := ⟨_, rfl⟩
      have E6 : Ext w5 w6 := by rw [hw6]; exact (Ext.refl _).alloc _
      have hE6 := Ext.trans hE5 E6
      have ho6 := E6.owns ho5
      have x3 : w6.cell? ⟨w5.heap.size, 3, none⟩ = some (.int .i64 D4) := by rw [hw6]; simp
      have y0 := E6.cell y0
      go_upto_region 8 with fail
      rw [← hw6]
      clear hw6
      go_cut [54] (fun c wx => c = .bool (dueP sch day act r) ∧ wx = w6)
      case first =>
        cases hA : (D4 == act) <;> cases ob <;> cases hC : decide (m ≤ day)
        all_goals
          go_wp2
          go_meet
          exact ⟨congrArg Value.bool (by rw [HP.out, HQ.out]; simp [hA, hC]), rfl⟩
      case rest =>
      obtain ⟨rfl, rfl⟩ := hcut
      cases hp : dueP sch day act r
      case false =>
        have HK := Lib.hid (fmK_no (f := fun x : Rec => x.id) HX.out hp)
        go_wp2
        go_roundw
        case rel => exact ⟨k + 1, by omega, by go_num, by rw [HK.out]; exact ho6, hE6⟩
        case measure => simp [intOf]; omega
      have HK := Lib.hid (fmK_yes (f := fun x : Rec => x.id) HX.out hp)
      go_wp2_with (at_builtin; refine wpl_append1 w2 _ rfl _ _ 23 rfl 3 _ 1 8 Try.underlying23 Try.infoInt rfl (by decide) (by decide) _ _ _ hE6 ho6 ?c1 [.int .i64 (r.id)] rfl rfl rfl (encI_one _) ?_)
      case c1 => omega
      intro v' w7 o7 E7 _
      go_wp2
      go_roundw
      case rel => exact ⟨k + 1, by omega, by go_num, by rw [HK.out]; simpa [encI] using o7, E7⟩
      case measure => simp [intOf]; omega
    · have HF := Lib.hid ((fmK_all (dueP sch day act) (·.id) (show l.length ≤ k by omega)).trans HN.out.symm)
      rw [HF.out] at ho
      go_wp2
      go_ret2
      exact ⟨_, rfl, owns_mono ho E2.size, Ext.trans E2 hE⟩
end Go.Proofs.Ytpmjjkhikciokaa
