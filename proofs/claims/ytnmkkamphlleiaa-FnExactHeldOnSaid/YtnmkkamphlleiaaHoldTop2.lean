/- What FirstDestruction and HeldOn compute; no condition beyond the lengths that are named. -/
import Derived.Test.YtnmkkamphlleiaaHoldTop
namespace Go.Proofs.Ytnmkkamphlleiaa
open Go.RowKit Go.Sort Go.Rd
set_option maxHeartbeats 4000000 in
theorem specFirstDestruction_ok (l : List Hld) (r : Rec) (sch : List Rul) (v sv vs : Value) (w : World) (hv : Hld.Rd w v l) (hr : Rec.At w (r, sv)) (hvs : Reads w 4 vs sch.length (sch.flatMap Rul.enc)) (hl : l.length ≤ 1048576) (hll : ∀ h ∈ l, h.ss.length ≤ 1048576) (hrl : r.evs.length ≤ 1048576) (hls : sch.length ≤ 1048576) :
    Calls Try.prog 50 #[v, .agg #[.int .i64 r.id, .int .i64 r.se, .int .i64 r.ma, sv], vs] w fun e w' => e = .returned (.tuple #[.int .i64 ((firstO l r sch).getD 0), .bool (firstO l r sch).isSome]) ∧ Ext w w' := by
  obtain ⟨a2, cap2, hs⟩ := Reads.shape hr
  simp only at hs
  subst hs
  obtain ⟨w2, hw2⟩ : ∃ w2, w2 = w.alloc (.cells #[.int .i64 r.id, .int .i64 r.se, .int .i64 r.ma, .slice a2 r.evs.length cap2] 41) := ⟨_, rfl⟩
  have E2 : Ext w w2 := by rw [hw2]; exact (Ext.refl w).alloc _
  have k0 : w2.cell? ⟨w.heap.size, 0, none⟩ = some (.int .i64 r.id) := by rw [hw2]; simp
  have k1 : w2.cell? ⟨w.heap.size, 1, none⟩ = some (.int .i64 r.se) := by rw [hw2]; simp
  have k2 : w2.cell? ⟨w.heap.size, 2, none⟩ = some (.int .i64 r.ma) := by rw [hw2]; simp
  have k3 : w2.cell? ⟨w.heap.size, 3, none⟩ = some (.slice a2 r.evs.length cap2) := by rw [hw2]; simp
  have HL := Lib.hid hll
  obtain ⟨res, hres⟩ : ∃ z, firstO l r sch = z := ⟨_, rfl⟩
  have HY := Lib.hid (fun h => hres.symm.trans (firstO_yes (l := l) (r := r) (sch := sch) h))
  have HN := Lib.hid (fun h => hres.symm.trans (firstO_no (l := l) (r := r) (sch := sch) h))
  have HC := l9Asked_ok l r 0 v _ w2 (hv.mono E2) (Reads.mono E2 hr) hl hll hrl
  rw [hres]
  clear hll hres
  go_enter Try.func50, Try.ntmps50
  go_wp2_with fail
  rw [← hw2]
  clear hw2
  refine HC.mono ?_
  rintro e w3 ⟨rfl, E3⟩
  have E3' := Ext.trans E2 E3
  have k0 := E3.cell k0
  have k1 := E3.cell k1
  have k2 := E3.cell k2
  have k3 := E3.cell k3
  cases ho : askedH l r 0
  case false =>
    obtain rfl := HN.out (by rw [firstOk, ho]; rfl)
    go_wp2
    go_ret2
    exact ⟨rfl, E3'⟩
  obtain ⟨hg, hrok, hd0, hd1⟩ := asked_parts ho
  go_wp2_with fail
  refine (l4Good_ok sch vs _ (hvs.mono E3') hls).mono ?_
  rintro e w4 ⟨rfl, E4⟩
  have E4' := Ext.trans E3' E4
  have k0 := E4.cell k0
  have k1 := E4.cell k1
  have k2 := E4.cell k2
  have k3 := E4.cell k3
  cases hs : goodR sch
  case false =>
    obtain rfl := HN.out (by rw [firstOk, ho, hs]; rfl)
    go_wp2
    go_ret2
    exact ⟨rfl, E4'⟩
  have HD := l6Deciding_ok r sch _ vs w4 hrok hs (Reads.mono E4' hr) (hvs.mono E4') hrl hls
  have HB := Lib.hid (decD_act hrok hs)
  have HK : Hid (firstOk l r sch = ((decD r sch).1.ac == 3)) := Lib.hid (by rw [firstOk, ho, hs]; rfl)
  obtain ⟨⟨⟨D1, D2, D3, D4⟩, D5⟩, hD⟩ : ∃ D, decD r sch = D := ⟨_, rfl⟩
  rw [hD] at HD HB HK HY
  clear hD HC
  go_wp2_with fail
  refine HD.mono ?_
  rintro e w5 ⟨rfl, E5⟩
  have k0 := E5.cell k0
  have k1 := E5.cell k1
  have k2 := E5.cell k2
  have k3 := E5.cell k3
  have E5' := Ext.trans E4' E5
  obtain ⟨w6, hw6⟩ : ∃ w6, w6 = w5.alloc (.cells #[.int .i64 D1, .int .i64 D2, .int .i64 D3, .int .i64 D4] 100) := ⟨_, rfl⟩
  have E6 : Ext w5 w6 := by rw [hw6]; exact (Ext.refl _).alloc _
  have x3 : w6.cell? ⟨w5.heap.size, 3, none⟩ = some (.int .i64 D4) := by rw [hw6]; simp
  have k0 := E6.cell k0
  have k1 := E6.cell k1
  have k2 := E6.cell k2
  have k3 := E6.cell k3
  have E6' := Ext.trans E5' E6
  go_upto_region 4 with fail
  rw [← hw6]
  clear hw6
  cases hA : (D4 == 3)
  case false =>
    have hA2 : (D4 != 3) = true := by rw [bne, hA]; rfl
    obtain rfl := HN.out (HK.out.trans hA)
    go_wp2
    go_ret2
    exact ⟨rfl, E6'⟩
  have hA2 : (D4 != 3) = false := by rw [bne, hA]; rfl
  have HR := Lib.hid (HY.out (HK.out.trans hA))
  have h5 : 0 ≤ D5 := by
    rcases HB.out with h | h
    · (try simp only at h); rw [h] at hA; exact absurd hA (by decide)
    · exact h
  cases hB : decide (20000 < D5)
  case true =>
    obtain rfl : res = none := by rw [HR.out]; exact freeO_end (of_decide_eq_true hB)
    go_wp2
    go_ret2
    exact ⟨rfl, E6'⟩
  have hb5 : D5 ≤ 20000 := by have := of_decide_eq_false hB; omega
  have HE := Lib.hid (fpasses_eq (fun h hm => goodHs_mem hg hm) (r := r) hb5)
  go_wp2_with fail
  refine (l9Free_ok l r D5 v _ _ (hv.mono E6') (Reads.mono E6' hr) hl HL.out).mono ?_
  rintro e w7 ⟨rfl, E7⟩
  have E7' := Ext.trans E6' E7
  rw [HE.out, ← HR.out]
  cases res with
  | none =>
    simp only [Option.getD_none]
    go_wp2
    go_ret2
    exact ⟨rfl, E7'⟩
  | some c =>
    obtain ⟨hc0, hc1⟩ := freeO_le HR.out.symm
    simp only [Option.getD_some]
    have hz : decide (20000 < c) = false := decide_eq_false (by omega)
    have k0 := E7.cell k0
    have k1 := E7.cell k1
    have k2 := E7.cell k2
    have k3 := E7.cell k3
    go_wp2_with fail
    refine (l9Free_ok l r D5 v _ _ (hv.mono E7') (Reads.mono E7' hr) hl HL.out).mono ?_
    rintro e w8 ⟨rfl, E8⟩
    rw [HE.out, ← HR.out]
    simp only [Option.getD_some]
    go_wp2
    go_ret2
    exact ⟨rfl, Ext.trans E7' E8⟩
set_option maxHeartbeats 4000000 in
theorem firstDestruction_ok (l : List Hld) (r : Rec) (sch : List Rul) (v sv vs : Value) (w : World) (hv : Hld.Rd w v l) (hr : Rec.At w (r, sv)) (hvs : Reads w 4 vs sch.length (sch.flatMap Rul.enc)) (hl : l.length ≤ 1048576) (hll : ∀ h ∈ l, h.ss.length ≤ 1048576) (hrl : r.evs.length ≤ 1048576) (hls : sch.length ≤ 1048576) :
    Calls Try.prog 51 #[v, .agg #[.int .i64 r.id, .int .i64 r.se, .int .i64 r.ma, sv], vs] w fun e w' => e = .returned (.tuple #[.int .i64 ((firstO l r sch).getD 0), .bool (firstO l r sch).isSome]) ∧ Ext w w' := by
  obtain ⟨a2, cap2, hs⟩ := Reads.shape hr
  simp only at hs
  subst hs
  obtain ⟨w2, hw2⟩ : ∃ w2, w2 = w.alloc (.cells #[.int .i64 r.id, .int .i64 r.se, .int .i64 r.ma, .slice a2 r.evs.length cap2] 41) := ⟨_, rfl⟩
  have E2 : Ext w w2 := by rw [hw2]; exact (Ext.refl w).alloc _
  have k0 : w2.cell? ⟨w.heap.size, 0, none⟩ = some (.int .i64 r.id) := by rw [hw2]; simp
  have k1 : w2.cell? ⟨w.heap.size, 1, none⟩ = some (.int .i64 r.se) := by rw [hw2]; simp
  have k2 : w2.cell? ⟨w.heap.size, 2, none⟩ = some (.int .i64 r.ma) := by rw [hw2]; simp
  have k3 : w2.cell? ⟨w.heap.size, 3, none⟩ = some (.slice a2 r.evs.length cap2) := by rw [hw2]; simp
  have HL := Lib.hid hll
  obtain ⟨res, hres⟩ : ∃ z, firstO l r sch = z := ⟨_, rfl⟩
  have HY := Lib.hid (fun h => hres.symm.trans (firstO_yes (l := l) (r := r) (sch := sch) h))
  have HN := Lib.hid (fun h => hres.symm.trans (firstO_no (l := l) (r := r) (sch := sch) h))
  have HC := areHeld_ok l r 0 v _ w2 (hv.mono E2) (Reads.mono E2 hr) hl hll hrl
  rw [hres]
  clear hll hres
  go_enter Try.func51, Try.ntmps51
  go_wp2_with fail
  rw [← hw2]
  clear hw2
  refine HC.mono ?_
  rintro e w3 ⟨rfl, E3⟩
  have E3' := Ext.trans E2 E3
  have k0 := E3.cell k0
  have k1 := E3.cell k1
  have k2 := E3.cell k2
  have k3 := E3.cell k3
  cases ho : askedH l r 0
  case false =>
    obtain rfl := HN.out (by rw [firstOk, ho]; rfl)
    go_wp2
    go_ret2
    exact ⟨rfl, E3'⟩
  obtain ⟨hg, hrok, hd0, hd1⟩ := asked_parts ho
  go_wp2_with fail
  refine (isSchedule_ok sch vs _ (hvs.mono E3') hls).mono ?_
  rintro e w4 ⟨rfl, E4⟩
  have E4' := Ext.trans E3' E4
  have k0 := E4.cell k0
  have k1 := E4.cell k1
  have k2 := E4.cell k2
  have k3 := E4.cell k3
  cases hs : goodR sch
  case false =>
    obtain rfl := HN.out (by rw [firstOk, ho, hs]; rfl)
    go_wp2
    go_ret2
    exact ⟨rfl, E4'⟩
  have HD := deciding_ok r sch _ vs w4 hrok hs (Reads.mono E4' hr) (hvs.mono E4') hrl hls
  have HB := Lib.hid (decD_act hrok hs)
  have HBB := Lib.hid (decD_bound hrok hs)
  have HK : Hid (firstOk l r sch = ((decD r sch).1.ac == 3)) := Lib.hid (by rw [firstOk, ho, hs]; rfl)
  obtain ⟨⟨⟨D1, D2, D3, D4⟩, D5⟩, hD⟩ : ∃ D, decD r sch = D := ⟨_, rfl⟩
  rw [hD] at HD HB HK HY HBB
  obtain ⟨ob, hob⟩ : ∃ b, decide (0 ≤ D5) = b := ⟨_, rfl⟩
  obtain ⟨m, hm⟩ : ∃ m, max D5 0 = m := ⟨_, rfl⟩
  rw [hob, hm] at HD
  have HOB := Lib.hid hob
  have HM := Lib.hid hm
  clear hD HC hob hm
  go_wp2_with fail
  refine HD.mono ?_
  rintro e w5 ⟨rfl, E5⟩
  have k0 := E5.cell k0
  have k1 := E5.cell k1
  have k2 := E5.cell k2
  have k3 := E5.cell k3
  have E5' := Ext.trans E4' E5
  obtain ⟨w6, hw6⟩ : ∃ w6, w6 = w5.alloc (.cells #[.int .i64 D1, .int .i64 D2, .int .i64 D3, .int .i64 D4] 100) := ⟨_, rfl⟩
  have E6 : Ext w5 w6 := by rw [hw6]; exact (Ext.refl _).alloc _
  have x3 : w6.cell? ⟨w5.heap.size, 3, none⟩ = some (.int .i64 D4) := by rw [hw6]; simp
  have k0 := E6.cell k0
  have k1 := E6.cell k1
  have k2 := E6.cell k2
  have k3 := E6.cell k3
  have E6' := Ext.trans E5' E6
  go_upto_region 4 with fail
  rw [← hw6]
  clear hw6
  cases ob
  case false =>
    have hA : (D4 == 3) = false := by
      have h1 := of_decide_eq_false HOB.out
      rcases HB.out with h | h
      · (try simp only at h); rw [h]; rfl
      · exact absurd h h1
    obtain rfl := HN.out (HK.out.trans hA)
    go_wp2
    go_ret2
    exact ⟨rfl, E6'⟩
  cases hA : (D4 == 3)
  case false =>
    have hA2 : (D4 != 3) = true := by rw [bne, hA]; rfl
    obtain rfl := HN.out (HK.out.trans hA)
    go_wp2
    go_ret2
    exact ⟨rfl, E6'⟩
  have hA2 : (D4 != 3) = false := by rw [bne, hA]; rfl
  have hbb := HBB.out
  try simp only at hbb
  obtain rfl : D5 = m := by have := of_decide_eq_true HOB.out; have := HM.out; omega
  obtain rfl : res = freeO l r D5 := HY.out (HK.out.trans hA)
  have h50 := of_decide_eq_true HOB.out
  go_wp2_with fail
  refine (freeDay_ok l r D5 v _ _ h50 (by omega) hg (hv.mono E6') (Reads.mono E6' hr) hl HL.out).mono ?_
  rintro e w8 ⟨rfl, E8⟩
  go_wp2
  go_ret2
  exact ⟨rfl, Ext.trans E6' E8⟩
set_option maxHeartbeats 4000000 in
theorem specHeldOn_ok (l : List Hld) (rs : List Rec) (day : Int) (v vr : Value) (w : World) (hv : Hld.Rd w v l) (hr : Rec.Rd w vr rs) (hl : l.length ≤ 1048576) (hll : ∀ h ∈ l, h.ss.length ≤ 1048576) (hrl : rs.length ≤ 1048576) (hrll : ∀ r ∈ rs, r.evs.length ≤ 1048576) :
    Calls Try.prog 38 #[v, vr, .int .i64 day] w (RetReadB w 1 (heldRL l rs day).length ((heldRL l rs day).flatMap encI) (heldOk l rs day)) := by
  have e0 : Ext w (w.alloc (.cells #[] 3)) := (Ext.refl w).alloc _
  obtain ⟨a, cap, rfl⟩ := hr.shape
  have HL := Lib.hid hll
  have HRL := Lib.hid hrll
  obtain ⟨N, hN⟩ : ∃ N, heldRL l rs day = N := ⟨_, rfl⟩
  have HY := Lib.hid (fun h => hN.symm.trans (heldRL_yes (l := l) (rs := rs) (day := day) h))
  have HF := Lib.hid (fun h => hN.symm.trans (heldRL_no (l := l) (rs := rs) (day := day) h))
  rw [hN]
  obtain ⟨ok, hok⟩ : ∃ ok, heldOk l rs day = ok := ⟨_, rfl⟩
  have HOK := Lib.hid hok
  rw [hok] at HY HF ⊢
  clear hN hok hll hrll
  go_enter Try.func38, Try.ntmps38
  go_wp2_with fail
  refine (l9Good_ok l _ _ (hv.mono e0) hl HL.out).mono ?_
  rintro e w1 ⟨rfl, E1⟩
  have E1' := Ext.trans e0 E1
  cases h1 : goodHs l
  case false =>
    obtain rfl : ok = false := by rw [← HOK.out, heldOk, h1]; rfl
    obtain rfl := HF.out rfl
    go_wp2
    go_ret2
    exact ⟨_, rfl, (OutR.empty w w 3 1 _).reads.mono E1', E1'⟩
  go_wp2_with fail
  refine (l2Records_ok rs _ _ (hr.mono E1') hrl HRL.out).mono ?_
  rintro e w2 ⟨rfl, E2⟩
  have E2' := Ext.trans E1' E2
  cases h2 : goodRs rs
  case false =>
    obtain rfl : ok = false := by rw [← HOK.out, heldOk, h1, h2]; rfl
    obtain rfl := HF.out rfl
    go_wp2
    go_ret2
    exact ⟨_, rfl, (OutR.empty w w 3 1 _).reads.mono E2', E2'⟩
  go_wp2_with fail
  refine (l2Day_ok day _).mono ?_
  rintro e w' ⟨rfl, rfl⟩
  cases h3 : inB day 0 20000
  case false =>
    obtain rfl : ok = false := by rw [← HOK.out, heldOk, h1, h2, h3]; rfl
    obtain rfl := HF.out rfl
    go_wp2
    go_ret2
    exact ⟨_, rfl, (OutR.empty w w 3 1 _).reads.mono E2', E2'⟩
  obtain rfl : ok = true := by rw [← HOK.out, heldOk, h1, h2, h3]; rfl
  have HN := Lib.hid (HY.out rfl)
  clear HY HF HOK
  go_wp2
  go_loopw [8, 9] (fun out i wr => ∃ k : Nat, k ≤ rs.length ∧ i = .int .i64 k ∧ OutR w2 wr 3 1 out (fmK (fun r => heldB l r day) (·.id) rs k).length ((fmK (fun r => heldB l r day) (·.id) rs k).flatMap encI) ∧ Ext w2 wr) (fun _ i _ => rs.length - (intOf i).toNat)
  case atStart => exact ⟨0, Nat.zero_le _, rfl, by rw [fmK_zero]; exact OutR.empty _ _ _ _ _, Ext.refl _⟩
  case round =>
    obtain ⟨k, hk, rfl, ho, hE⟩ := hrel
    by_cases hlt : k < rs.length
    · have hE' := Ext.trans E2' hE
      obtain ⟨r, hx⟩ := get_of_lt hlt
      obtain ⟨b, off, rfl⟩ := Rec.Rd.addr (hr.mono hE') (by omega)
      obtain ⟨ca, cc, c0, c1, c2, c3, hat⟩ := Rec.Rd.cells (hr.mono hE') hx
      have HX := Lib.hid hx
      have hflen := fmK_len (fun r => heldB l r day) (·.id) rs k
      clear hx
      go_wp2_with fail
      refine (l9On_ok l r day v _ _ (hv.mono hE') hat hl HL.out).mono ?_
      rintro e w4 ⟨v4, rfl, o4, E4⟩
      obtain ⟨a4, cap4, rfl⟩ := o4.shape
      have c0 := E4.cell c0
      have hE3 := Ext.trans hE E4
      have ho3 := OutR.ext E4 ho
      have HB := Lib.hid (heldB_on l r day)
      obtain ⟨m, hm⟩ : ∃ m, (onL l r day).length = m := ⟨_, rfl⟩
      rw [hm] at HB ⊢
      clear hm o4
      cases hp : heldB l r day
      case false =>
        have HK := Lib.hid (fmK_no (p := fun r => heldB l r day) (f := fun x : Rec => x.id) HX.out hp)
        have hz : ¬ (0 : Int) < (m : Int) := (by have := HB.out; rw [hp] at this; have := of_decide_eq_true this; omega)
        go_wp2
        go_roundw
        case rel => exact ⟨k + 1, by omega, by go_num, by rw [HK.out]; exact ho3, hE3⟩
        case measure => simp [intOf]; omega
      have HK := Lib.hid (fmK_yes (p := fun r => heldB l r day) (f := fun x : Rec => x.id) HX.out hp)
      have hz : (0 : Int) < (m : Int) := (by have := HB.out; rw [hp] at this; have := of_decide_eq_false this; omega)
      go_wp2_with (at_builtin; refine wpl_appendR w2 _ rfl _ _ 49 rfl 3 _ 1 8 Try.underlying49 Try.infoInt rfl (by decide) (by decide) _ _ _ hE3 ho3 ?c1 [.int .i64 (r.id)] rfl rfl rfl (encI_one _) ?_)
      case c1 => omega
      intro v' w5 o5 E5 _
      go_wp2
      go_roundw
      case rel => exact ⟨k + 1, by omega, by go_num, by rw [HK.out]; simpa [encI] using o5, E5⟩
      case measure => simp [intOf]; omega
    · have HF : Hid (fmK (fun r => heldB l r day) (·.id) rs k = N) := Lib.hid ((fmK_all _ _ (show rs.length ≤ k by omega)).trans HN.out.symm)
      rw [HF.out] at ho
      go_wp2
      go_ret2
      exact ⟨_, rfl, ho.reads, Ext.trans E2' hE⟩
set_option maxHeartbeats 4000000 in
theorem heldOn_ok (l : List Hld) (rs : List Rec) (day : Int) (v vr : Value) (w : World) (hv : Hld.Rd w v l) (hr : Rec.Rd w vr rs) (hl : l.length ≤ 1048576) (hll : ∀ h ∈ l, h.ss.length ≤ 1048576) (hrl : rs.length ≤ 1048576) (hrll : ∀ r ∈ rs, r.evs.length ≤ 1048576) :
    Calls Try.prog 40 #[v, vr, .int .i64 day] w (RetOwnB w 3 1 (heldRL l rs day).length ((heldRL l rs day).flatMap encI) (heldOk l rs day)) := by
  obtain ⟨a, cap, rfl⟩ := hr.shape
  have HL := Lib.hid hll
  have HRL := Lib.hid hrll
  obtain ⟨N, hN⟩ : ∃ N, heldRL l rs day = N := ⟨_, rfl⟩
  have HY := Lib.hid (fun h => hN.symm.trans (heldRL_yes (l := l) (rs := rs) (day := day) h))
  have HF := Lib.hid (fun h => hN.symm.trans (heldRL_no (l := l) (rs := rs) (day := day) h))
  rw [hN]
  obtain ⟨ok, hok⟩ : ∃ ok, heldOk l rs day = ok := ⟨_, rfl⟩
  have HOK := Lib.hid hok
  rw [hok] at HY HF ⊢
  clear hN hok hll hrll
  go_enter Try.func40, Try.ntmps40
  go_wp2_with fail
  refine (areHolds_ok l _ _ hv hl HL.out).mono ?_
  rintro e w1 ⟨rfl, E1⟩
  cases h1 : goodHs l
  case false =>
    obtain rfl : ok = false := by rw [← HOK.out, heldOk, h1]; rfl
    obtain rfl := HF.out rfl
    go_wp2
    go_ret2
    exact ⟨_, rfl, World.ownsRow_nil _ _ _ _, E1⟩
  go_wp2_with fail
  refine (areRecords_ok rs _ _ (hr.mono E1) hrl HRL.out).mono ?_
  rintro e w2 ⟨rfl, E2⟩
  have E2' := Ext.trans E1 E2
  cases h2 : goodRs rs
  case false =>
    obtain rfl : ok = false := by rw [← HOK.out, heldOk, h1, h2]; rfl
    obtain rfl := HF.out rfl
    go_wp2
    go_ret2
    exact ⟨_, rfl, World.ownsRow_nil _ _ _ _, E2'⟩
  go_wp2_with fail
  refine (isDay_ok day _).mono ?_
  rintro e w' ⟨rfl, rfl⟩
  cases h3 : inB day 0 20000
  case false =>
    obtain rfl : ok = false := by rw [← HOK.out, heldOk, h1, h2, h3]; rfl
    obtain rfl := HF.out rfl
    go_wp2
    go_ret2
    exact ⟨_, rfl, World.ownsRow_nil _ _ _ _, E2'⟩
  obtain rfl : ok = true := by rw [← HOK.out, heldOk, h1, h2, h3]; rfl
  have HN := Lib.hid (HY.out rfl)
  clear HY HF HOK
  go_wp2
  go_loopw [8, 10, 26] (fun out _ i wr => ∃ k : Nat, k ≤ rs.length ∧ i = .int .i64 k ∧ wr.ownsRow w2.heap.size 3 1 out (fmK (fun r => heldB l r day) (·.id) rs k).length ((fmK (fun r => heldB l r day) (·.id) rs k).flatMap encI) ∧ Ext w2 wr) (fun _ _ i _ => rs.length - (intOf i).toNat)
  case atStart => exact ⟨0, Nat.zero_le _, rfl, by rw [fmK_zero]; exact World.ownsRow_nil _ _ _ _, Ext.refl _⟩
  case round =>
    obtain ⟨k, hk, rfl, ho, hE⟩ := hrel
    by_cases hlt : k < rs.length
    · have hE' := Ext.trans E2' hE
      obtain ⟨r, hx⟩ := get_of_lt hlt
      obtain ⟨b, off, rfl⟩ := Rec.Rd.addr (hr.mono hE') (by omega)
      obtain ⟨ca, cc, c0, c1, c2, c3, hat⟩ := Rec.Rd.cells (hr.mono hE') hx
      have HX := Lib.hid hx
      have hflen := fmK_len (fun r => heldB l r day) (·.id) rs k
      obtain ⟨w5, hw5⟩ : ∃ w5, w5 = wr.alloc (.cells #[.int .i64 r.id, .int .i64 r.se, .int .i64 r.ma, .slice ca r.evs.length cc] 41) := ⟨_, rfl⟩
      have E5 : Ext wr w5 := by rw [hw5]; exact (Ext.refl wr).alloc _
      have y0 : w5.cell? ⟨wr.heap.size, 0, none⟩ = some (.int .i64 r.id) := by rw [hw5]; simp
      have HC := holdsOn_ok l r day v _ w5 h1 (hv.mono (Ext.trans hE' E5)) (hat.mono E5) hl HL.out
      clear hx
      go_wp2_with fail
      rw [← hw5]
      refine HC.mono ?_
      rintro e w4 ⟨v4, rfl, o4, E4⟩
      obtain ⟨a4, cap4, rfl⟩ := (Reads.of_owns o4).shape
      have y0 := E4.cell y0
      have E54 := Ext.trans E5 E4
      have hE3 := Ext.trans hE E54
      have ho3 := E54.owns ho
      have HB := Lib.hid (heldB_on l r day)
      obtain ⟨m, hm⟩ : ∃ m, (onL l r day).length = m := ⟨_, rfl⟩
      rw [hm] at HB ⊢
      clear hm o4 c0 c1 c2 c3 hw5 HC
      cases hp : heldB l r day
      case false =>
        have HK := Lib.hid (fmK_no (p := fun r => heldB l r day) (f := fun x : Rec => x.id) HX.out hp)
        have hz : ¬ (0 : Int) < (m : Int) := (by have := HB.out; rw [hp] at this; have := of_decide_eq_true this; omega)
        go_wp2
        go_roundw
        case rel => exact ⟨k + 1, by omega, by go_num, by rw [HK.out]; exact ho3, hE3⟩
        case measure => simp [intOf]; omega
      have HK := Lib.hid (fmK_yes (p := fun r => heldB l r day) (f := fun x : Rec => x.id) HX.out hp)
      have hz : (0 : Int) < (m : Int) := (by have := HB.out; rw [hp] at this; have := of_decide_eq_false this; omega)
      go_wp2_with (at_builtin; refine wpl_append1 w2 _ rfl _ _ 49 rfl 3 _ 1 8 Try.underlying49 Try.infoInt rfl (by decide) (by decide) _ _ _ hE3 ho3 ?c1 [.int .i64 (r.id)] rfl rfl rfl (encI_one _) ?_)
      case c1 => omega
      intro v' w6 o6 E6 _
      go_wp2
      go_roundw
      case rel => exact ⟨k + 1, by omega, by go_num, by rw [HK.out]; simpa [encI] using o6, E6⟩
      case measure => simp [intOf]; omega
    · have HF : Hid (fmK (fun r => heldB l r day) (·.id) rs k = N) := Lib.hid ((fmK_all _ _ (show rs.length ≤ k by omega)).trans HN.out.symm)
      rw [HF.out] at ho
      go_wp2
      go_ret2
      exact ⟨_, rfl, owns_mono ho E2'.size, Ext.trans E2' hE⟩
end Go.Proofs.Ytnmkkamphlleiaa
