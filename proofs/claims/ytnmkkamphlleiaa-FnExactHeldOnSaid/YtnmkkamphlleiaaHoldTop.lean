/- What FreeDay, MayDestroy and FirstDestruction compute; no condition beyond the lengths that are named. -/
import Derived.Test.YtnmkkamphlleiaaFree
import Derived.Test.YtnmkkamphlleiaaHoldTopData
import Derived.Test.YtnmkkamphlleiaaDueR2
namespace Go.Proofs.Ytnmkkamphlleiaa
open Go.RowKit Go.Sort Go.Rd
set_option maxHeartbeats 4000000 in
theorem specFreeDay_ok (l : List Hld) (r : Rec) (day : Int) (v sv : Value) (w : World) (hv : Hld.Rd w v l) (hr : Rec.At w (r, sv)) (hl : l.length ≤ 1048576) (hll : ∀ h ∈ l, h.ss.length ≤ 1048576) (hrl : r.evs.length ≤ 1048576) :
    Calls Try.prog 23 #[v, .agg #[.int .i64 r.id, .int .i64 r.se, .int .i64 r.ma, sv], .int .i64 day] w fun e w' => e = .returned (.tuple #[.int .i64 ((freeDO l r day).getD 0), .bool (freeDO l r day).isSome]) ∧ Ext w w' := by
  obtain ⟨a2, cap2, hs⟩ := Reads.shape hr
  simp only at hs
  subst hs
  obtain ⟨w2, hw2⟩ : ∃ w2, w2 = w.alloc (.cells #[.int .i64 r.id, .int .i64 r.se, .int .i64 r.ma, .slice a2 r.evs.length cap2] 41) := ⟨_, rfl⟩
  have E2 : Ext w w2 := by rw [hw2]; exact (Ext.refl w).alloc _
  have k0 : w2.cell? ⟨w.heap.size, 0, none⟩ = some (.int .i64 r.id) := by rw [hw2]; simp
  have k1 : w2.cell? ⟨w.heap.size, 1, none⟩ = some (.int .i64 r.se) := by rw [hw2]; simp
  have k2 : w2.cell? ⟨w.heap.size, 2, none⟩ = some (.int .i64 r.ma) := by rw [hw2]; simp
  have k3 : w2.cell? ⟨w.heap.size, 3, none⟩ = some (.slice a2 r.evs.length cap2) := by rw [hw2]; simp
  have HL := Lib.hid hll
  obtain ⟨res, hres⟩ : ∃ z, freeDO l r day = z := ⟨_, rfl⟩
  have HY := Lib.hid (fun h => hres.symm.trans (freeDO_yes (l := l) (r := r) (day := day) h))
  have HN := Lib.hid (fun h => hres.symm.trans (freeDO_no (l := l) (r := r) (day := day) h))
  have HC := l9Asked_ok l r day v _ w2 (hv.mono E2) (Reads.mono E2 hr) hl hll hrl
  rw [hres]
  clear hll hres
  go_enter Try.func23, Try.ntmps23
  go_wp2_with fail
  rw [← hw2]
  clear hw2
  refine HC.mono ?_
  rintro e w3 ⟨rfl, E3⟩
  have E3' := Ext.trans E2 E3
  have k0 := E3.cell k0
  have k1 := E3.cell k1
  have k2 := E3.cell k2
  have k3 := E3.cell k3
  cases ho : askedH l r day
  case false =>
    obtain rfl := HN.out ho
    go_wp2
    go_ret2
    exact ⟨rfl, E3'⟩
  obtain ⟨hg, hok, hd0, hd1⟩ := asked_parts ho
  have HE := Lib.hid (fpasses_eq (fun h hm => goodHs_mem hg hm) (r := r) hd1)
  have HR : Hid (res = freeO l r day) := Lib.hid (HY.out ho)
  go_wp2_with fail
  refine (l9Free_ok l r day v _ _ (hv.mono E3') (Reads.mono E3' hr) hl HL.out).mono ?_
  rintro e w4 ⟨rfl, E4⟩
  rw [HE.out, ← HR.out]
  have E4' := Ext.trans E3' E4
  cases res with
  | none =>
    simp only [Option.getD_none]
    go_wp2
    go_ret2
    exact ⟨rfl, E4'⟩
  | some c =>
    obtain ⟨hc0, hc1⟩ := freeO_le HR.out.symm
    simp only [Option.getD_some]
    have hz : decide (20000 < c) = false := decide_eq_false (by omega)
    have k0 := E4.cell k0
    have k1 := E4.cell k1
    have k2 := E4.cell k2
    have k3 := E4.cell k3
    go_wp2_with fail
    refine (l9Free_ok l r day v _ _ (hv.mono E4') (Reads.mono E4' hr) hl HL.out).mono ?_
    rintro e w5 ⟨rfl, E5⟩
    rw [HE.out, ← HR.out]
    simp only [Option.getD_some]
    go_wp2
    go_ret2
    exact ⟨rfl, Ext.trans E4' E5⟩
set_option maxHeartbeats 4000000 in
theorem freeDayTop_ok (l : List Hld) (r : Rec) (day : Int) (v sv : Value) (w : World) (hv : Hld.Rd w v l) (hr : Rec.At w (r, sv)) (hl : l.length ≤ 1048576) (hll : ∀ h ∈ l, h.ss.length ≤ 1048576) (hrl : r.evs.length ≤ 1048576) :
    Calls Try.prog 25 #[v, .agg #[.int .i64 r.id, .int .i64 r.se, .int .i64 r.ma, sv], .int .i64 day] w fun e w' => e = .returned (.tuple #[.int .i64 ((freeDO l r day).getD 0), .bool (freeDO l r day).isSome]) ∧ Ext w w' := by
  obtain ⟨a2, cap2, hs⟩ := Reads.shape hr
  simp only at hs
  subst hs
  obtain ⟨w2, hw2⟩ : ∃ w2, w2 = w.alloc (.cells #[.int .i64 r.id, .int .i64 r.se, .int .i64 r.ma, .slice a2 r.evs.length cap2] 41) := ⟨_, rfl⟩
  have E2 : Ext w w2 := by rw [hw2]; exact (Ext.refl w).alloc _
  have k0 : w2.cell? ⟨w.heap.size, 0, none⟩ = some (.int .i64 r.id) := by rw [hw2]; simp
  have k1 : w2.cell? ⟨w.heap.size, 1, none⟩ = some (.int .i64 r.se) := by rw [hw2]; simp
  have k2 : w2.cell? ⟨w.heap.size, 2, none⟩ = some (.int .i64 r.ma) := by rw [hw2]; simp
  have k3 : w2.cell? ⟨w.heap.size, 3, none⟩ = some (.slice a2 r.evs.length cap2) := by rw [hw2]; simp
  have HL := Lib.hid hll
  obtain ⟨res, hres⟩ : ∃ z, freeDO l r day = z := ⟨_, rfl⟩
  have HY := Lib.hid (fun h => hres.symm.trans (freeDO_yes (l := l) (r := r) (day := day) h))
  have HN := Lib.hid (fun h => hres.symm.trans (freeDO_no (l := l) (r := r) (day := day) h))
  have HC := areHeld_ok l r day v _ w2 (hv.mono E2) (Reads.mono E2 hr) hl hll hrl
  rw [hres]
  clear hll hres
  go_enter Try.func25, Try.ntmps25
  go_wp2_with fail
  rw [← hw2]
  clear hw2
  refine HC.mono ?_
  rintro e w3 ⟨rfl, E3⟩
  have E3' := Ext.trans E2 E3
  have k0 := E3.cell k0
  have k1 := E3.cell k1
  have k2 := E3.cell k2
  have k3 := E3.cell k3
  cases ho : askedH l r day
  case false =>
    obtain rfl := HN.out ho
    go_wp2
    go_ret2
    exact ⟨rfl, E3'⟩
  obtain ⟨hg, hok, hd0, hd1⟩ := asked_parts ho
  obtain rfl : res = freeO l r day := HY.out ho
  go_wp2_with fail
  refine (freeDay_ok l r day v _ _ hd0 (by omega) hg (hv.mono E3') (Reads.mono E3' hr) hl HL.out).mono ?_
  rintro e w4 ⟨rfl, E4⟩
  go_wp2
  go_ret2
  exact ⟨rfl, Ext.trans E3' E4⟩
set_option maxHeartbeats 4000000 in
theorem specMayDestroy_ok (l : List Hld) (r : Rec) (sch : List Rul) (day : Int) (v sv vs : Value) (w : World) (hv : Hld.Rd w v l) (hr : Rec.At w (r, sv)) (hvs : Reads w 4 vs sch.length (sch.flatMap Rul.enc)) (hl : l.length ≤ 1048576) (hll : ∀ h ∈ l, h.ss.length ≤ 1048576) (hrl : r.evs.length ≤ 1048576) (hls : sch.length ≤ 1048576) :
    Calls Try.prog 46 #[v, .agg #[.int .i64 r.id, .int .i64 r.se, .int .i64 r.ma, sv], vs, .int .i64 day] w fun e w' => e = .returned (.tuple #[.bool (mayB l r sch day), .bool (mayOk l r sch day)]) ∧ Ext w w' := by
  obtain ⟨a2, cap2, hs⟩ := Reads.shape hr
  simp only at hs
  subst hs
  obtain ⟨w2, hw2⟩ : ∃ w2, w2 = w.alloc (.cells #[.int .i64 r.id, .int .i64 r.se, .int .i64 r.ma, .slice a2 r.evs.length cap2] 41) := ⟨_, rfl⟩
  have E2 : Ext w w2 := by rw [hw2]; exact (Ext.refl w).alloc _
  have k0 : w2.cell? ⟨w.heap.size, 0, none⟩ = some (.int .i64 r.id) := by rw [hw2]; simp
  have k1 : w2.cell? ⟨w.heap.size, 1, none⟩ = some (.int .i64 r.se) := by rw [hw2]; simp
  have k2 : w2.cell? ⟨w.heap.size, 2, none⟩ = some (.int .i64 r.ma) := by rw [hw2]; simp
  have k3 : w2.cell? ⟨w.heap.size, 3, none⟩ = some (.slice a2 r.evs.length cap2) := by rw [hw2]; simp
  have HL := Lib.hid hll
  obtain ⟨res, hres⟩ : ∃ z, mayB l r sch day = z := ⟨_, rfl⟩
  obtain ⟨ok, hok⟩ : ∃ z, mayOk l r sch day = z := ⟨_, rfl⟩
  have HR := Lib.hid (hres.symm.trans (mayB_eq l r sch day))
  have HK := Lib.hid hok
  have HC := l9Asked_ok l r day v _ w2 (hv.mono E2) (Reads.mono E2 hr) hl hll hrl
  rw [hres, hok]
  rw [hok] at HR
  clear hll hres hok
  go_enter Try.func46, Try.ntmps46
  go_wp2_with fail
  rw [← hw2]
  clear hw2
  refine HC.mono ?_
  rintro e w3 ⟨rfl, E3⟩
  have E3' := Ext.trans E2 E3
  have k0 := E3.cell k0
  have k1 := E3.cell k1
  have k2 := E3.cell k2
  have k3 := E3.cell k3
  cases ho : askedH l r day
  case false =>
    obtain rfl : ok = false := by rw [← HK.out, mayOk, ho]; rfl
    obtain rfl : res = false := HR.out
    go_wp2
    go_ret2
    exact ⟨rfl, E3'⟩
  obtain ⟨hg, hrok, hd0, hd1⟩ := asked_parts ho
  go_wp2_with fail
  refine (l4Good_ok sch vs _ (hvs.mono E3') hls).mono ?_
  rintro e w4 ⟨rfl, E4⟩
  have E4' := Ext.trans E3' E4
  have k0 := E4.cell k0
  have k1 := E4.cell k1
  have k2 := E4.cell k2
  have k3 := E4.cell k3
  cases hs : goodR sch
  case false =>
    obtain rfl : ok = false := by rw [← HK.out, mayOk, ho, hs]; rfl
    obtain rfl : res = false := HR.out
    go_wp2
    go_ret2
    exact ⟨rfl, E4'⟩
  obtain rfl : ok = true := by rw [← HK.out, mayOk, ho, hs]; rfl
  have HD := l6Deciding_ok r sch _ vs w4 hrok hs (Reads.mono E4' hr) (hvs.mono E4') hrl hls
  obtain ⟨⟨⟨D1, D2, D3, D4⟩, D5⟩, hD⟩ : ∃ D, decD r sch = D := ⟨_, rfl⟩
  have HDD := Lib.hid hD
  rw [hD] at HD HR
  clear hD HC
  go_wp2_with fail
  refine HD.mono ?_
  rintro e w5 ⟨rfl, E5⟩
  have k0 := E5.cell k0
  have k1 := E5.cell k1
  have k2 := E5.cell k2
  have k3 := E5.cell k3
  have E5' := Ext.trans E4' E5
  obtain ⟨w6, hw6⟩ : ∃ w6, w6 = w5.alloc (.cells #[.int .i64 D1, .int .i64 D2, .int .i64 D3, .int .i64 D4] 100) := ⟨_, rfl⟩
  have E6 : Ext w5 w6 := by rw [hw6]; exact (Ext.refl _).alloc _
  have x3 : w6.cell? ⟨w5.heap.size, 3, none⟩ = some (.int .i64 D4) := by rw [hw6]; simp
  have k0 := E6.cell k0
  have k1 := E6.cell k1
  have k2 := E6.cell k2
  have k3 := E6.cell k3
  have E6' := Ext.trans E5' E6
  go_upto_region 4 with fail
  rw [← hw6]
  clear hw6
  cases hA : (D4 == 3)
  case false =>
    obtain rfl : res = false := by have := HR.out; rw [hA] at this; exact this
    go_wp2
    go_ret2
    exact ⟨rfl, E6'⟩
  have HU := l6Due_ok r sch day _ vs w6 hrok hs (Reads.mono E6' hr) (hvs.mono E6') hrl hls
  rw [HDD.out] at HU
  go_wp2_with fail
  refine HU.mono ?_
  rintro e w7 ⟨rfl, E7⟩
  have k0 := E7.cell k0
  have k1 := E7.cell k1
  have k2 := E7.cell k2
  have k3 := E7.cell k3
  have E7' := Ext.trans E6' E7
  cases hB : inB D5 0 day
  case false =>
    obtain rfl : res = false := by have := HR.out; rw [hA, hB] at this; exact this
    go_wp2
    go_ret2
    exact ⟨rfl, E7'⟩
  go_wp2_with fail
  refine (l9On_ok l r day v _ _ (hv.mono E7') (Reads.mono E7' hr) hl HL.out).mono ?_
  rintro e w8 ⟨v8, rfl, o8, E8⟩
  obtain ⟨a8, c8, rfl⟩ := o8.shape
  have HO := Lib.hid (heldB_on l r day)
  obtain ⟨m, hm⟩ : ∃ m, (onL l r day).length = m := ⟨_, rfl⟩
  rw [hm] at HO ⊢
  have HZ : Hid (((m : Int) == 0) = res) := Lib.hid (by have := HR.out; rw [hA, hB] at this; rw [this]; have h2 := HO.out; simp only [Bool.true_and]; rw [← h2, Bool.eq_iff_iff]; simp)
  have hz := HZ.out
  cases res
  all_goals
    go_wp2
    go_ret2
    exact ⟨rfl, Ext.trans E7' E8⟩
set_option maxHeartbeats 4000000 in
theorem mayDestroy_ok (l : List Hld) (r : Rec) (sch : List Rul) (day : Int) (v sv vs : Value) (w : World) (hv : Hld.Rd w v l) (hr : Rec.At w (r, sv)) (hvs : Reads w 4 vs sch.length (sch.flatMap Rul.enc)) (hl : l.length ≤ 1048576) (hll : ∀ h ∈ l, h.ss.length ≤ 1048576) (hrl : r.evs.length ≤ 1048576) (hls : sch.length ≤ 1048576) :
    Calls Try.prog 48 #[v, .agg #[.int .i64 r.id, .int .i64 r.se, .int .i64 r.ma, sv], vs, .int .i64 day] w fun e w' => e = .returned (.tuple #[.bool (mayB l r sch day), .bool (mayOk l r sch day)]) ∧ Ext w w' := by
  obtain ⟨a2, cap2, hs⟩ := Reads.shape hr
  simp only at hs
  subst hs
  obtain ⟨w2, hw2⟩ : ∃ w2, w2 = w.alloc (.cells #[.int .i64 r.id, .int .i64 r.se, .int .i64 r.ma, .slice a2 r.evs.length cap2] 41) := ⟨_, rfl⟩
  have E2 : Ext w w2 := by rw [hw2]; exact (Ext.refl w).alloc _
  have k0 : w2.cell? ⟨w.heap.size, 0, none⟩ = some (.int .i64 r.id) := by rw [hw2]; simp
  have k1 : w2.cell? ⟨w.heap.size, 1, none⟩ = some (.int .i64 r.se) := by rw [hw2]; simp
  have k2 : w2.cell? ⟨w.heap.size, 2, none⟩ = some (.int .i64 r.ma) := by rw [hw2]; simp
  have k3 : w2.cell? ⟨w.heap.size, 3, none⟩ = some (.slice a2 r.evs.length cap2) := by rw [hw2]; simp
  have HL := Lib.hid hll
  obtain ⟨res, hres⟩ : ∃ z, mayB l r sch day = z := ⟨_, rfl⟩
  obtain ⟨ok, hok⟩ : ∃ z, mayOk l r sch day = z := ⟨_, rfl⟩
  have HR := Lib.hid (hres.symm.trans (mayB_eq l r sch day))
  have HK := Lib.hid hok
  have HC := areHeld_ok l r day v _ w2 (hv.mono E2) (Reads.mono E2 hr) hl hll hrl
  rw [hres, hok]
  rw [hok] at HR
  clear hll hres hok
  go_enter Try.func48, Try.ntmps48
  go_wp2_with fail
  rw [← hw2]
  clear hw2
  refine HC.mono ?_
  rintro e w3 ⟨rfl, E3⟩
  have E3' := Ext.trans E2 E3
  have k0 := E3.cell k0
  have k1 := E3.cell k1
  have k2 := E3.cell k2
  have k3 := E3.cell k3
  cases ho : askedH l r day
  case false =>
    obtain rfl : ok = false := by rw [← HK.out, mayOk, ho]; rfl
    obtain rfl : res = false := HR.out
    go_wp2
    go_ret2
    exact ⟨rfl, E3'⟩
  obtain ⟨hg, hrok, hd0, hd1⟩ := asked_parts ho
  go_wp2_with fail
  refine (isSchedule_ok sch vs _ (hvs.mono E3') hls).mono ?_
  rintro e w4 ⟨rfl, E4⟩
  have E4' := Ext.trans E3' E4
  have k0 := E4.cell k0
  have k1 := E4.cell k1
  have k2 := E4.cell k2
  have k3 := E4.cell k3
  cases hs : goodR sch
  case false =>
    obtain rfl : ok = false := by rw [← HK.out, mayOk, ho, hs]; rfl
    obtain rfl : res = false := HR.out
    go_wp2
    go_ret2
    exact ⟨rfl, E4'⟩
  obtain rfl : ok = true := by rw [← HK.out, mayOk, ho, hs]; rfl
  have HD := deciding_ok r sch _ vs w4 hrok hs (Reads.mono E4' hr) (hvs.mono E4') hrl hls
  obtain ⟨⟨⟨D1, D2, D3, D4⟩, D5⟩, hD⟩ : ∃ D, decD r sch = D := ⟨_, rfl⟩
  rw [hD] at HD HR
  have HQ : Hid (inB D5 0 day = (decide (0 ≤ D5) && decide (max D5 0 ≤ day))) := Lib.hid (by rw [Bool.eq_iff_iff]; simp [inB]; omega)
  obtain ⟨ob, hob⟩ : ∃ b, decide (0 ≤ D5) = b := ⟨_, rfl⟩
  obtain ⟨m, hm⟩ : ∃ m, max D5 0 = m := ⟨_, rfl⟩
  rw [hob, hm] at HD HQ
  rw [HQ.out] at HR
  clear hD HC hob hm HQ
  go_wp2_with fail
  refine HD.mono ?_
  rintro e w5 ⟨rfl, E5⟩
  have k0 := E5.cell k0
  have k1 := E5.cell k1
  have k2 := E5.cell k2
  have k3 := E5.cell k3
  have E5' := Ext.trans E4' E5
  obtain ⟨w6, hw6⟩ : ∃ w6, w6 = w5.alloc (.cells #[.int .i64 D1, .int .i64 D2, .int .i64 D3, .int .i64 D4] 100) := ⟨_, rfl⟩
  have E6 : Ext w5 w6 := by rw [hw6]; exact (Ext.refl _).alloc _
  have x3 : w6.cell? ⟨w5.heap.size, 3, none⟩ = some (.int .i64 D4) := by rw [hw6]; simp
  have k0 := E6.cell k0
  have k1 := E6.cell k1
  have k2 := E6.cell k2
  have k3 := E6.cell k3
  have E6' := Ext.trans E5' E6
  go_upto_region 4 with fail
  rw [← hw6]
  clear hw6
  cases ob
  case false =>
    obtain rfl : res = false := by have := HR.out; simpa using this
    go_wp2
    go_ret2
    exact ⟨rfl, E6'⟩
  cases hB : decide (m ≤ day)
  case false =>
    obtain rfl : res = false := by have := HR.out; rw [hB] at this; simpa using this
    go_wp2
    go_ret2
    exact ⟨rfl, E6'⟩
  cases hA : (D4 == 3)
  case false =>
    obtain rfl : res = false := by have := HR.out; rw [hA] at this; exact this
    go_wp2
    go_ret2
    exact ⟨rfl, E6'⟩
  go_wp2_with fail
  refine (holdsOn_ok l r day v _ _ hg (hv.mono E6') (Reads.mono E6' hr) hl HL.out).mono ?_
  rintro e w8 ⟨v8, rfl, o8, E8⟩
  obtain ⟨a8, c8, rfl⟩ := (Reads.of_owns o8).shape
  have HO := Lib.hid (heldB_on l r day)
  obtain ⟨n, hn⟩ : ∃ m, (onL l r day).length = m := ⟨_, rfl⟩
  rw [hn] at HO ⊢
  have HZ : Hid (((n : Int) == 0) = res) := Lib.hid (by have := HR.out; rw [hA, hB] at this; rw [this]; have h2 := HO.out; simp only [Bool.true_and]; rw [← h2, Bool.eq_iff_iff]; simp)
  have hz := HZ.out
  cases res
  all_goals
    go_wp2
    go_ret2
    exact ⟨rfl, Ext.trans E6' E8⟩
end Go.Proofs.Ytnmkkamphlleiaa
