/- What DueOn, DueDays and FirstDueDay compute; no condition beyond the lengths that are named. -/
import Derived.Test.YtpggimkfdeommaaVers2
namespace Go.Rd
theorem whyN_le (l : List Ver) (r : Rec) (day : Int) : whyN l r day ≤ 5 := by
  unfold whyN whyV
  repeat' split
  all_goals omega
end Go.Rd
namespace Go.Proofs.Ytpggimkfdeommaa
open Go.RowKit Go.Sort Go.Rd
set_option maxHeartbeats 4000000 in
theorem l8Due_ok (l : List Ver) (r : Rec) (day : Int) (v sv : Value) (w : World) (hok : askedV l r day = true) (hv : Ver.Rd w v l) (hr : Rec.At w (r, sv)) (hl : l.length ≤ 1048576) (hll : ∀ p ∈ l, p.rs.length ≤ 1048576) (hrl : r.evs.length ≤ 1048576) :
    Calls Try.prog 73 #[v, .agg #[.int .i64 r.id, .int .i64 r.se, .int .i64 r.ma, sv], .int .i64 day] w fun e w' => e = .returned (.bool (whyN l r day == 5)) ∧ Ext w w' := by
  have mixed : Try.prog.follows .mixedOrders = true := by kernel_rfl
  obtain ⟨a2, cap2, hs⟩ := Reads.shape hr
  simp only at hs
  subst hs
  obtain ⟨w2, hw2⟩ : ∃ w2, w2 = w.alloc (.cells #[.int .i64 r.id, .int .i64 r.se, .int .i64 r.ma, .slice a2 r.evs.length cap2] 42) := ⟨_, rfl⟩
  have E2 : Ext w w2 := by rw [hw2]; exact (Ext.refl w).alloc _
  have k0 : w2.cell? ⟨w.heap.size, 0, none⟩ = some (.int .i64 r.id) := by rw [hw2]; simp
  have k1 : w2.cell? ⟨w.heap.size, 1, none⟩ = some (.int .i64 r.se) := by rw [hw2]; simp
  have k2 : w2.cell? ⟨w.heap.size, 2, none⟩ = some (.int .i64 r.ma) := by rw [hw2]; simp
  have k3 : w2.cell? ⟨w.heap.size, 3, none⟩ = some (.slice a2 r.evs.length cap2) := by rw [hw2]; simp
  obtain ⟨hg, hrok, hd0, hd1⟩ := askedV_parts hok
  have HL := Lib.hid hll
  have HC := l8On_ok l day v w2 (hv.mono E2) hl
  obtain ⟨a, cap, rfl⟩ := hv.shape
  have HB := Lib.hid (onV_bound l day l.length)
  have HV := Lib.hid (@at_some l day)
  have HN1 := Lib.hid (fun h => congrArg (fun n => n == 5) (whyN_1 (l := l) (r := r) hok h))
  have HNV := Lib.hid (fun (h : 0 ≤ onVs l day) (u : Ver) hu => (congrArg (fun n => n == 5) (whyN_v hok h (v := u) hu)).trans (whyV_due r u.rs day))
  obtain ⟨m, hm⟩ : ∃ m, onVs l day = m := ⟨_, rfl⟩
  rw [hm] at HV HN1 HNV HC
  rw [show onV l day l.length = m from hm] at HB
  obtain ⟨res, hres⟩ : ∃ b, (whyN l r day == 5) = b := ⟨_, rfl⟩
  rw [hres]
  have HR := Lib.hid hres
  clear hm hres hll
  go_enter Try.func73, Try.ntmps73
  go_wp2_with fail
  rw [← hw2]
  clear hw2
  refine HC.mono ?_
  rintro e w4 ⟨rfl, E4⟩
  have E4' := Ext.trans E2 E4
  have k0 := E4.cell k0
  have k1 := E4.cell k1
  have k2 := E4.cell k2
  have k3 := E4.cell k3
  by_cases hm0 : m < 0
  case pos =>
    obtain rfl : res = false := HR.out.symm.trans (HN1.out (by omega))
    have hmd : decide (0 ≤ m) = false := decide_eq_false (by omega)
    go_upto_region 2 with fail
    go_cut [6] (fun z wx => z = .bool false ∧ Ext w4 wx)
    case first =>
      refine wp_region_quiet_below mixed (by kernel_rfl) ?_
      repeat (first | go_big_quiet_step (fail) | quiet_step (fail))
      refine wpQuiet_nil ?_
      intro _ hw'
      obtain ⟨⟨dq, osq⟩, hw''⟩ := hw'
      subst hw''
      go_wp2
      go_meet
      exact ⟨rfl, (Ext.refl w4).regrown dq osq⟩
    case rest =>
    obtain ⟨rfl, E5⟩ := hcut
    go_wp2
    go_ret
    exact ⟨rfl, Ext.trans E4' E5⟩
  have hmn : (0 : Int) ≤ m := by omega
  have hmd : decide (0 ≤ m) = true := decide_eq_true hmn
  have hml : m < l.length := HB.out.2
  obtain ⟨u, hu⟩ := HV.out hmn
  obtain ⟨b, off, rfl⟩ := Ver.Rd.addr (hv.mono E4') (by omega)
  obtain ⟨ca, cc, c0, c1, hat⟩ := Ver.Rd.cells (hv.mono E4') hu
  have hul := HL.out u (List.mem_of_getElem? hu)
  have hgv := (okV_parts (goodVs_mem hg (List.mem_of_getElem? hu))).2
  have HW : Hid (res = inB (decD r u.rs).2 0 day) := Lib.hid (HR.out.symm.trans (HNV.out hmn u hu))
  have cO := Calls.in_class (w := w4) (fun w' hw' => l6Due_ok r u.rs day _ _ w' hrok hgv (Reads.mono (Ext.trans E4' hw') hr) (hat.mono hw') hrl hul)
  rw [← HW.out] at cO
  have x0 := cell_in_class c0
  have x1 := cell_in_class c1
  have y0 := cell_in_class k0
  have y1 := cell_in_class k1
  have y2 := cell_in_class k2
  have y3 := cell_in_class k3
  clear hu HV HN1 HNV HB
  go_upto_region 2 with fail
  go_cut [6] (fun z wx => z = .bool res ∧ Ext w4 wx)
  case first =>
    refine wp_region_quiet_below mixed (by kernel_rfl) ?_
    repeat (first | go_big_quiet_step (exact cO _ _) | quiet_step (exact cO _ _))
    refine wpQuiet_nil ?_
    intro _ hw'
    obtain ⟨⟨dq, osq⟩, hw''⟩ := hw'
    subst hw''
    clear cO x0 x1 y0 y1 y2 y3
    go_wp2
    go_meet
    exact ⟨rfl, (Ext.refl w4).regrown dq osq⟩
  case rest =>
  obtain ⟨rfl, E5⟩ := hcut
  go_wp2
  go_ret
  exact ⟨rfl, Ext.trans E4' E5⟩
set_option maxHeartbeats 4000000 in
theorem specDueOn_ok (l : List Ver) (r : Rec) (day : Int) (v sv : Value) (w : World) (hv : Ver.Rd w v l) (hr : Rec.At w (r, sv)) (hl : l.length ≤ 1048576) (hll : ∀ p ∈ l, p.rs.length ≤ 1048576) (hrl : r.evs.length ≤ 1048576) :
    Calls Try.prog 35 #[v, .agg #[.int .i64 r.id, .int .i64 r.se, .int .i64 r.ma, sv], .int .i64 day] w fun e w' => e = .returned (.tuple #[.bool (whyN l r day == 5), .bool (askedV l r day)]) ∧ Ext w w' := by
  obtain ⟨a2, cap2, hs⟩ := Reads.shape hr
  simp only at hs
  subst hs
  obtain ⟨w2, hw2⟩ : ∃ w2, w2 = w.alloc (.cells #[.int .i64 r.id, .int .i64 r.se, .int .i64 r.ma, .slice a2 r.evs.length cap2] 42) := ⟨_, rfl⟩
  have E2 : Ext w w2 := by rw [hw2]; exact (Ext.refl w).alloc _
  have k0 : w2.cell? ⟨w.heap.size, 0, none⟩ = some (.int .i64 r.id) := by rw [hw2]; simp
  have k1 : w2.cell? ⟨w.heap.size, 1, none⟩ = some (.int .i64 r.se) := by rw [hw2]; simp
  have k2 : w2.cell? ⟨w.heap.size, 2, none⟩ = some (.int .i64 r.ma) := by rw [hw2]; simp
  have k3 : w2.cell? ⟨w.heap.size, 3, none⟩ = some (.slice a2 r.evs.length cap2) := by rw [hw2]; simp
  have HL := Lib.hid hll
  have HC := l8Asked_ok l r day v _ w2 (hv.mono E2) (Reads.mono E2 hr) hl hll hrl
  obtain ⟨res, hres⟩ : ∃ b, (whyN l r day == 5) = b := ⟨_, rfl⟩
  rw [hres]
  have HR := Lib.hid hres
  obtain ⟨ok, hok⟩ : ∃ b, askedV l r day = b := ⟨_, rfl⟩
  rw [hok] at HC ⊢
  have HOK := Lib.hid hok
  clear hll hres hok
  go_enter Try.func35, Try.ntmps35
  go_wp2_with fail
  rw [← hw2]
  clear hw2
  refine HC.mono ?_
  rintro e w3 ⟨rfl, E3⟩
  have E3' := Ext.trans E2 E3
  have k0 := E3.cell k0
  have k1 := E3.cell k1
  have k2 := E3.cell k2
  have k3 := E3.cell k3
  cases ok
  case false =>
    obtain rfl : res = false := by rw [← HR.out, whyN_0 HOK.out]; rfl
    go_wp2
    go_ret2
    exact ⟨rfl, E3'⟩
  go_wp2_with fail
  refine (l8Due_ok l r day v _ _ HOK.out (hv.mono E3') (Reads.mono E3' hr) hl HL.out hrl).mono ?_
  rintro e w4 ⟨rfl, E4⟩
  rw [HR.out]
  go_wp2
  go_ret2
  exact ⟨rfl, Ext.trans E3' E4⟩
set_option maxHeartbeats 4000000 in
theorem dueOn_ok (l : List Ver) (r : Rec) (day : Int) (v sv : Value) (w : World) (hv : Ver.Rd w v l) (hr : Rec.At w (r, sv)) (hl : l.length ≤ 1048576) (hll : ∀ p ∈ l, p.rs.length ≤ 1048576) (hrl : r.evs.length ≤ 1048576) :
    Calls Try.prog 36 #[v, .agg #[.int .i64 r.id, .int .i64 r.se, .int .i64 r.ma, sv], .int .i64 day] w fun e w' => e = .returned (.tuple #[.bool (whyN l r day == 5), .bool (askedV l r day)]) ∧ Ext w w' := by
  obtain ⟨a2, cap2, hs⟩ := Reads.shape hr
  simp only at hs
  subst hs
  obtain ⟨w2, hw2⟩ : ∃ w2, w2 = w.alloc (.cells #[.int .i64 r.id, .int .i64 r.se, .int .i64 r.ma, .slice a2 r.evs.length cap2] 42) := ⟨_, rfl⟩
  have E2 : Ext w w2 := by rw [hw2]; exact (Ext.refl w).alloc _
  have k0 : w2.cell? ⟨w.heap.size, 0, none⟩ = some (.int .i64 r.id) := by rw [hw2]; simp
  have k1 : w2.cell? ⟨w.heap.size, 1, none⟩ = some (.int .i64 r.se) := by rw [hw2]; simp
  have k2 : w2.cell? ⟨w.heap.size, 2, none⟩ = some (.int .i64 r.ma) := by rw [hw2]; simp
  have k3 : w2.cell? ⟨w.heap.size, 3, none⟩ = some (.slice a2 r.evs.length cap2) := by rw [hw2]; simp
  have HC := whyOn_ok l r day v _ w2 (hv.mono E2) (Reads.mono E2 hr) hl hll hrl
  have h5 := whyN_le l r day
  obtain ⟨ok, hok⟩ : ∃ b, askedV l r day = b := ⟨_, rfl⟩
  rw [hok] at HC ⊢
  clear hok
  obtain ⟨n, hn⟩ : ∃ z, whyN l r day = z := ⟨_, rfl⟩
  rw [hn] at h5 HC ⊢
  clear hn
  obtain rfl | rfl | rfl | rfl | rfl | rfl : n = 0 ∨ n = 1 ∨ n = 2 ∨ n = 3 ∨ n = 4 ∨ n = 5 := by omega
  all_goals
    simp only [wordB] at HC
    go_enter Try.func36, Try.ntmps36
    go_wp2_with fail
    rw [← hw2]
    refine HC.mono ?_
    rintro e w3 ⟨rfl, E3⟩
    go_wp2
    go_ret2
    exact ⟨rfl, Ext.trans E2 E3⟩
set_option maxHeartbeats 4000000 in
theorem specDueDays_ok (l : List Ver) (r : Rec) (v sv : Value) (w : World) (hv : Ver.Rd w v l) (hr : Rec.At w (r, sv)) (hl : l.length ≤ 1048576) (hll : ∀ p ∈ l, p.rs.length ≤ 1048576) (hrl : r.evs.length ≤ 1048576) :
    Calls Try.prog 39 #[v, .agg #[.int .i64 r.id, .int .i64 r.se, .int .i64 r.ma, sv]] w (RetReadB w 1 (dueDL l r).length ((dueDL l r).flatMap encI) (askedV l r 0)) := by
  obtain ⟨a2, cap2, hs⟩ := Reads.shape hr
  simp only at hs
  subst hs
  obtain ⟨w2, hw2⟩ : ∃ w2, w2 = (w.alloc (.cells #[.int .i64 r.id, .int .i64 r.se, .int .i64 r.ma, .slice a2 r.evs.length cap2] 42)).alloc (.cells #[] 3) := ⟨_, rfl⟩
  have E2 : Ext w w2 := by rw [hw2]; exact ((Ext.refl w).alloc _).alloc _
  have k0 : w2.cell? ⟨w.heap.size, 0, none⟩ = some (.int .i64 r.id) := by rw [hw2]; simp
  have k1 : w2.cell? ⟨w.heap.size, 1, none⟩ = some (.int .i64 r.se) := by rw [hw2]; simp
  have k2 : w2.cell? ⟨w.heap.size, 2, none⟩ = some (.int .i64 r.ma) := by rw [hw2]; simp
  have k3 : w2.cell? ⟨w.heap.size, 3, none⟩ = some (.slice a2 r.evs.length cap2) := by rw [hw2]; simp
  have HL := Lib.hid hll
  have HC := l8Asked_ok l r 0 v _ w2 (hv.mono E2) (Reads.mono E2 hr) hl hll hrl
  obtain ⟨a, cap, rfl⟩ := hv.shape
  obtain ⟨N, hN⟩ : ∃ z, dueDL l r = z := ⟨_, rfl⟩
  have HY := Lib.hid (fun h => hN.symm.trans (dueDL_yes (l := l) (r := r) h))
  have HNO := Lib.hid (fun h => hN.symm.trans (dueDL_no (l := l) (r := r) h))
  rw [hN]
  obtain ⟨ok, hok⟩ : ∃ b, askedV l r 0 = b := ⟨_, rfl⟩
  rw [hok] at HC HY HNO ⊢
  have HOK := Lib.hid hok
  clear hll hN hok
  go_enter Try.func39, Try.ntmps39
  go_wp2_with fail
  rw [← hw2]
  clear hw2
  refine HC.mono ?_
  rintro e w3 ⟨rfl, E3⟩
  have E3' := Ext.trans E2 E3
  have k0 := E3.cell k0
  have k1 := E3.cell k1
  have k2 := E3.cell k2
  have k3 := E3.cell k3
  cases ok
  case false =>
    obtain rfl := HNO.out rfl
    go_wp2
    go_ret2
    exact ⟨_, rfl, (OutR.empty w w 3 1 _).reads.mono E3', E3'⟩
  obtain ⟨hg, hrok, hd0, hd1⟩ := askedV_parts HOK.out
  have HN := Lib.hid (HY.out rfl)
  clear HY HNO HC
  go_wp2
  go_loopw [6, 7, 8, 9] (fun out i _ _ wr => ∃ k : Nat, k ≤ l.length ∧ i = .int .i64 k ∧ OutR w3 wr 3 1 out (dueDs (l.take k) r).length ((dueDs (l.take k) r).flatMap encI) ∧ Ext w3 wr) (fun _ i _ _ _ => l.length - (intOf i).toNat)
  case atStart => exact ⟨0, Nat.zero_le _, rfl, OutR.empty _ _ _ _ _, Ext.refl _⟩
  case round =>
    obtain ⟨k, hk, rfl, ho, hE⟩ := hrel
    by_cases hlt : k < l.length
    · have hE' := Ext.trans E3' hE
      obtain ⟨u, hu⟩ := get_of_lt hlt
      obtain ⟨b, off, rfl⟩ := Ver.Rd.addr (hv.mono hE') (by omega)
      obtain ⟨ca, cc, c0, c1, hat⟩ := Ver.Rd.cells (hv.mono hE') hu
      have hul := HL.out u (List.mem_of_getElem? hu)
      have hgv := (okV_parts (goodVs_mem hg (List.mem_of_getElem? hu))).2
      have HSTEP := Lib.hid (dueDs_step (r := r) hu)
      have hflen : (dueDs (l.take k) r).length ≤ 1048576 := by rw [dueDs_length]; have := List.length_take_le k l; omega
      obtain ⟨⟨⟨D1, D2, D3, D4⟩, D5⟩, hD⟩ : ∃ D, decD r u.rs = D := ⟨_, rfl⟩
      have HDD := Lib.hid hD
      rw [hD] at HSTEP
      have j0 := hE.cell k0
      have j1 := hE.cell k1
      have j2 := hE.cell k2
      have j3 := hE.cell k3
      have hbl := block_lt_of_cell c1
      have hkl := block_lt_of_cell j0
      simp only at hbl hkl
      clear hu hD
      go_upto_region 7 with fail
      go_cut [8, 9] (fun _ d wx => d = .int .i64 D5 ∧ Ext wr wx)
      case first =>
        go_region_with (go_at_call 55; refine (l6Deciding_ok r u.rs _ _ _ hrok hgv ?_ ?_ hrl hul).mono ?_; (first | exact Reads.mono hE' hr | exact Reads.mono hE'.drew hr | exact Reads.mono (hE'.alloc _).drew hr); (first | exact hat | exact Reads.mono ((Ext.refl wr).drew) hat | exact Reads.mono (((Ext.refl wr).alloc _).drew) hat); rw [HDD.out]; rintro e wq ⟨rfl, Fq0⟩; (first | (have bx : Box wq wr.heap.size 37 [.int .i64 0, .int .i64 0, .int .i64 0, .int .i64 0] := Box.ext Fq0 (Box.new wr 37 [.int .i64 0, .int .i64 0, .int .i64 0, .int .i64 0]); have e0 := bx.cell 0 rfl; have e1 := bx.cell 1 rfl; have e2 := bx.cell 2 rfl; have e3 := bx.cell 3 rfl; have f0 := bx.frozen 0; have f1 := bx.frozen 1; have f2 := bx.frozen 2; have f3 := bx.frozen 3; have Fq : Ext wr wq := Ext.trans (((Ext.refl wr).alloc _).drew) Fq0) | (have Fq : Ext wr wq := Ext.trans ((Ext.refl wr).drew) Fq0) | have Fq : Ext wr wq := Fq0))
        all_goals (try go_wp2)
        all_goals go_meet
        all_goals exact ⟨rfl, by first | exact Fq.alloc _ | exact Fq | exact (((Fq.setCell (Nat.le_refl _) _).setCell (Nat.le_refl _) _).setCell (Nat.le_refl _) _).setCell (Nat.le_refl _) _⟩
      case rest =>
      obtain ⟨rfl, E5⟩ := hcut
      have hE5 := Ext.trans hE E5
      have ho5 := OutR.ext E5 ho
      clear c0 c1 j0 j1 j2 j3 hbl hkl
      go_wp2_with (at_builtin; refine wpl_appendR w3 _ rfl _ _ 67 rfl 3 _ 1 8 Try.underlying67 Try.infoInt rfl (by decide) (by decide) _ _ _ hE5 ho5 ?c1 [.int .i64 (D5)] rfl rfl rfl (encI_one _) ?_)
      case c1 => omega
      intro v' w6 o6 E6 _
      go_wp2
      go_roundw
      case rel => exact ⟨k + 1, by omega, by go_num, by rw [HSTEP.out]; simpa [encI] using o6, E6⟩
      case measure => simp [intOf]; omega
    · have hkn : l.take k = l := List.take_of_length_le (by omega)
      have HF : Hid (dueDs (l.take k) r = N) := Lib.hid (by rw [hkn, HN.out])
      rw [HF.out] at ho
      clear hkn
      go_wp2
      go_ret2
      exact ⟨_, rfl, ho.reads, Ext.trans E3' hE⟩
set_option maxHeartbeats 4000000 in
theorem dueDays_ok (l : List Ver) (r : Rec) (v sv : Value) (w : World) (hv : Ver.Rd w v l) (hr : Rec.At w (r, sv)) (hl : l.length ≤ 1048576) (hll : ∀ p ∈ l, p.rs.length ≤ 1048576) (hrl : r.evs.length ≤ 1048576) :
    Calls Try.prog 40 #[v, .agg #[.int .i64 r.id, .int .i64 r.se, .int .i64 r.ma, sv]] w (RetOwnB w 3 1 (dueDL l r).length ((dueDL l r).flatMap encI) (askedV l r 0)) := by
  obtain ⟨a2, cap2, hs⟩ := Reads.shape hr
  simp only at hs
  subst hs
  obtain ⟨w2, hw2⟩ : ∃ w2, w2 = w.alloc (.cells #[.int .i64 r.id, .int .i64 r.se, .int .i64 r.ma, .slice a2 r.evs.length cap2] 42) := ⟨_, rfl⟩
  have E2 : Ext w w2 := by rw [hw2]; exact (Ext.refl w).alloc _
  have k0 : w2.cell? ⟨w.heap.size, 0, none⟩ = some (.int .i64 r.id) := by rw [hw2]; simp
  have k1 : w2.cell? ⟨w.heap.size, 1, none⟩ = some (.int .i64 r.se) := by rw [hw2]; simp
  have k2 : w2.cell? ⟨w.heap.size, 2, none⟩ = some (.int .i64 r.ma) := by rw [hw2]; simp
  have k3 : w2.cell? ⟨w.heap.size, 3, none⟩ = some (.slice a2 r.evs.length cap2) := by rw [hw2]; simp
  have HL := Lib.hid hll
  have HC := areVersions_ok l v w2 (hv.mono E2) hl hll
  obtain ⟨a, cap, rfl⟩ := hv.shape
  obtain ⟨N, hN⟩ : ∃ z, dueDL l r = z := ⟨_, rfl⟩
  have HY := Lib.hid (fun h => hN.symm.trans (dueDL_yes (l := l) (r := r) h))
  have HNO := Lib.hid (fun h => hN.symm.trans (dueDL_no (l := l) (r := r) h))
  rw [hN]
  obtain ⟨ok, hok⟩ : ∃ b, askedV l r 0 = b := ⟨_, rfl⟩
  rw [hok] at HY HNO ⊢
  have HOK := Lib.hid hok
  clear hll hN hok
  go_enter Try.func40, Try.ntmps40
  go_wp2_with fail
  rw [← hw2]
  clear hw2
  refine HC.mono ?_
  rintro e w3 ⟨rfl, E3⟩
  have E3' := Ext.trans E2 E3
  have k0 := E3.cell k0
  have k1 := E3.cell k1
  have k2 := E3.cell k2
  have k3 := E3.cell k3
  cases t1 : goodVs l
  case false =>
    obtain rfl : ok = false := by rw [← HOK.out, askedV, t1]; rfl
    obtain rfl := HNO.out rfl
    go_wp2
    go_ret2
    exact ⟨_, rfl, World.ownsRow_nil _ _ _ _, E3'⟩
  go_wp2_with fail
  refine (isRecord_ok r _ _ (Reads.mono E3' hr) hrl).mono ?_
  rintro e w4 ⟨rfl, E4⟩
  have E4' := Ext.trans E3' E4
  have k0 := E4.cell k0
  have k1 := E4.cell k1
  have k2 := E4.cell k2
  have k3 := E4.cell k3
  cases t2 : okRec r
  case false =>
    obtain rfl : ok = false := by rw [← HOK.out, askedV, t1, t2]; rfl
    obtain rfl := HNO.out rfl
    go_wp2
    go_ret2
    exact ⟨_, rfl, World.ownsRow_nil _ _ _ _, E4'⟩
  obtain rfl : ok = true := by rw [← HOK.out, askedV, t1, t2]; rfl
  obtain ⟨hg, hrok, hd0, hd1⟩ := askedV_parts HOK.out
  have HN := Lib.hid (HY.out rfl)
  clear HY HNO HC
  go_wp2
  go_loopw [6, 8, 9, 10, 11, 22] (fun out _ _ _ _ i wr => ∃ k : Nat, k ≤ l.length ∧ i = .int .i64 k ∧ wr.ownsRow w4.heap.size 3 1 out (dueDs (l.take k) r).length ((dueDs (l.take k) r).flatMap encI) ∧ Ext w4 wr) (fun _ _ _ _ _ i _ => l.length - (intOf i).toNat)
  case atStart => exact ⟨0, Nat.zero_le _, rfl, World.ownsRow_nil _ _ _ _, Ext.refl _⟩
  case round =>
    obtain ⟨k, hk, rfl, ho, hE⟩ := hrel
    by_cases hlt : k < l.length
    · have hE' := Ext.trans E4' hE
      obtain ⟨u, hu⟩ := get_of_lt hlt
      obtain ⟨b, off, rfl⟩ := Ver.Rd.addr (hv.mono hE') (by omega)
      obtain ⟨ca, cc, c0, c1, hat⟩ := Ver.Rd.cells (hv.mono hE') hu
      have hul := HL.out u (List.mem_of_getElem? hu)
      have hgv := (okV_parts (goodVs_mem hg (List.mem_of_getElem? hu))).2
      have HSTEP := Lib.hid (dueDs_step (r := r) hu)
      have HBD := Lib.hid (decD_bound hrok hgv)
      have hflen : (dueDs (l.take k) r).length ≤ 1048576 := by rw [dueDs_length]; have := List.length_take_le k l; omega
      obtain ⟨w5, hw5⟩ : ∃ w5, w5 = wr.alloc (.cells #[.int .i64 u.fr, .slice ca u.rs.length cc] 55) := ⟨_, rfl⟩
      have E5 : Ext wr w5 := by rw [hw5]; exact (Ext.refl wr).alloc _
      have HD := deciding_ok r u.rs _ _ w5 hrok hgv (Reads.mono (Ext.trans hE' E5) hr) (hat.mono E5) hrl hul
      obtain ⟨⟨⟨D1, D2, D3, D4⟩, D5⟩, hD⟩ : ∃ D, decD r u.rs = D := ⟨_, rfl⟩
      rw [hD] at HSTEP HD HBD
      obtain ⟨hb0, hb1⟩ := HBD.out
      try simp only at hb0 hb1
      obtain ⟨ob, hob⟩ : ∃ b, decide (0 ≤ D5) = b := ⟨_, rfl⟩
      obtain ⟨x, hx⟩ : ∃ m, max D5 0 = m := ⟨_, rfl⟩
      rw [hob, hx] at HD
      have HOB := Lib.hid hob
      have HX := Lib.hid hx
      have j0 := hE.cell k0
      have j1 := hE.cell k1
      have j2 := hE.cell k2
      have j3 := hE.cell k3
      have hkl := block_lt_of_cell j0
      simp only at hkl
      clear hu hD hob hx
      go_wp2_with fail
      rw [← hw5]
      refine HD.mono ?_
      rintro e w6 ⟨rfl, E6⟩
      have hE6 := Ext.trans hE (Ext.trans E5 E6)
      have ho6 := (Ext.trans E5 E6).owns ho
      clear c0 c1 j0 j1 j2 j3 hw5 HD
      obtain ⟨w7, hw7⟩ : ∃ w7, w7 = w6.alloc (.cells #[.int .i64 D1, .int .i64 D2, .int .i64 D3, .int .i64 D4] 37) := ⟨_, rfl⟩
      have E7 : Ext w6 w7 := by rw [hw7]; exact (Ext.refl _).alloc _
      have hE7 := Ext.trans hE6 E7
      have ho7 := E7.owns ho6
      go_upto_region 8 with fail
      rw [← hw7]
      clear hw7
      cases ob
      case false =>
        obtain rfl : D5 = -1 := by have := of_decide_eq_false HOB.out; omega
        go_wp2_with (at_builtin; refine wpl_append1 w4 _ rfl _ _ 67 rfl 3 _ 1 8 Try.underlying67 Try.infoInt rfl (by decide) (by decide) _ _ _ hE7 ho7 ?c1 [.int .i64 (-1)] rfl rfl rfl (encI_one _) ?_)
        case c1 => omega
        intro v' w8 o8 E8 _
        go_wp2
        go_roundw
        case rel => exact ⟨k + 1, by omega, by go_num, by rw [HSTEP.out]; simpa [encI] using o8, E8⟩
        case measure => simp [intOf]; omega
      obtain rfl : D5 = x := by have := of_decide_eq_true HOB.out; have := HX.out; omega
      go_wp2_with (at_builtin; refine wpl_append1 w4 _ rfl _ _ 67 rfl 3 _ 1 8 Try.underlying67 Try.infoInt rfl (by decide) (by decide) _ _ _ hE7 ho7 ?c1 [.int .i64 (D5)] rfl rfl rfl (encI_one _) ?_)
      case c1 => omega
      intro v' w8 o8 E8 _
      go_wp2
      go_roundw
      case rel => exact ⟨k + 1, by omega, by go_num, by rw [HSTEP.out]; simpa [encI] using o8, E8⟩
      case measure => simp [intOf]; omega
    · have hkn : l.take k = l := List.take_of_length_le (by omega)
      have HF : Hid (dueDs (l.take k) r = N) := Lib.hid (by rw [hkn, HN.out])
      rw [HF.out] at ho
      clear hkn
      go_wp2
      go_ret2
      exact ⟨_, rfl, owns_mono ho E4'.size, Ext.trans E4' hE⟩
end Go.Proofs.Ytpggimkfdeommaa
