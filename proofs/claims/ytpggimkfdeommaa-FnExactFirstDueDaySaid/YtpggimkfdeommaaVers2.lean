/- What WhyOn, DueOn, DueDays and FirstDueDay compute; no condition beyond the lengths that are named. -/
import Derived.Test.YtpggimkfdeommaaVers
import Derived.Test.YtpggimkfdeommaaVers2Data
import Derived.Test.YtpggimkfdeommaaDueR2
import Derived.Deep.RegionWith
import Derived.Lib.MinMax
namespace Go.Proofs.Ytpggimkfdeommaa
open Go.RowKit Go.Sort Go.Rd
set_option maxHeartbeats 400000 in
theorem l1Most_ok (a b : Int) (w : World) : Calls Try.prog 72 #[.int .i64 a, .int .i64 b] w fun e w' => e = .returned (.int .i64 (max a b)) ∧ w = w' := by
  by_cases h : b < a
  · have HR : Hid (max a b = a) := (by omega : max a b = a)
    go_enter Try.func72, Try.ntmps72
    go_wp2
    go_ret
    exact ⟨ret_int HR.out.symm, rfl⟩
  · have HR : Hid (max a b = b) := (by omega : max a b = b)
    go_enter Try.func72, Try.ntmps72
    go_wp2
    go_ret
    exact ⟨ret_int HR.out.symm, rfl⟩
set_option maxHeartbeats 2000000 in
theorem l8Asked_ok (l : List Ver) (r : Rec) (day : Int) (v sv : Value) (w : World) (hv : Ver.Rd w v l) (hr : Rec.At w (r, sv)) (hl : l.length ≤ 1048576) (hll : ∀ p ∈ l, p.rs.length ≤ 1048576) (hrl : r.evs.length ≤ 1048576) :
    Calls Try.prog 54 #[v, .agg #[.int .i64 r.id, .int .i64 r.se, .int .i64 r.ma, sv], .int .i64 day] w fun e w' => e = .returned (.bool (askedV l r day)) ∧ Ext w w' := by
  obtain ⟨a2, cap2, hs⟩ := Reads.shape hr
  simp only at hs
  subst hs
  obtain ⟨w2, hw2⟩ : ∃ w2, w2 = w.alloc (.cells #[.int .i64 r.id, .int .i64 r.se, .int .i64 r.ma, .slice a2 r.evs.length cap2] 42) := ⟨_, rfl⟩
  have E2 : Ext w w2 := by rw [hw2]; exact (Ext.refl w).alloc _
  have k0 : w2.cell? ⟨w.heap.size, 0, none⟩ = some (.int .i64 r.id) := by rw [hw2]; simp
  have k1 : w2.cell? ⟨w.heap.size, 1, none⟩ = some (.int .i64 r.se) := by rw [hw2]; simp
  have k2 : w2.cell? ⟨w.heap.size, 2, none⟩ = some (.int .i64 r.ma) := by rw [hw2]; simp
  have k3 : w2.cell? ⟨w.heap.size, 3, none⟩ = some (.slice a2 r.evs.length cap2) := by rw [hw2]; simp
  have HC := l8Good_ok l v w2 (hv.mono E2) hl hll
  obtain ⟨res, hres⟩ : ∃ b, askedV l r day = b := ⟨_, rfl⟩
  rw [hres]
  have HR := Lib.hid hres
  clear hres
  go_enter Try.func54, Try.ntmps54
  go_wp2_with fail
  rw [← hw2]
  refine HC.mono ?_
  rintro e w3 ⟨rfl, E3⟩
  have E3' := Ext.trans E2 E3
  have k0 := E3.cell k0
  have k1 := E3.cell k1
  have k2 := E3.cell k2
  have k3 := E3.cell k3
  clear hw2
  cases t1 : goodVs l
  case false =>
    have HF : Hid (res = false) := Lib.hid (by rw [← HR.out, askedV, t1]; rfl)
    go_wp2
    go_ret
    exact ⟨ret_bool HF.out.symm, E3'⟩
  go_wp2_with fail
  refine (l2Record_ok r _ _ (Reads.mono E3' hr) hrl).mono ?_
  rintro e w4 ⟨rfl, E4⟩
  have E4' := Ext.trans E3' E4
  cases t2 : okRec r
  case false =>
    have HF : Hid (res = false) := Lib.hid (by rw [← HR.out, askedV, t1, t2]; rfl)
    go_wp2
    go_ret
    exact ⟨ret_bool HF.out.symm, E4'⟩
  have HF : Hid (res = inB day 0 20000) := Lib.hid (by rw [← HR.out, askedV, t1, t2]; rfl)
  go_wp2_with fail
  refine (l2Day_ok day _).mono ?_
  rintro e w' ⟨rfl, rfl⟩
  go_wp2
  go_ret
  exact ⟨ret_bool HF.out.symm, E4'⟩
set_option maxHeartbeats 2000000 in
theorem areInForce_ok (l : List Ver) (r : Rec) (day : Int) (v sv : Value) (w : World) (hv : Ver.Rd w v l) (hr : Rec.At w (r, sv)) (hl : l.length ≤ 1048576) (hll : ∀ p ∈ l, p.rs.length ≤ 1048576) (hrl : r.evs.length ≤ 1048576) :
    Calls Try.prog 57 #[v, .agg #[.int .i64 r.id, .int .i64 r.se, .int .i64 r.ma, sv], .int .i64 day] w fun e w' => e = .returned (.bool (askedV l r day)) ∧ Ext w w' := by
  obtain ⟨a2, cap2, hs⟩ := Reads.shape hr
  simp only at hs
  subst hs
  obtain ⟨w2, hw2⟩ : ∃ w2, w2 = w.alloc (.cells #[.int .i64 r.id, .int .i64 r.se, .int .i64 r.ma, .slice a2 r.evs.length cap2] 42) := ⟨_, rfl⟩
  have E2 : Ext w w2 := by rw [hw2]; exact (Ext.refl w).alloc _
  have k0 : w2.cell? ⟨w.heap.size, 0, none⟩ = some (.int .i64 r.id) := by rw [hw2]; simp
  have k1 : w2.cell? ⟨w.heap.size, 1, none⟩ = some (.int .i64 r.se) := by rw [hw2]; simp
  have k2 : w2.cell? ⟨w.heap.size, 2, none⟩ = some (.int .i64 r.ma) := by rw [hw2]; simp
  have k3 : w2.cell? ⟨w.heap.size, 3, none⟩ = some (.slice a2 r.evs.length cap2) := by rw [hw2]; simp
  have HC := areVersions_ok l v w2 (hv.mono E2) hl hll
  obtain ⟨res, hres⟩ : ∃ b, askedV l r day = b := ⟨_, rfl⟩
  rw [hres]
  have HR := Lib.hid hres
  clear hres
  go_enter Try.func57, Try.ntmps57
  go_wp2_with fail
  rw [← hw2]
  refine HC.mono ?_
  rintro e w3 ⟨rfl, E3⟩
  have E3' := Ext.trans E2 E3
  have k0 := E3.cell k0
  have k1 := E3.cell k1
  have k2 := E3.cell k2
  have k3 := E3.cell k3
  clear hw2
  cases t1 : goodVs l
  case false =>
    have HF : Hid (res = false) := Lib.hid (by rw [← HR.out, askedV, t1]; rfl)
    go_wp2
    go_ret
    exact ⟨ret_bool HF.out.symm, E3'⟩
  go_wp2_with fail
  refine (isRecord_ok r _ _ (Reads.mono E3' hr) hrl).mono ?_
  rintro e w4 ⟨rfl, E4⟩
  have E4' := Ext.trans E3' E4
  cases t2 : okRec r
  case false =>
    have HF : Hid (res = false) := Lib.hid (by rw [← HR.out, askedV, t1, t2]; rfl)
    go_wp2
    go_ret
    exact ⟨ret_bool HF.out.symm, E4'⟩
  have HF : Hid (res = inB day 0 20000) := Lib.hid (by rw [← HR.out, askedV, t1, t2]; rfl)
  go_wp2_with fail
  refine (isDay_ok day _).mono ?_
  rintro e w' ⟨rfl, rfl⟩
  go_wp2
  go_ret
  exact ⟨ret_bool HF.out.symm, E4'⟩
set_option maxHeartbeats 4000000 in
theorem specWhyOn_ok (l : List Ver) (r : Rec) (day : Int) (v sv : Value) (w : World) (hv : Ver.Rd w v l) (hr : Rec.At w (r, sv)) (hl : l.length ≤ 1048576) (hll : ∀ p ∈ l, p.rs.length ≤ 1048576) (hrl : r.evs.length ≤ 1048576) :
    Calls Try.prog 37 #[v, .agg #[.int .i64 r.id, .int .i64 r.se, .int .i64 r.ma, sv], .int .i64 day] w fun e w' => e = .returned (.tuple #[.string (wordB (whyN l r day)), .bool (askedV l r day)]) ∧ Ext w w' := by
  obtain ⟨a2, cap2, hs⟩ := Reads.shape hr
  simp only at hs
  subst hs
  obtain ⟨w2, hw2⟩ : ∃ w2, w2 = w.alloc (.cells #[.int .i64 r.id, .int .i64 r.se, .int .i64 r.ma, .slice a2 r.evs.length cap2] 42) := ⟨_, rfl⟩
  have E2 : Ext w w2 := by rw [hw2]; exact (Ext.refl w).alloc _
  have k0 : w2.cell? ⟨w.heap.size, 0, none⟩ = some (.int .i64 r.id) := by rw [hw2]; simp
  have k1 : w2.cell? ⟨w.heap.size, 1, none⟩ = some (.int .i64 r.se) := by rw [hw2]; simp
  have k2 : w2.cell? ⟨w.heap.size, 2, none⟩ = some (.int .i64 r.ma) := by rw [hw2]; simp
  have k3 : w2.cell? ⟨w.heap.size, 3, none⟩ = some (.slice a2 r.evs.length cap2) := by rw [hw2]; simp
  have HL := Lib.hid hll
  have HC := l8Asked_ok l r day v _ w2 (hv.mono E2) (Reads.mono E2 hr) hl hll hrl
  obtain ⟨a, cap, rfl⟩ := hv.shape
  obtain ⟨n, hn⟩ : ∃ z, whyN l r day = z := ⟨_, rfl⟩
  have HN := Lib.hid hn
  rw [hn]
  obtain ⟨ok, hok⟩ : ∃ b, askedV l r day = b := ⟨_, rfl⟩
  rw [hok] at HC ⊢
  have HOK := Lib.hid hok
  clear hll hn hok
  go_enter Try.func37, Try.ntmps37
  go_wp2_with fail
  rw [← hw2]
  clear hw2
  refine HC.mono ?_
  rintro e w3 ⟨rfl, E3⟩
  have E3' := Ext.trans E2 E3
  have k0 := E3.cell k0
  have k1 := E3.cell k1
  have k2 := E3.cell k2
  have k3 := E3.cell k3
  cases ok
  case false =>
    obtain rfl : n = 0 := by rw [← HN.out]; exact whyN_0 HOK.out
    go_wp2
    go_ret2
    exact ⟨rfl, E3'⟩
  obtain ⟨hg, hrok, hd0, hd1⟩ := askedV_parts HOK.out
  clear HC
  go_wp2_with fail
  refine (l8On_ok l day _ _ (hv.mono E3') hl).mono ?_
  rintro e w4 ⟨rfl, E4⟩
  have E4' := Ext.trans E3' E4
  have k0 := E4.cell k0
  have k1 := E4.cell k1
  have k2 := E4.cell k2
  have k3 := E4.cell k3
  have HB := Lib.hid (onV_bound l day l.length)
  have HV := Lib.hid (@at_some l day)
  have HN1 := Lib.hid (fun h => HN.out.symm.trans (whyN_1 (l := l) (r := r) HOK.out h))
  have HNV := Lib.hid (fun (h : 0 ≤ onVs l day) (u : Ver) hu => HN.out.symm.trans (whyN_v HOK.out h (v := u) hu))
  obtain ⟨m, hm⟩ : ∃ m, onVs l day = m := ⟨_, rfl⟩
  rw [hm] at HV HN1 HNV ⊢
  rw [show onV l day l.length = m from hm] at HB
  clear hm
  by_cases hm0 : m < 0
  case pos =>
    obtain rfl : n = 1 := HN1.out (by omega)
    go_wp2
    go_ret2
    exact ⟨rfl, E4'⟩
  have hmn : (0 : Int) ≤ m := by omega
  have hml : m < l.length := HB.out.2
  obtain ⟨u, hu⟩ := HV.out hmn
  obtain ⟨b, off, rfl⟩ := Ver.Rd.addr (hv.mono E4') (by omega)
  obtain ⟨ca, cc, c0, c1, hat⟩ := Ver.Rd.cells (hv.mono E4') hu
  have hul := HL.out u (List.mem_of_getElem? hu)
  have hgv := (okV_parts (goodVs_mem hg (List.mem_of_getElem? hu))).2
  have HW := Lib.hid (HNV.out hmn u hu)
  have HBD := Lib.hid (decD_bound hrok hgv)
  have H2 := Lib.hid (@whyV_2 r u.rs day)
  have H3 := Lib.hid (@whyV_3 r u.rs day)
  have H4 := Lib.hid (@whyV_4 r u.rs day)
  have H5 := Lib.hid (@whyV_5 r u.rs day)
  obtain ⟨⟨⟨D1, D2, D3, D4⟩, D5⟩, hD⟩ : ∃ D, decD r u.rs = D := ⟨_, rfl⟩
  have HDD := Lib.hid hD
  rw [hD] at HBD H3 H4 H5
  obtain ⟨hb0, hb1⟩ := HBD.out
  simp only at hb0 hb1
  clear hu hD HV HN1 HNV HB
  have hbl := block_lt_of_cell c1
  have hkl := block_lt_of_cell k0
  simp only at hbl hkl
  go_upto_region 6 with fail
  go_cut [9, 10] (fun _ d wx => d = .int .i64 D5 ∧ Ext w4 wx)
  case first =>
    go_region_with (go_at_call 55; refine (l6Deciding_ok r u.rs _ _ _ hrok hgv ?_ ?_ hrl hul).mono ?_; (first | exact Reads.mono E4' hr | exact Reads.mono E4'.drew hr | exact Reads.mono (E4'.alloc _).drew hr); (first | exact hat | exact Reads.mono ((Ext.refl w4).drew) hat | exact Reads.mono (((Ext.refl w4).alloc _).drew) hat); rw [HDD.out]; rintro e wq ⟨rfl, Fq0⟩; (first | (have bx : Box wq w4.heap.size 37 [.int .i64 0, .int .i64 0, .int .i64 0, .int .i64 0] := Box.ext Fq0 (Box.new w4 37 [.int .i64 0, .int .i64 0, .int .i64 0, .int .i64 0]); have e0 := bx.cell 0 rfl; have e1 := bx.cell 1 rfl; have e2 := bx.cell 2 rfl; have e3 := bx.cell 3 rfl; have f0 := bx.frozen 0; have f1 := bx.frozen 1; have f2 := bx.frozen 2; have f3 := bx.frozen 3; have Fq : Ext w4 wq := Ext.trans (((Ext.refl w4).alloc _).drew) Fq0) | (have Fq : Ext w4 wq := Ext.trans ((Ext.refl w4).drew) Fq0) | have Fq : Ext w4 wq := Fq0))
    all_goals (try go_wp2)
    all_goals go_meet
    all_goals exact ⟨rfl, by first | exact Fq.alloc _ | exact Fq | exact (((Fq.setCell (Nat.le_refl _) _).setCell (Nat.le_refl _) _).setCell (Nat.le_refl _) _).setCell (Nat.le_refl _) _⟩
  case rest =>
  obtain ⟨rfl, E5⟩ := hcut
  have c0 := E5.cell c0
  have c1 := E5.cell c1
  have k0 := E5.cell k0
  have k1 := E5.cell k1
  have k2 := E5.cell k2
  have k3 := E5.cell k3
  have E5' := Ext.trans E4' E5
  have hat5 := hat.mono E5
  obtain ⟨q, hq⟩ : ∃ q, (forR u.rs r.se).length = q := ⟨_, rfl⟩
  have HQ := Lib.hid hq
  rw [hq] at H2 H3 H4 H5
  clear hq
  obtain ⟨qz, hqz⟩ : ∃ b, decide (q = 0) = b := ⟨_, rfl⟩
  have HZ := Lib.hid hqz
  clear hqz
  go_upto_region 7 with fail
  go_cut [31] (fun z wx => z = .bool qz ∧ Ext wc wx)
  case first =>
    go_region_with (go_at_call 74; refine (l4For_ok u.rs r.se _ _ ?_ hul).mono ?_; (first | exact hat5 | exact Reads.mono ((Ext.refl wc).drew) hat5); rw [HQ.out]; rintro e wq ⟨vq, rfl, oq, Fq0⟩; have Fq : Ext wc wq := (by first | exact Fq0 | exact Ext.trans ((Ext.refl wc).drew) Fq0); obtain ⟨aq, cq, hsq⟩ := (Reads.of_owns oq).shape; subst hsq)
    all_goals (try go_wp2)
    all_goals go_meet
    all_goals exact ⟨congrArg Value.bool (Eq.trans (by rw [Bool.eq_iff_iff]; simp) HZ.out), Fq⟩
  case rest =>
  obtain ⟨rfl, E6⟩ := hcut
  have E6' := Ext.trans E5' E6
  cases qz
  case true =>
    obtain rfl : n = 2 := HW.out.trans (H2.out (of_decide_eq_true HZ.out))
    go_wp2
    go_ret2
    exact ⟨rfl, E6'⟩
  have HQ0 : Hid (¬ q = 0) := Lib.hid (of_decide_eq_false HZ.out)
  by_cases h5 : D5 < 0
  case pos =>
    obtain rfl : n = 3 := HW.out.trans (H3.out HQ0.out (by omega))
    go_wp2
    go_ret2
    exact ⟨rfl, E6'⟩
  by_cases h6 : day < D5
  case pos =>
    obtain rfl : n = 4 := HW.out.trans (H4.out HQ0.out (by omega) (by omega))
    go_wp2
    go_ret2
    exact ⟨rfl, E6'⟩
  obtain rfl : n = 5 := HW.out.trans (H5.out HQ0.out (by omega) (by omega))
  go_wp2
  go_ret2
  exact ⟨rfl, E6'⟩
set_option maxHeartbeats 4000000 in
theorem whyOn_ok (l : List Ver) (r : Rec) (day : Int) (v sv : Value) (w : World) (hv : Ver.Rd w v l) (hr : Rec.At w (r, sv)) (hl : l.length ≤ 1048576) (hll : ∀ p ∈ l, p.rs.length ≤ 1048576) (hrl : r.evs.length ≤ 1048576) :
    Calls Try.prog 38 #[v, .agg #[.int .i64 r.id, .int .i64 r.se, .int .i64 r.ma, sv], .int .i64 day] w fun e w' => e = .returned (.tuple #[.string (wordB (whyN l r day)), .bool (askedV l r day)]) ∧ Ext w w' := by
  obtain ⟨a2, cap2, hs⟩ := Reads.shape hr
  simp only at hs
  subst hs
  obtain ⟨w2, hw2⟩ : ∃ w2, w2 = w.alloc (.cells #[.int .i64 r.id, .int .i64 r.se, .int .i64 r.ma, .slice a2 r.evs.length cap2] 42) := ⟨_, rfl⟩
  have E2 : Ext w w2 := by rw [hw2]; exact (Ext.refl w).alloc _
  have k0 : w2.cell? ⟨w.heap.size, 0, none⟩ = some (.int .i64 r.id) := by rw [hw2]; simp
  have k1 : w2.cell? ⟨w.heap.size, 1, none⟩ = some (.int .i64 r.se) := by rw [hw2]; simp
  have k2 : w2.cell? ⟨w.heap.size, 2, none⟩ = some (.int .i64 r.ma) := by rw [hw2]; simp
  have k3 : w2.cell? ⟨w.heap.size, 3, none⟩ = some (.slice a2 r.evs.length cap2) := by rw [hw2]; simp
  have HL := Lib.hid hll
  have HC := areInForce_ok l r day v _ w2 (hv.mono E2) (Reads.mono E2 hr) hl hll hrl
  obtain ⟨a, cap, rfl⟩ := hv.shape
  obtain ⟨n, hn⟩ : ∃ z, whyN l r day = z := ⟨_, rfl⟩
  have HN := Lib.hid hn
  rw [hn]
  obtain ⟨ok, hok⟩ : ∃ b, askedV l r day = b := ⟨_, rfl⟩
  rw [hok] at HC ⊢
  have HOK := Lib.hid hok
  clear hll hn hok
  go_enter Try.func38, Try.ntmps38
  go_wp2_with fail
  rw [← hw2]
  clear hw2
  refine HC.mono ?_
  rintro e w3 ⟨rfl, E3⟩
  have E3' := Ext.trans E2 E3
  have k0 := E3.cell k0
  have k1 := E3.cell k1
  have k2 := E3.cell k2
  have k3 := E3.cell k3
  cases ok
  case false =>
    obtain rfl : n = 0 := by rw [← HN.out]; exact whyN_0 HOK.out
    go_wp2
    go_ret2
    exact ⟨rfl, E3'⟩
  obtain ⟨hg, hrok, hd0, hd1⟩ := askedV_parts HOK.out
  clear HC
  go_wp2_with fail
  refine (versionOn_ok l day _ _ (hv.mono E3') hl).mono ?_
  rintro e w4 ⟨rfl, E4⟩
  have E4' := Ext.trans E3' E4
  have k0 := E4.cell k0
  have k1 := E4.cell k1
  have k2 := E4.cell k2
  have k3 := E4.cell k3
  have HB := Lib.hid (onV_bound l day l.length)
  have HV := Lib.hid (@at_some l day)
  have HN1 := Lib.hid (fun h => HN.out.symm.trans (whyN_1 (l := l) (r := r) HOK.out h))
  have HNV := Lib.hid (fun (h : 0 ≤ onVs l day) (u : Ver) hu => HN.out.symm.trans (whyN_v HOK.out h (v := u) hu))
  obtain ⟨m, hm⟩ : ∃ m, onVs l day = m := ⟨_, rfl⟩
  rw [hm] at HV HN1 HNV ⊢
  rw [show onV l day l.length = m from hm] at HB
  clear hm
  by_cases hm0 : m < 0
  case pos =>
    obtain rfl : n = 1 := HN1.out (by omega)
    go_wp2
    go_ret2
    exact ⟨rfl, E4'⟩
  have hmn : (0 : Int) ≤ m := by omega
  have hml : m < l.length := HB.out.2
  obtain ⟨u, hu⟩ := HV.out hmn
  obtain ⟨b, off, rfl⟩ := Ver.Rd.addr (hv.mono E4') (by omega)
  obtain ⟨ca, cc, c0, c1, hat⟩ := Ver.Rd.cells (hv.mono E4') hu
  have hul := HL.out u (List.mem_of_getElem? hu)
  have hgv := (okV_parts (goodVs_mem hg (List.mem_of_getElem? hu))).2
  have HW := Lib.hid (HNV.out hmn u hu)
  have HBD := Lib.hid (decD_bound hrok hgv)
  have H2 := Lib.hid (@whyV_2 r u.rs day)
  have H3 := Lib.hid (@whyV_3 r u.rs day)
  have H4 := Lib.hid (@whyV_4 r u.rs day)
  have H5 := Lib.hid (@whyV_5 r u.rs day)
  obtain ⟨⟨⟨D1, D2, D3, D4⟩, D5⟩, hD⟩ : ∃ D, decD r u.rs = D := ⟨_, rfl⟩
  have HDD := Lib.hid hD
  rw [hD] at HBD H3 H4 H5
  obtain ⟨hb0, hb1⟩ := HBD.out
  simp only at hb0 hb1
  clear hu hD HV HN1 HNV HB
  have HD := deciding_ok r u.rs _ _ w4 hrok hgv (Reads.mono E4' hr) hat hrl hul
  rw [HDD.out] at HD
  obtain ⟨ob, hob⟩ : ∃ b, decide (0 ≤ D5) = b := ⟨_, rfl⟩
  obtain ⟨x, hx⟩ : ∃ m, max D5 0 = m := ⟨_, rfl⟩
  rw [hob, hx] at HD
  have HOB := Lib.hid hob
  have HX := Lib.hid hx
  clear hob hx
  go_wp2_with fail
  refine HD.mono ?_
  rintro e w5 ⟨rfl, E5⟩
  obtain ⟨w6, hw6⟩ : ∃ w6, w6 = w5.alloc (.cells #[.int .i64 D1, .int .i64 D2, .int .i64 D3, .int .i64 D4] 37) := ⟨_, rfl⟩
  have E56 : Ext w5 w6 := by rw [hw6]; exact (Ext.refl _).alloc _
  have E46 := Ext.trans E5 E56
  have k0 := E46.cell k0
  have k1 := E46.cell k1
  have k2 := E46.cell k2
  have k3 := E46.cell k3
  have E6' := Ext.trans E4' E46
  go_upto_region 8 with fail
  rw [← hw6]
  clear hw6 HD
  obtain ⟨q, hq⟩ : ∃ q, (forR u.rs r.se).length = q := ⟨_, rfl⟩
  have HQ := Lib.hid hq
  rw [hq] at H2 H3 H4 H5
  clear hq
  go_wp2_with fail
  refine (rulesFor_ok u.rs r.se _ _ (hat.mono E46) hul).mono ?_
  rw [HQ.out]
  rintro e w7 ⟨v7, rfl, o7, E7⟩
  obtain ⟨a7, c7, rfl⟩ := (Reads.of_owns o7).shape
  have E7' := Ext.trans E6' E7
  by_cases hq0 : q = 0
  case pos =>
    have hz : ((q : Int) == 0) = true := beq_iff_eq.2 (by omega)
    obtain rfl : n = 2 := HW.out.trans (H2.out hq0)
    clear hq0
    go_wp2
    go_ret2
    exact ⟨rfl, E7'⟩
  have hz : ((q : Int) == 0) = false := beq_eq_false_iff_ne.2 (by omega)
  cases ob
  case false =>
    have h5 : D5 < 0 := by have := of_decide_eq_false HOB.out; omega
    obtain rfl : n = 3 := HW.out.trans (H3.out hq0 (by omega))
    clear hq0 h5
    go_wp2
    go_ret2
    exact ⟨rfl, E7'⟩
  have h5 : ¬ D5 < 0 := by have := of_decide_eq_true HOB.out; omega
  obtain rfl : D5 = x := by have := HX.out; omega
  by_cases h6 : day < D5
  case pos =>
    obtain rfl : n = 4 := HW.out.trans (H4.out hq0 (by omega) (by omega))
    clear hq0
    go_wp2
    go_ret2
    exact ⟨rfl, E7'⟩
  obtain rfl : n = 5 := HW.out.trans (H5.out hq0 (by omega) (by omega))
  clear hq0
  go_wp2
  go_ret2
  exact ⟨rfl, E7'⟩
end Go.Proofs.Ytpggimkfdeommaa
