/- What FirstDueDay computes; no condition beyond the lengths that are named. -/
import Derived.Test.YtpggimkfdeommaaVers3
namespace Go.Rd
theorem dueDs_at {l : List Ver} {r : Rec} {k : Nat} {v : Ver} (h : l[k]? = some v) : (dueDs l r)[k]? = some (decD r v.rs).2 := by
  unfold dueDs; rw [List.getElem?_map, h]; rfl
end Go.Rd
namespace Go.Proofs.Ytpggimkfdeommaa
open Go.RowKit Go.Sort Go.Rd
set_option maxHeartbeats 4000000 in
theorem specFirstDueDay_ok (l : List Ver) (r : Rec) (v sv : Value) (w : World) (hv : Ver.Rd w v l) (hr : Rec.At w (r, sv)) (hl : l.length ≤ 1048576) (hll : ∀ p ∈ l, p.rs.length ≤ 1048576) (hrl : r.evs.length ≤ 1048576) :
    Calls Try.prog 33 #[v, .agg #[.int .i64 r.id, .int .i64 r.se, .int .i64 r.ma, sv]] w fun e w' => e = .returned (.tuple #[.int .i64 ((firstVO l r).getD 0), .bool (firstVO l r).isSome]) ∧ Ext w w' := by
  obtain ⟨a2, cap2, hs⟩ := Reads.shape hr
  simp only at hs
  subst hs
  obtain ⟨w2, hw2⟩ : ∃ w2, w2 = w.alloc (.cells #[.int .i64 r.id, .int .i64 r.se, .int .i64 r.ma, .slice a2 r.evs.length cap2] 42) := ⟨_, rfl⟩
  have E2 : Ext w w2 := by rw [hw2]; exact (Ext.refl w).alloc _
  have k0 : w2.cell? ⟨w.heap.size, 0, none⟩ = some (.int .i64 r.id) := by rw [hw2]; simp
  have k1 : w2.cell? ⟨w.heap.size, 1, none⟩ = some (.int .i64 r.se) := by rw [hw2]; simp
  have k2 : w2.cell? ⟨w.heap.size, 2, none⟩ = some (.int .i64 r.ma) := by rw [hw2]; simp
  have k3 : w2.cell? ⟨w.heap.size, 3, none⟩ = some (.slice a2 r.evs.length cap2) := by rw [hw2]; simp
  have HL := Lib.hid hll
  have HC := l8Asked_ok l r 0 v _ w2 (hv.mono E2) (Reads.mono E2 hr) hl hll hrl
  obtain ⟨a, cap, rfl⟩ := hv.shape
  obtain ⟨res, hres⟩ : ∃ z, firstVO l r = z := ⟨_, rfl⟩
  have HY := Lib.hid (fun h => hres.symm.trans (firstVO_yes (l := l) (r := r) h))
  have HN := Lib.hid (fun h => hres.symm.trans (firstVO_no (l := l) (r := r) h))
  rw [hres]
  clear hll hres
  go_enter Try.func33, Try.ntmps33
  go_wp2_with fail
  rw [← hw2]
  clear hw2
  refine HC.mono ?_
  rintro e w3 ⟨rfl, E3⟩
  have E3' := Ext.trans E2 E3
  have k0 := E3.cell k0
  have k1 := E3.cell k1
  have k2 := E3.cell k2
  have k3 := E3.cell k3
  cases ho : askedV l r 0
  case false =>
    obtain rfl := HN.out ho
    go_wp2
    go_ret2
    exact ⟨rfl, E3'⟩
  obtain ⟨hg, hrok, hd0, hd1⟩ := askedV_parts ho
  have HR := Lib.hid (HY.out ho)
  have hlen := goodVs_len hg
  clear HY HN HC ho hd0 hd1
  go_wp2
  go_loopw [6, 7, 8, 9] (fun iv _ _ _ wr => ∃ k : Nat, k ≤ l.length ∧ iv = .int .i64 k ∧ Hid (scanV l r (l.length - k) k = res) ∧ Ext w3 wr) (fun iv _ _ _ _ => l.length - (intOf iv).toNat)
  case atStart => exact ⟨0, Nat.zero_le _, rfl, Lib.hid HR.out.symm, Ext.refl _⟩
  case round =>
    obtain ⟨k, hk, rfl, HS, hE⟩ := hrel
    by_cases hlt : k < l.length
    · have hE' := Ext.trans E3' hE
      obtain ⟨u, hu⟩ := get_of_lt hlt
      obtain ⟨b, off, rfl⟩ := Ver.Rd.addr (hv.mono hE') (by omega)
      obtain ⟨ca, cc, c0, c1, hat⟩ := Ver.Rd.cells (hv.mono hE') hu
      have hul := HL.out u (List.mem_of_getElem? hu)
      have hgv := (okV_parts (goodVs_mem hg (List.mem_of_getElem? hu))).2
      have HIT := Lib.hid (@scanV_hit l r k u hlt hu)
      have HMISS := Lib.hid (@scanV_miss l r k u hlt hu)
      obtain ⟨⟨⟨D1, D2, D3, D4⟩, D5⟩, hD⟩ : ∃ D, decD r u.rs = D := ⟨_, rfl⟩
      have HDD := Lib.hid hD
      rw [hD] at HIT HMISS
      obtain ⟨z, hz⟩ : ∃ z, lastV l k = z := ⟨_, rfl⟩
      rw [hz] at HIT HMISS
      have HZ := Lib.hid hz
      have j0 := hE.cell k0
      have j1 := hE.cell k1
      have j2 := hE.cell k2
      have j3 := hE.cell k3
      have hbl := block_lt_of_cell c1
      have hkl := block_lt_of_cell j0
      simp only at hbl hkl
      have HNEXT : Hid (∀ x : Ver, k + 1 < l.length → l[k + 1]? = some x → z = x.fr - 1) := Lib.hid (fun x _ hx => by rw [← HZ.out]; exact lastV_next hx)
      have HEND : Hid (¬ k + 1 < l.length → z = 20000) := Lib.hid (fun h => by rw [← HZ.out]; exact lastV_end (by omega))
      clear hu hD hz
      have n4 : IntKind.i64.wrap ((k : Int) + 1) = (k : Int) + 1 := IntWalk.i64_in _ (by omega)
      by_cases hnx : k + 1 < l.length
      · obtain ⟨x, hx⟩ := get_of_lt hnx
        obtain ⟨xa, xc, x0, x1, _⟩ := Ver.Rd.cells (hv.mono hE') hx
        have hxb := (okV_parts (goodVs_mem hg (List.mem_of_getElem? hx))).1
        obtain rfl : z = x.fr - 1 := HNEXT.out x hnx hx
        have n1 : (k : Int) + 1 < (l.length : Int) := by omega
        have n3 : (0 : Int) ≤ (k : Int) + 1 := by omega
        have n5 : ((k : Int) + 1).toNat = k + 1 := by omega
        have n6 : IntKind.i64.wrap (x.fr - 1) = x.fr - 1 := IntWalk.i64_in _ (by omega)
        clear hx x1
        go_upto_region 9 with fail
        go_cut [8, 9] (fun _ d wx => d = .int .i64 D5 ∧ Ext wr wx)
        case first =>
          go_region_with (go_at_call 55; refine (l6Deciding_ok r u.rs _ _ _ hrok hgv ?_ ?_ hrl hul).mono ?_; (first | exact Reads.mono hE' hr | exact Reads.mono hE'.drew hr | exact Reads.mono (hE'.alloc _).drew hr); (first | exact hat | exact Reads.mono ((Ext.refl wr).drew) hat | exact Reads.mono (((Ext.refl wr).alloc _).drew) hat); rw [HDD.out]; rintro e wq ⟨rfl, Fq0⟩; (first | (have bx : Box wq wr.heap.size 37 [.int .i64 0, .int .i64 0, .int .i64 0, .int .i64 0] := Box.ext Fq0 (Box.new wr 37 [.int .i64 0, .int .i64 0, .int .i64 0, .int .i64 0]); have e0 := bx.cell 0 rfl; have e1 := bx.cell 1 rfl; have e2 := bx.cell 2 rfl; have e3 := bx.cell 3 rfl; have f0 := bx.frozen 0; have f1 := bx.frozen 1; have f2 := bx.frozen 2; have f3 := bx.frozen 3; have Fq : Ext wr wq := Ext.trans (((Ext.refl wr).alloc _).drew) Fq0) | (have Fq : Ext wr wq := Ext.trans ((Ext.refl wr).drew) Fq0) | have Fq : Ext wr wq := Fq0))
          all_goals (try go_wp2)
          all_goals go_meet
          all_goals exact ⟨rfl, by first | exact Fq.alloc _ | exact Fq | exact (((Fq.setCell (Nat.le_refl _) _).setCell (Nat.le_refl _) _).setCell (Nat.le_refl _) _).setCell (Nat.le_refl _) _⟩
        case rest =>
        obtain ⟨rfl, E5⟩ := hcut
        have hE5 := Ext.trans hE E5
        have c0 := E5.cell c0
        clear c1 j0 j1 j2 j3 hbl hkl
        by_cases h0 : 0 ≤ D5
        · by_cases h1 : D5 ≤ x.fr - 1
          · obtain rfl : res = some (max D5 u.fr) := HS.out.symm.trans (HIT.out ⟨h0, h1⟩)
            go_wp2_with fail
            refine (l1Most_ok D5 u.fr _).mono ?_
            rintro e w' ⟨rfl, rfl⟩
            go_wp2
            go_ret2
            exact ⟨rfl, Ext.trans E3' hE5⟩
          · have HK := Lib.hid ((HMISS.out (by omega)).symm.trans HS.out)
            go_wp2
            go_roundw
            case rel => exact ⟨k + 1, by omega, by go_num, HK, hE5⟩
            case measure => simp [intOf]; omega
        · have HK := Lib.hid ((HMISS.out (by omega)).symm.trans HS.out)
          go_wp2
          go_roundw
          case rel => exact ⟨k + 1, by omega, by go_num, HK, hE5⟩
          case measure => simp [intOf]; omega
      · obtain rfl : z = 20000 := HEND.out hnx
        have n1 : ¬ (k : Int) + 1 < (l.length : Int) := by omega
        go_upto_region 9 with fail
        go_cut [8, 9] (fun _ d wx => d = .int .i64 D5 ∧ Ext wr wx)
        case first =>
          go_region_with (go_at_call 55; refine (l6Deciding_ok r u.rs _ _ _ hrok hgv ?_ ?_ hrl hul).mono ?_; (first | exact Reads.mono hE' hr | exact Reads.mono hE'.drew hr | exact Reads.mono (hE'.alloc _).drew hr); (first | exact hat | exact Reads.mono ((Ext.refl wr).drew) hat | exact Reads.mono (((Ext.refl wr).alloc _).drew) hat); rw [HDD.out]; rintro e wq ⟨rfl, Fq0⟩; (first | (have bx : Box wq wr.heap.size 37 [.int .i64 0, .int .i64 0, .int .i64 0, .int .i64 0] := Box.ext Fq0 (Box.new wr 37 [.int .i64 0, .int .i64 0, .int .i64 0, .int .i64 0]); have e0 := bx.cell 0 rfl; have e1 := bx.cell 1 rfl; have e2 := bx.cell 2 rfl; have e3 := bx.cell 3 rfl; have f0 := bx.frozen 0; have f1 := bx.frozen 1; have f2 := bx.frozen 2; have f3 := bx.frozen 3; have Fq : Ext wr wq := Ext.trans (((Ext.refl wr).alloc _).drew) Fq0) | (have Fq : Ext wr wq := Ext.trans ((Ext.refl wr).drew) Fq0) | have Fq : Ext wr wq := Fq0))
          all_goals (try go_wp2)
          all_goals go_meet
          all_goals exact ⟨rfl, by first | exact Fq.alloc _ | exact Fq | exact (((Fq.setCell (Nat.le_refl _) _).setCell (Nat.le_refl _) _).setCell (Nat.le_refl _) _).setCell (Nat.le_refl _) _⟩
        case rest =>
        obtain ⟨rfl, E5⟩ := hcut
        have hE5 := Ext.trans hE E5
        have c0 := E5.cell c0
        clear c1 j0 j1 j2 j3 hbl hkl
        by_cases h0 : 0 ≤ D5
        · by_cases h1 : D5 ≤ 20000
          · obtain rfl : res = some (max D5 u.fr) := HS.out.symm.trans (HIT.out ⟨h0, h1⟩)
            go_wp2_with fail
            refine (l1Most_ok D5 u.fr _).mono ?_
            rintro e w' ⟨rfl, rfl⟩
            go_wp2
            go_ret2
            exact ⟨rfl, Ext.trans E3' hE5⟩
          · have HK := Lib.hid ((HMISS.out (by omega)).symm.trans HS.out)
            go_wp2
            go_roundw
            case rel => exact ⟨k + 1, by omega, by go_num, HK, hE5⟩
            case measure => simp [intOf]; omega
        · have HK := Lib.hid ((HMISS.out (by omega)).symm.trans HS.out)
          go_wp2
          go_roundw
          case rel => exact ⟨k + 1, by omega, by go_num, HK, hE5⟩
          case measure => simp [intOf]; omega
    · have HF : Hid (res = none) := Lib.hid (HS.out.symm.trans (scanV_end (by omega)))
      obtain rfl := HF.out
      go_wp2
      go_ret2
      exact ⟨rfl, Ext.trans E3' hE⟩
set_option maxHeartbeats 4000000 in
theorem firstDueDay_ok (l : List Ver) (r : Rec) (v sv : Value) (w : World) (hv : Ver.Rd w v l) (hr : Rec.At w (r, sv)) (hl : l.length ≤ 1048576) (hll : ∀ p ∈ l, p.rs.length ≤ 1048576) (hrl : r.evs.length ≤ 1048576) :
    Calls Try.prog 34 #[v, .agg #[.int .i64 r.id, .int .i64 r.se, .int .i64 r.ma, sv]] w fun e w' => e = .returned (.tuple #[.int .i64 ((firstVO l r).getD 0), .bool (firstVO l r).isSome]) ∧ Ext w w' := by
  obtain ⟨a2, cap2, hs⟩ := Reads.shape hr
  simp only at hs
  subst hs
  obtain ⟨w2, hw2⟩ : ∃ w2, w2 = w.alloc (.cells #[.int .i64 r.id, .int .i64 r.se, .int .i64 r.ma, .slice a2 r.evs.length cap2] 42) := ⟨_, rfl⟩
  have E2 : Ext w w2 := by rw [hw2]; exact (Ext.refl w).alloc _
  have k0 : w2.cell? ⟨w.heap.size, 0, none⟩ = some (.int .i64 r.id) := by rw [hw2]; simp
  have k1 : w2.cell? ⟨w.heap.size, 1, none⟩ = some (.int .i64 r.se) := by rw [hw2]; simp
  have k2 : w2.cell? ⟨w.heap.size, 2, none⟩ = some (.int .i64 r.ma) := by rw [hw2]; simp
  have k3 : w2.cell? ⟨w.heap.size, 3, none⟩ = some (.slice a2 r.evs.length cap2) := by rw [hw2]; simp
  have HC := dueDays_ok l r v _ w2 (hv.mono E2) (Reads.mono E2 hr) hl hll hrl
  obtain ⟨a, cap, rfl⟩ := hv.shape
  obtain ⟨res, hres⟩ : ∃ z, firstVO l r = z := ⟨_, rfl⟩
  have HY := Lib.hid (fun h => hres.symm.trans (firstVO_yes (l := l) (r := r) h))
  have HN := Lib.hid (fun h => hres.symm.trans (firstVO_no (l := l) (r := r) h))
  have HD := Lib.hid (@dueDL_yes l r)
  rw [hres]
  obtain ⟨ok, hok⟩ : ∃ b, askedV l r 0 = b := ⟨_, rfl⟩
  rw [hok] at HC HY HN HD
  have HOK := Lib.hid hok
  obtain ⟨q, hq⟩ : ∃ q, dueDL l r = q := ⟨_, rfl⟩
  rw [hq] at HC HD
  clear hres hok hq
  go_enter Try.func34, Try.ntmps34
  go_wp2_with fail
  rw [← hw2]
  clear hw2
  refine HC.mono ?_
  rintro e w3 ⟨v3, rfl, o3, E3⟩
  have hq3 := Reads.of_owns o3
  obtain ⟨a3, cap3, rfl⟩ := hq3.shape
  have E3' := Ext.trans E2 E3
  cases ok
  case false =>
    obtain rfl := HN.out rfl
    go_wp2
    go_ret2
    exact ⟨rfl, E3'⟩
  obtain ⟨hg, hrok, hd0, hd1⟩ := askedV_parts HOK.out
  have HR := Lib.hid (HY.out rfl)
  have HQ := Lib.hid (HD.out rfl)
  have hlen := goodVs_len hg
  have hql : q.length = l.length := by rw [HQ.out, dueDs_length]
  clear HY HN HC HD hd0 hd1 k0 k1 k2 k3
  rw [hql]
  go_wp2
  go_loopw [8, 9, 10, 11, 22] (fun _ _ _ _ iv wr => ∃ k : Nat, k ≤ l.length ∧ iv = .int .i64 k ∧ Hid (scanV l r (l.length - k) k = res) ∧ Ext w3 wr) (fun _ _ _ _ iv _ => l.length - (intOf iv).toNat)
  case atStart => exact ⟨0, Nat.zero_le _, rfl, Lib.hid HR.out.symm, Ext.refl _⟩
  case round =>
    obtain ⟨k, hk, rfl, HS, hE⟩ := hrel
    by_cases hlt : k < l.length
    · have hE' := Ext.trans E3' hE
      obtain ⟨u, hu⟩ := get_of_lt hlt
      obtain ⟨b, off, rfl⟩ := Ver.Rd.addr (hv.mono hE') (by omega)
      obtain ⟨ca, cc, c0, c1, hat⟩ := Ver.Rd.cells (hv.mono hE') hu
      have hgv := (okV_parts (goodVs_mem hg (List.mem_of_getElem? hu))).2
      have hfr := (okV_parts (goodVs_mem hg (List.mem_of_getElem? hu))).1
      have HIT := Lib.hid (@scanV_hit l r k u hlt hu)
      have HMISS := Lib.hid (@scanV_miss l r k u hlt hu)
      have hq1 := hq3.mono hE
      obtain ⟨b3, off3, rfl, hc⟩ := Reads.elems encI_len hq1 (by omega)
      have y0 := hc k _ (by rw [HQ.out]; exact dueDs_at hu) 0 _ rfl
      simp only [Nat.add_zero, Nat.mul_one] at y0
      have hlf := lastV_fr hg hu
      obtain ⟨⟨⟨D1, D2, D3, D4⟩, D5⟩, hD⟩ : ∃ D, decD r u.rs = D := ⟨_, rfl⟩
      rw [hD] at HIT HMISS y0
      obtain ⟨z, hz⟩ : ∃ z, lastV l k = z := ⟨_, rfl⟩
      rw [hz] at HIT HMISS hlf
      have HZ := Lib.hid hz
      have HNEXT : Hid (∀ x : Ver, k + 1 < l.length → l[k + 1]? = some x → z = x.fr - 1) := Lib.hid (fun x _ hx => by rw [← HZ.out]; exact lastV_next hx)
      have HEND : Hid (¬ k + 1 < l.length → z = 20000) := Lib.hid (fun h => by rw [← HZ.out]; exact lastV_end (by omega))
      clear hu hD hz hc hq1 c1
      have n4 : IntKind.i64.wrap ((k : Int) + 1) = (k : Int) + 1 := IntWalk.i64_in _ (by omega)
      by_cases hnx : k + 1 < l.length
      · obtain ⟨x, hx⟩ := get_of_lt hnx
        obtain ⟨xa, xc, x0, x1, _⟩ := Ver.Rd.cells (hv.mono hE') hx
        have hxb := (okV_parts (goodVs_mem hg (List.mem_of_getElem? hx))).1
        obtain rfl : z = x.fr - 1 := HNEXT.out x hnx hx
        have n1 : (k : Int) + 1 < (l.length : Int) := by omega
        have n3 : (0 : Int) ≤ (k : Int) + 1 := by omega
        have n5 : ((k : Int) + 1).toNat = k + 1 := by omega
        have n6 : IntKind.i64.wrap (x.fr - 1) = x.fr - 1 := IntWalk.i64_in _ (by omega)
        clear hx x1
        go_upto_region 11 with fail
        by_cases h0 : 0 ≤ D5
        · by_cases h1 : max D5 u.fr ≤ x.fr - 1
          · obtain rfl : res = some (max D5 u.fr) := HS.out.symm.trans (HIT.out ⟨h0, by omega⟩)
            go_wp2
            all_goals go_ret2
            all_goals exact ⟨by first | rfl | (simp; omega), Ext.trans E3' hE⟩
          · have HK := Lib.hid ((HMISS.out (by omega)).symm.trans HS.out)
            go_wp2
            all_goals go_roundw
            all_goals first | exact ⟨k + 1, by omega, by go_num, HK, hE⟩ | (simp [intOf]; omega)
        · have HK := Lib.hid ((HMISS.out (by omega)).symm.trans HS.out)
          go_wp2
          all_goals go_roundw
          all_goals first | exact ⟨k + 1, by omega, by go_num, HK, hE⟩ | (simp [intOf]; omega)
      · obtain rfl : z = 20000 := HEND.out hnx
        have n1 : ¬ (k : Int) + 1 < (l.length : Int) := by omega
        go_upto_region 11 with fail
        by_cases h0 : 0 ≤ D5
        · by_cases h1 : max D5 u.fr ≤ 20000
          · obtain rfl : res = some (max D5 u.fr) := HS.out.symm.trans (HIT.out ⟨h0, by omega⟩)
            go_wp2
            all_goals go_ret2
            all_goals exact ⟨by first | rfl | (simp; omega), Ext.trans E3' hE⟩
          · have HK := Lib.hid ((HMISS.out (by omega)).symm.trans HS.out)
            go_wp2
            all_goals go_roundw
            all_goals first | exact ⟨k + 1, by omega, by go_num, HK, hE⟩ | (simp [intOf]; omega)
        · have HK := Lib.hid ((HMISS.out (by omega)).symm.trans HS.out)
          go_wp2
          all_goals go_roundw
          all_goals first | exact ⟨k + 1, by omega, by go_num, HK, hE⟩ | (simp [intOf]; omega)
    · have HF : Hid (res = none) := Lib.hid (HS.out.symm.trans (scanV_end (by omega)))
      obtain rfl := HF.out
      go_wp2
      go_ret2
      exact ⟨rfl, Ext.trans E3' hE⟩
end Go.Proofs.Ytpggimkfdeommaa
