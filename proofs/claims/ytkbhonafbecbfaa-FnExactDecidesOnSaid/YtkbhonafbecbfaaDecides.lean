/- What DecidesOn computes, the program's and the reference's; no condition beyond the lengths that are named. -/
import Derived.Test.YtkbhonafbecbfaaVers2
import Derived.Test.YtkbhonafbecbfaaBoxL
import Derived.Deep.RegionHeld3
namespace Go.Rd
/-- The rule that decides for a record on a day, and its due day; the empty rule and -1 where there is none. -/
def decV (l : List Ver) (r : Rec) (day : Int) : Rul × Int := if askedV l r day = true ∧ 0 ≤ onVs l day then decD r ((l[(onVs l day).toNat]?).getD default).rs else (⟨0, 0, 0, 0⟩, -1)
theorem decV_no1 {l : List Ver} {r : Rec} {day : Int} (h : askedV l r day = false) : decV l r day = (⟨0, 0, 0, 0⟩, -1) := if_neg fun h' => by rw [h] at h'; exact Bool.false_ne_true h'.1
theorem decV_no2 {l : List Ver} {r : Rec} {day : Int} (h : ¬ 0 ≤ onVs l day) : decV l r day = (⟨0, 0, 0, 0⟩, -1) := if_neg fun h' => h h'.2
theorem decV_yes {l : List Ver} {r : Rec} {day : Int} {v : Ver} (h : askedV l r day = true) (h1 : 0 ≤ onVs l day) (hv : l[(onVs l day).toNat]? = some v) : decV l r day = decD r v.rs := by
  unfold decV; rw [if_pos ⟨h, h1⟩, hv]; rfl
end Go.Rd
namespace Go.Proofs.Ytkbhonafbecbfaa
open Go.RowKit Go.Sort Go.Rd
set_option maxHeartbeats 8000000 in
theorem specDecidesOn_ok (l : List Ver) (r : Rec) (day : Int) (v sv : Value) (w : World) (hv : Ver.Rd w v l) (hr : Rec.At w (r, sv)) (hl : l.length ≤ 1048576) (hll : ∀ p ∈ l, p.rs.length ≤ 1048576) (hrl : r.evs.length ≤ 1048576) :
    Calls Try.prog 18 #[v, .agg #[.int .i64 r.id, .int .i64 r.se, .int .i64 r.ma, sv], .int .i64 day] w fun e w' => e = .returned (.tuple #[.agg #[.int .i64 (decV l r day).1.se, .int .i64 (decV l r day).1.ev, .int .i64 (decV l r day).1.dy, .int .i64 (decV l r day).1.ac], .bool (decide (0 ≤ (decV l r day).2))]) ∧ Ext w w' := by
  obtain ⟨a2, cap2, hs⟩ := Reads.shape hr
  simp only at hs
  subst hs
  obtain ⟨wa, hwa⟩ : ∃ wa, wa = w.alloc (.cells #[.int .i64 r.id, .int .i64 r.se, .int .i64 r.ma, .slice a2 r.evs.length cap2] 45) := ⟨_, rfl⟩
  have za : wa.heap.size = w.heap.size + 1 := by rw [hwa]; simp
  obtain ⟨w2, hw2⟩ : ∃ w2, w2 = wa.alloc (.cells #[.int .i64 0, .int .i64 0, .int .i64 0, .int .i64 0] 38) := ⟨_, rfl⟩
  have Ea2 : Ext wa w2 := by rw [hw2]; exact (Ext.refl _).alloc _
  have E2 : Ext w w2 := Ext.trans (by rw [hwa]; exact (Ext.refl _).alloc _) Ea2
  have ba := Box.ext Ea2 (Box.of_new (cs := [.int .i64 r.id, .int .i64 r.se, .int .i64 r.ma, .slice a2 r.evs.length cap2]) hwa rfl)
  have bb := Box.of_new (cs := [.int .i64 0, .int .i64 0, .int .i64 0, .int .i64 0]) hw2 za
  have k0 := ba.cell 0 rfl
  have k1 := ba.cell 1 rfl
  have k2 := ba.cell 2 rfl
  have k3 := ba.cell 3 rfl
  have HL := Lib.hid hll
  have HC := l8Asked_ok l r day v _ w2 (hv.mono E2) (Reads.mono E2 hr) hl hll hrl
  obtain ⟨a, cap, rfl⟩ := hv.shape
  have HN1 := Lib.hid (decV_no1 (l := l) (r := r) (day := day))
  have HN2 := Lib.hid (decV_no2 (l := l) (r := r) (day := day))
  have HY := Lib.hid (fun h h1 (u : Ver) => decV_yes (l := l) (r := r) (day := day) (v := u) h h1)
  obtain ⟨⟨⟨D1, D2, D3, D4⟩, D5⟩, hD⟩ : ∃ D, decV l r day = D := ⟨_, rfl⟩
  rw [hD] at HN1 HN2 HY ⊢
  obtain ⟨ok, hok⟩ : ∃ b, askedV l r day = b := ⟨_, rfl⟩
  rw [hok] at HC
  have HOK := Lib.hid hok
  clear hll hD hok ba
  go_enter Try.func18, Try.ntmps18
  go_wp2_with fail
  rw [← hwa, ← hw2]
  clear hwa hw2 Ea2 za
  refine HC.mono ?_
  rintro e w3 ⟨rfl, E3⟩
  have E3' := Ext.trans E2 E3
  have k0 := E3.cell k0
  have k1 := E3.cell k1
  have k2 := E3.cell k2
  have k3 := E3.cell k3
  have bb := Box.ext E3 bb
  cases ok
  case false =>
    obtain ⟨rfl, rfl, rfl, rfl, rfl⟩ : D1 = 0 ∧ D2 = 0 ∧ D3 = 0 ∧ D4 = 0 ∧ D5 = -1 := by have h := HN1.out HOK.out; simp only [Prod.mk.injEq, Rul.mk.injEq] at h; exact ⟨h.1.1, h.1.2.1, h.1.2.2.1, h.1.2.2.2, h.2⟩
    have e0 := bb.cell 0 rfl
    have e1 := bb.cell 1 rfl
    have e2 := bb.cell 2 rfl
    have e3 := bb.cell 3 rfl
    have f0 := bb.frozen 0
    have f1 := bb.frozen 1
    have f2 := bb.frozen 2
    have f3 := bb.frozen 3
    go_wp2
    (try simp only [Exit.inBlock, Exit.then])
    refine bodyPost_ret (v := .tuple #[.agg #[.int .i64 0, .int .i64 0, .int .i64 0, .int .i64 0], .bool false]) (by simp [results, Try.results18, go_sem, *]) rfl ⟨by simp, ?_⟩
    exact (((E3'.setCell (Nat.le_succ _) _).setCell (Nat.le_succ _) _).setCell (Nat.le_succ _) _).setCell (Nat.le_succ _) _
  obtain ⟨hg, hrok, hd0, hd1⟩ := askedV_parts HOK.out
  clear HC
  go_wp2_with fail
  refine (l8On_ok l day _ _ (hv.mono E3') hl).mono ?_
  rintro e w4 ⟨rfl, E4⟩
  have E4' := Ext.trans E3' E4
  have k0 := E4.cell k0
  have k1 := E4.cell k1
  have k2 := E4.cell k2
  have k3 := E4.cell k3
  have bb := Box.ext E4 bb
  have HB := Lib.hid (onV_bound l day l.length)
  have HV := Lib.hid (@at_some l day)
  obtain ⟨m, hm⟩ : ∃ m, onVs l day = m := ⟨_, rfl⟩
  have HM := Lib.hid hm
  rw [hm] at HV HN2 HY ⊢
  rw [show onV l day l.length = m from hm] at HB
  clear hm
  by_cases hm0 : m < 0
  case pos =>
    obtain ⟨rfl, rfl, rfl, rfl, rfl⟩ : D1 = 0 ∧ D2 = 0 ∧ D3 = 0 ∧ D4 = 0 ∧ D5 = -1 := by have h := HN2.out (by omega); simp only [Prod.mk.injEq, Rul.mk.injEq] at h; exact ⟨h.1.1, h.1.2.1, h.1.2.2.1, h.1.2.2.2, h.2⟩
    have e0 := bb.cell 0 rfl
    have e1 := bb.cell 1 rfl
    have e2 := bb.cell 2 rfl
    have e3 := bb.cell 3 rfl
    have f0 := bb.frozen 0
    have f1 := bb.frozen 1
    have f2 := bb.frozen 2
    have f3 := bb.frozen 3
    go_wp2
    (try simp only [Exit.inBlock, Exit.then])
    refine bodyPost_ret (v := .tuple #[.agg #[.int .i64 0, .int .i64 0, .int .i64 0, .int .i64 0], .bool false]) (by simp [results, Try.results18, go_sem, *]) rfl ⟨by simp, ?_⟩
    exact (((E4'.setCell (Nat.le_succ _) _).setCell (Nat.le_succ _) _).setCell (Nat.le_succ _) _).setCell (Nat.le_succ _) _
  have hmn : (0 : Int) ≤ m := by omega
  have hml : m < l.length := HB.out.2
  obtain ⟨u, hu⟩ := HV.out hmn
  have hv4 := hv.mono E4'
  obtain ⟨b, off, rfl⟩ := Ver.Rd.addr hv4 (by omega)
  obtain ⟨ca, cc, c0, c1, hat⟩ := Ver.Rd.cells hv4 hu
  have hul := HL.out u (List.mem_of_getElem? hu)
  have hgv := (okV_parts (goodVs_mem hg (List.mem_of_getElem? hu))).2
  have HDD := Lib.hid (HY.out HOK.out hmn u hu)
  have hr4 : Rec.At w4 (r, .slice a2 r.evs.length cap2) := Reads.mono E4' hr
  have HBD := Lib.hid (decD_bound hrok hgv)
  rw [← HDD.out] at HBD
  obtain ⟨hb0, hb1⟩ := HBD.out
  simp only at hb0 hb1
  have HS : Hid (∀ w', Ext w4 w' → (w'.cell? ⟨w.heap.size, 0, none⟩ = some (.int .i64 r.id) ∧ w'.cell? ⟨w.heap.size, 1, none⟩ = some (.int .i64 r.se) ∧ w'.cell? ⟨w.heap.size, 2, none⟩ = some (.int .i64 r.ma) ∧ w'.cell? ⟨w.heap.size, 3, none⟩ = some (.slice a2 r.evs.length cap2) ∧ w'.cell? ⟨b, off + m.toNat * 2 + 1, none⟩ = some (.slice ca u.rs.length cc))) := Lib.hid fun w' hE => ⟨hE.cell k0, hE.cell k1, hE.cell k2, hE.cell k3, hE.cell c1⟩
  clear hu HV HN1 HN2 HY HB c0 c1 k0 k1 k2 k3
  go_upto_region 3 with fail
  go_cut [8, 9] (fun p d wx => ∃ g : Nat, p = .pointer (some ⟨g, 0, none⟩) ∧ d = .int .i64 D5 ∧ wx.cell? ⟨g, 0, none⟩ = some (.int .i64 D1) ∧ wx.cell? ⟨g, 1, none⟩ = some (.int .i64 D2) ∧ wx.cell? ⟨g, 2, none⟩ = some (.int .i64 D3) ∧ wx.cell? ⟨g, 3, none⟩ = some (.int .i64 D4) ∧ w4.heap.size ≤ g ∧ Ext w4 wx)
  case first =>
    go_region_held3 (fun w' => w'.cell? ⟨w.heap.size, 0, none⟩ = some (.int .i64 r.id) ∧ w'.cell? ⟨w.heap.size, 1, none⟩ = some (.int .i64 r.se) ∧ w'.cell? ⟨w.heap.size, 2, none⟩ = some (.int .i64 r.ma) ∧ w'.cell? ⟨w.heap.size, 3, none⟩ = some (.slice a2 r.evs.length cap2) ∧ w'.cell? ⟨b, off + m.toNat * 2 + 1, none⟩ = some (.slice ca u.rs.length cc)) (exact HS.out _ (by repeat' (first | exact Ext.refl _ | assumption | refine Ext.drew ?_ | refine Ext.alloc ?_ _ | refine Ext.setCell ?_ (by first | exact Nat.le_refl _ | exact hsz | exact G2.size) _))) (first
      | (go_at_call 63; refine (l8On_ok l day _ _ ?_ hl).mono ?_; (exact Ver.Rd.mono (by repeat' (first | exact Ext.refl _ | assumption | refine Ext.drew ?_ | refine Ext.alloc ?_ _ | refine Ext.setCell ?_ (by first | exact Nat.le_refl _ | exact hsz | exact G2.size) _)) hv4); rw [HM.out]; rintro e wq1 ⟨rfl, Fq1⟩; have G1 : Ext w4 wq1 := Ext.trans (by repeat' (first | exact Ext.refl _ | assumption | refine Ext.drew ?_ | refine Ext.alloc ?_ _ | refine Ext.setCell ?_ (by first | exact Nat.le_refl _ | exact hsz | exact G2.size) _)) Fq1; (try have bx1 : Box wq1 w4.heap.size 38 [.int .i64 0, .int .i64 0, .int .i64 0, .int .i64 0] := Box.ext Fq1 (Box.new (w4.drew) 38 [.int .i64 0, .int .i64 0, .int .i64 0, .int .i64 0])))
      | (go_at_call 64; refine (l6Deciding_ok r u.rs _ _ _ hrok hgv ?_ ?_ hrl hul).mono ?_; (exact Reads.mono (by repeat' (first | exact Ext.refl _ | assumption | refine Ext.drew ?_ | refine Ext.alloc ?_ _ | refine Ext.setCell ?_ (by first | exact Nat.le_refl _ | exact hsz | exact G2.size) _)) hr4); (exact Reads.mono (by repeat' (first | exact Ext.refl _ | assumption | refine Ext.drew ?_ | refine Ext.alloc ?_ _ | refine Ext.setCell ?_ (by first | exact Nat.le_refl _ | exact hsz | exact G2.size) _)) hat); rw [← HDD.out]; rintro e wq2 ⟨rfl, Fq2⟩; have G2 : Ext w4 wq2 := Ext.trans (by repeat' (first | exact Ext.refl _ | assumption | refine Ext.drew ?_ | refine Ext.alloc ?_ _ | refine Ext.setCell ?_ (by first | exact Nat.le_refl _ | exact hsz | exact G2.size) _)) Fq2; have hsz := G1.size; (first | (have bx : Box wq2 w4.heap.size 38 [.int .i64 0, .int .i64 0, .int .i64 0, .int .i64 0] := Box.ext Fq2 bx1; have e0 := bx.cell 0 rfl; have e1 := bx.cell 1 rfl; have e2 := bx.cell 2 rfl; have e3 := bx.cell 3 rfl; have f0 := bx.frozen 0; have f1 := bx.frozen 1; have f2 := bx.frozen 2; have f3 := bx.frozen 3) | (have bx : Box wq2 wq1.heap.size 38 [.int .i64 0, .int .i64 0, .int .i64 0, .int .i64 0] := Box.ext Fq2 (Box.new wq1 38 [.int .i64 0, .int .i64 0, .int .i64 0, .int .i64 0]); have e0 := bx.cell 0 rfl; have e1 := bx.cell 1 rfl; have e2 := bx.cell 2 rfl; have e3 := bx.cell 3 rfl; have f0 := bx.frozen 0; have f1 := bx.frozen 1; have f2 := bx.frozen 2; have f3 := bx.frozen 3) | skip)))
    all_goals (try go_wp2)
    all_goals go_meet
    all_goals first
      | exact ⟨_, rfl, rfl, by simp, by simp, by simp, by simp, G2.size, (by repeat' (first | exact Ext.refl _ | assumption | refine Ext.drew ?_ | refine Ext.alloc ?_ _ | refine Ext.setCell ?_ (by first | exact Nat.le_refl _ | exact hsz | exact G2.size) _))⟩
      | (have bz := (((bx.set 0 (.int .i64 D1)).set 1 (.int .i64 D2)).set 2 (.int .i64 D3)).set 3 (.int .i64 D4); exact ⟨_, rfl, rfl, bz.cell 0 rfl, bz.cell 1 rfl, bz.cell 2 rfl, bz.cell 3 rfl, (by first | exact Nat.le_refl _ | exact hsz), (by repeat' (first | exact Ext.refl _ | assumption | refine Ext.drew ?_ | refine Ext.alloc ?_ _ | refine Ext.setCell ?_ (by first | exact Nat.le_refl _ | exact hsz | exact G2.size) _))⟩)
  case rest =>
  obtain ⟨g, rfl, rfl, y0, y1, y2, y3, hgs, E5⟩ := hcut
  have bb := Box.ext E5 bb
  have e0 := bb.cell 0 rfl
  have e1 := bb.cell 1 rfl
  have e2 := bb.cell 2 rfl
  have e3 := bb.cell 3 rfl
  have f0 := bb.frozen 0
  have f1 := bb.frozen 1
  have f2 := bb.frozen 2
  have f3 := bb.frozen 3
  have E5' := Ext.trans E4' E5
  go_wp2
  (try simp only [Exit.inBlock, Exit.then])
  refine bodyPost_ret (v := .tuple #[.agg #[.int .i64 D1, .int .i64 D2, .int .i64 D3, .int .i64 D4], .bool (decide (0 ≤ D5))]) (by simp [results, Try.results18, go_sem, *]) rfl ⟨rfl, ?_⟩
  exact (((E5'.setCell (Nat.le_succ _) _).setCell (Nat.le_succ _) _).setCell (Nat.le_succ _) _).setCell (Nat.le_succ _) _
set_option maxHeartbeats 8000000 in
theorem decidesOn_ok (l : List Ver) (r : Rec) (day : Int) (v sv : Value) (w : World) (hv : Ver.Rd w v l) (hr : Rec.At w (r, sv)) (hl : l.length ≤ 1048576) (hll : ∀ p ∈ l, p.rs.length ≤ 1048576) (hrl : r.evs.length ≤ 1048576) :
    Calls Try.prog 21 #[v, .agg #[.int .i64 r.id, .int .i64 r.se, .int .i64 r.ma, sv], .int .i64 day] w fun e w' => e = .returned (.tuple #[.agg #[.int .i64 (decV l r day).1.se, .int .i64 (decV l r day).1.ev, .int .i64 (decV l r day).1.dy, .int .i64 (decV l r day).1.ac], .bool (decide (0 ≤ (decV l r day).2))]) ∧ Ext w w' := by
  obtain ⟨a2, cap2, hs⟩ := Reads.shape hr
  simp only at hs
  subst hs
  obtain ⟨wa, hwa⟩ : ∃ wa, wa = w.alloc (.cells #[.int .i64 r.id, .int .i64 r.se, .int .i64 r.ma, .slice a2 r.evs.length cap2] 45) := ⟨_, rfl⟩
  have za : wa.heap.size = w.heap.size + 1 := by rw [hwa]; simp
  obtain ⟨w2, hw2⟩ : ∃ w2, w2 = wa.alloc (.cells #[.int .i64 0, .int .i64 0, .int .i64 0, .int .i64 0] 38) := ⟨_, rfl⟩
  have Ea2 : Ext wa w2 := by rw [hw2]; exact (Ext.refl _).alloc _
  have E2 : Ext w w2 := Ext.trans (by rw [hwa]; exact (Ext.refl _).alloc _) Ea2
  have ba := Box.ext Ea2 (Box.of_new (cs := [.int .i64 r.id, .int .i64 r.se, .int .i64 r.ma, .slice a2 r.evs.length cap2]) hwa rfl)
  have bb := Box.of_new (cs := [.int .i64 0, .int .i64 0, .int .i64 0, .int .i64 0]) hw2 za
  have k0 := ba.cell 0 rfl
  have k1 := ba.cell 1 rfl
  have k2 := ba.cell 2 rfl
  have k3 := ba.cell 3 rfl
  have HL := Lib.hid hll
  have HC := areInForce_ok l r day v _ w2 (hv.mono E2) (Reads.mono E2 hr) hl hll hrl
  obtain ⟨a, cap, rfl⟩ := hv.shape
  have HN1 := Lib.hid (decV_no1 (l := l) (r := r) (day := day))
  have HN2 := Lib.hid (decV_no2 (l := l) (r := r) (day := day))
  have HY := Lib.hid (fun h h1 (u : Ver) => decV_yes (l := l) (r := r) (day := day) (v := u) h h1)
  obtain ⟨⟨⟨D1, D2, D3, D4⟩, D5⟩, hD⟩ : ∃ D, decV l r day = D := ⟨_, rfl⟩
  rw [hD] at HN1 HN2 HY ⊢
  obtain ⟨ok, hok⟩ : ∃ b, askedV l r day = b := ⟨_, rfl⟩
  rw [hok] at HC
  have HOK := Lib.hid hok
  clear hll hD hok ba
  go_enter Try.func21, Try.ntmps21
  go_wp2_with fail
  rw [← hwa, ← hw2]
  clear hwa hw2 Ea2 za
  refine HC.mono ?_
  rintro e w3 ⟨rfl, E3⟩
  have E3' := Ext.trans E2 E3
  have k0 := E3.cell k0
  have k1 := E3.cell k1
  have k2 := E3.cell k2
  have k3 := E3.cell k3
  have bb := Box.ext E3 bb
  cases ok
  case false =>
    obtain ⟨rfl, rfl, rfl, rfl, rfl⟩ : D1 = 0 ∧ D2 = 0 ∧ D3 = 0 ∧ D4 = 0 ∧ D5 = -1 := by have h := HN1.out HOK.out; simp only [Prod.mk.injEq, Rul.mk.injEq] at h; exact ⟨h.1.1, h.1.2.1, h.1.2.2.1, h.1.2.2.2, h.2⟩
    have e0 := bb.cell 0 rfl
    have e1 := bb.cell 1 rfl
    have e2 := bb.cell 2 rfl
    have e3 := bb.cell 3 rfl
    have f0 := bb.frozen 0
    have f1 := bb.frozen 1
    have f2 := bb.frozen 2
    have f3 := bb.frozen 3
    go_wp2
    (try simp only [Exit.inBlock, Exit.then])
    refine bodyPost_ret (v := .tuple #[.agg #[.int .i64 0, .int .i64 0, .int .i64 0, .int .i64 0], .bool false]) (by simp [results, Try.results21, go_sem, *]) rfl ⟨by simp, ?_⟩
    exact (((E3'.setCell (Nat.le_succ _) _).setCell (Nat.le_succ _) _).setCell (Nat.le_succ _) _).setCell (Nat.le_succ _) _
  obtain ⟨hg, hrok, hd0, hd1⟩ := askedV_parts HOK.out
  clear HC
  go_wp2_with fail
  refine (versionOn_ok l day _ _ (hv.mono E3') hl).mono ?_
  rintro e w4 ⟨rfl, E4⟩
  have E4' := Ext.trans E3' E4
  have k0 := E4.cell k0
  have k1 := E4.cell k1
  have k2 := E4.cell k2
  have k3 := E4.cell k3
  have bb := Box.ext E4 bb
  have HB := Lib.hid (onV_bound l day l.length)
  have HV := Lib.hid (@at_some l day)
  obtain ⟨m, hm⟩ : ∃ m, onVs l day = m := ⟨_, rfl⟩
  have HM := Lib.hid hm
  rw [hm] at HV HN2 HY ⊢
  rw [show onV l day l.length = m from hm] at HB
  clear hm
  by_cases hm0 : m < 0
  case pos =>
    obtain ⟨rfl, rfl, rfl, rfl, rfl⟩ : D1 = 0 ∧ D2 = 0 ∧ D3 = 0 ∧ D4 = 0 ∧ D5 = -1 := by have h := HN2.out (by omega); simp only [Prod.mk.injEq, Rul.mk.injEq] at h; exact ⟨h.1.1, h.1.2.1, h.1.2.2.1, h.1.2.2.2, h.2⟩
    have e0 := bb.cell 0 rfl
    have e1 := bb.cell 1 rfl
    have e2 := bb.cell 2 rfl
    have e3 := bb.cell 3 rfl
    have f0 := bb.frozen 0
    have f1 := bb.frozen 1
    have f2 := bb.frozen 2
    have f3 := bb.frozen 3
    go_wp2
    (try simp only [Exit.inBlock, Exit.then])
    refine bodyPost_ret (v := .tuple #[.agg #[.int .i64 0, .int .i64 0, .int .i64 0, .int .i64 0], .bool false]) (by simp [results, Try.results21, go_sem, *]) rfl ⟨by simp, ?_⟩
    exact (((E4'.setCell (Nat.le_succ _) _).setCell (Nat.le_succ _) _).setCell (Nat.le_succ _) _).setCell (Nat.le_succ _) _
  have hmn : (0 : Int) ≤ m := by omega
  have hml : m < l.length := HB.out.2
  obtain ⟨u, hu⟩ := HV.out hmn
  have hv4 := hv.mono E4'
  obtain ⟨b, off, rfl⟩ := Ver.Rd.addr hv4 (by omega)
  obtain ⟨ca, cc, c0, c1, hat⟩ := Ver.Rd.cells hv4 hu
  have hul := HL.out u (List.mem_of_getElem? hu)
  have hgv := (okV_parts (goodVs_mem hg (List.mem_of_getElem? hu))).2
  have HDD := Lib.hid (HY.out HOK.out hmn u hu)
  have hr4 : Rec.At w4 (r, .slice a2 r.evs.length cap2) := Reads.mono E4' hr
  have HBD := Lib.hid (decD_bound hrok hgv)
  rw [← HDD.out] at HBD
  obtain ⟨hb0, hb1⟩ := HBD.out
  simp only at hb0 hb1
  obtain ⟨ob, hob⟩ : ∃ b, decide (0 ≤ D5) = b := ⟨_, rfl⟩
  have HOB := Lib.hid hob
  clear hob
  have HS : Hid (∀ w', Ext w4 w' → (w'.cell? ⟨w.heap.size, 0, none⟩ = some (.int .i64 r.id) ∧ w'.cell? ⟨w.heap.size, 1, none⟩ = some (.int .i64 r.se) ∧ w'.cell? ⟨w.heap.size, 2, none⟩ = some (.int .i64 r.ma) ∧ w'.cell? ⟨w.heap.size, 3, none⟩ = some (.slice a2 r.evs.length cap2) ∧ w'.cell? ⟨b, off + m.toNat * 2 + 1, none⟩ = some (.slice ca u.rs.length cc))) := Lib.hid fun w' hE => ⟨hE.cell k0, hE.cell k1, hE.cell k2, hE.cell k3, hE.cell c1⟩
  clear hu HV HN1 HN2 HY HB c0 c1 k0 k1 k2 k3
  go_upto_region 3 with fail
  go_cut [8, 10] (fun p d wx => ∃ g : Nat, p = .pointer (some ⟨g, 0, none⟩) ∧ d = .bool ob ∧ wx.cell? ⟨g, 0, none⟩ = some (.int .i64 D1) ∧ wx.cell? ⟨g, 1, none⟩ = some (.int .i64 D2) ∧ wx.cell? ⟨g, 2, none⟩ = some (.int .i64 D3) ∧ wx.cell? ⟨g, 3, none⟩ = some (.int .i64 D4) ∧ w4.heap.size ≤ g ∧ Ext w4 wx)
  case first =>
    go_region_held3 (fun w' => w'.cell? ⟨w.heap.size, 0, none⟩ = some (.int .i64 r.id) ∧ w'.cell? ⟨w.heap.size, 1, none⟩ = some (.int .i64 r.se) ∧ w'.cell? ⟨w.heap.size, 2, none⟩ = some (.int .i64 r.ma) ∧ w'.cell? ⟨w.heap.size, 3, none⟩ = some (.slice a2 r.evs.length cap2) ∧ w'.cell? ⟨b, off + m.toNat * 2 + 1, none⟩ = some (.slice ca u.rs.length cc)) (exact HS.out _ (by repeat' (first | exact Ext.refl _ | assumption | refine Ext.drew ?_ | refine Ext.alloc ?_ _ | refine Ext.setCell ?_ (by first | exact Nat.le_refl _ | exact hsz | exact G2.size) _))) (first
      | (go_at_call 67; refine (versionOn_ok l day _ _ ?_ hl).mono ?_; (exact Ver.Rd.mono (by repeat' (first | exact Ext.refl _ | assumption | refine Ext.drew ?_ | refine Ext.alloc ?_ _ | refine Ext.setCell ?_ (by first | exact Nat.le_refl _ | exact hsz | exact G2.size) _)) hv4); rw [HM.out]; rintro e wq1 ⟨rfl, Fq1⟩; have G1 : Ext w4 wq1 := Ext.trans (by repeat' (first | exact Ext.refl _ | assumption | refine Ext.drew ?_ | refine Ext.alloc ?_ _ | refine Ext.setCell ?_ (by first | exact Nat.le_refl _ | exact hsz | exact G2.size) _)) Fq1; (try have bx1 : Box wq1 w4.heap.size 38 [.int .i64 0, .int .i64 0, .int .i64 0, .int .i64 0] := Box.ext Fq1 (Box.new (w4.drew) 38 [.int .i64 0, .int .i64 0, .int .i64 0, .int .i64 0])))
      | (go_at_call 68; refine (deciding_ok r u.rs _ _ _ hrok hgv ?_ ?_ hrl hul).mono ?_; (exact Reads.mono (by repeat' (first | exact Ext.refl _ | assumption | refine Ext.drew ?_ | refine Ext.alloc ?_ _ | refine Ext.setCell ?_ (by first | exact Nat.le_refl _ | exact hsz | exact G2.size) _)) hr4); (exact Reads.mono (by repeat' (first | exact Ext.refl _ | assumption | refine Ext.drew ?_ | refine Ext.alloc ?_ _ | refine Ext.setCell ?_ (by first | exact Nat.le_refl _ | exact hsz | exact G2.size) _)) hat); rw [← HDD.out]; dsimp only; rw [HOB.out]; rintro e wq2 ⟨rfl, Fq2⟩; have G2 : Ext w4 wq2 := Ext.trans (by repeat' (first | exact Ext.refl _ | assumption | refine Ext.drew ?_ | refine Ext.alloc ?_ _ | refine Ext.setCell ?_ (by first | exact Nat.le_refl _ | exact hsz | exact G2.size) _)) Fq2; have hsz := G1.size; (first | (have bx : Box wq2 w4.heap.size 38 [.int .i64 0, .int .i64 0, .int .i64 0, .int .i64 0] := Box.ext Fq2 bx1; have e0 := bx.cell 0 rfl; have e1 := bx.cell 1 rfl; have e2 := bx.cell 2 rfl; have e3 := bx.cell 3 rfl; have f0 := bx.frozen 0; have f1 := bx.frozen 1; have f2 := bx.frozen 2; have f3 := bx.frozen 3) | (have bx : Box wq2 wq1.heap.size 38 [.int .i64 0, .int .i64 0, .int .i64 0, .int .i64 0] := Box.ext Fq2 (Box.new wq1 38 [.int .i64 0, .int .i64 0, .int .i64 0, .int .i64 0]); have e0 := bx.cell 0 rfl; have e1 := bx.cell 1 rfl; have e2 := bx.cell 2 rfl; have e3 := bx.cell 3 rfl; have f0 := bx.frozen 0; have f1 := bx.frozen 1; have f2 := bx.frozen 2; have f3 := bx.frozen 3) | skip)))
    all_goals (try go_wp2)
    all_goals go_meet
    all_goals first
      | exact ⟨_, rfl, rfl, by simp, by simp, by simp, by simp, G2.size, (by repeat' (first | exact Ext.refl _ | assumption | refine Ext.drew ?_ | refine Ext.alloc ?_ _ | refine Ext.setCell ?_ (by first | exact Nat.le_refl _ | exact hsz | exact G2.size) _))⟩
      | (have bz := (((bx.set 0 (.int .i64 D1)).set 1 (.int .i64 D2)).set 2 (.int .i64 D3)).set 3 (.int .i64 D4); exact ⟨_, rfl, rfl, bz.cell 0 rfl, bz.cell 1 rfl, bz.cell 2 rfl, bz.cell 3 rfl, (by first | exact Nat.le_refl _ | exact hsz), (by repeat' (first | exact Ext.refl _ | assumption | refine Ext.drew ?_ | refine Ext.alloc ?_ _ | refine Ext.setCell ?_ (by first | exact Nat.le_refl _ | exact hsz | exact G2.size) _))⟩)
  case rest =>
  obtain ⟨g, rfl, rfl, y0, y1, y2, y3, hgs, E5⟩ := hcut
  have bb := Box.ext E5 bb
  have e0 := bb.cell 0 rfl
  have e1 := bb.cell 1 rfl
  have e2 := bb.cell 2 rfl
  have e3 := bb.cell 3 rfl
  have f0 := bb.frozen 0
  have f1 := bb.frozen 1
  have f2 := bb.frozen 2
  have f3 := bb.frozen 3
  have E5' := Ext.trans E4' E5
  go_wp2
  (try simp only [Exit.inBlock, Exit.then])
  refine bodyPost_ret (v := .tuple #[.agg #[.int .i64 D1, .int .i64 D2, .int .i64 D3, .int .i64 D4], .bool ob]) (by simp [results, Try.results21, go_sem, *]) rfl ⟨by rw [← HOB.out], ?_⟩
  exact (((E5'.setCell (Nat.le_succ _) _).setCell (Nat.le_succ _) _).setCell (Nat.le_succ _) _).setCell (Nat.le_succ _) _
end Go.Proofs.Ytkbhonafbecbfaa
