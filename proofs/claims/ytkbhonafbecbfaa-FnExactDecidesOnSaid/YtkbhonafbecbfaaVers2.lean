/- What WhyOn, DueOn, DueDays and FirstDueDay compute; no condition beyond the lengths that are named. -/
import Derived.Test.YtkbhonafbecbfaaVers
import Derived.Test.YtkbhonafbecbfaaVers2Data
import Derived.Test.YtkbhonafbecbfaaDueR2
import Derived.Deep.RegionWith
import Derived.Lib.MinMax
namespace Go.Proofs.Ytkbhonafbecbfaa
open Go.RowKit Go.Sort Go.Rd
set_option maxHeartbeats 2000000 in
theorem l8Asked_ok (l : List Ver) (r : Rec) (day : Int) (v sv : Value) (w : World) (hv : Ver.Rd w v l) (hr : Rec.At w (r, sv)) (hl : l.length ≤ 1048576) (hll : ∀ p ∈ l, p.rs.length ≤ 1048576) (hrl : r.evs.length ≤ 1048576) :
    Calls Try.prog 62 #[v, .agg #[.int .i64 r.id, .int .i64 r.se, .int .i64 r.ma, sv], .int .i64 day] w fun e w' => e = .returned (.bool (askedV l r day)) ∧ Ext w w' := by
  obtain ⟨a2, cap2, hs⟩ := Reads.shape hr
  simp only at hs
  subst hs
  obtain ⟨w2, hw2⟩ : ∃ w2, w2 = w.alloc (.cells #[.int .i64 r.id, .int .i64 r.se, .int .i64 r.ma, .slice a2 r.evs.length cap2] 45) := ⟨_, rfl⟩
  have E2 : Ext w w2 := by rw [hw2]; exact (Ext.refl w).alloc _
  have k0 : w2.cell? ⟨w.heap.size, 0, none⟩ = some (.int .i64 r.id) := by rw [hw2]; simp
  have k1 : w2.cell? ⟨w.heap.size, 1, none⟩ = some (.int .i64 r.se) := by rw [hw2]; simp
  have k2 : w2.cell? ⟨w.heap.size, 2, none⟩ = some (.int .i64 r.ma) := by rw [hw2]; simp
  have k3 : w2.cell? ⟨w.heap.size, 3, none⟩ = some (.slice a2 r.evs.length cap2) := by rw [hw2]; simp
  have HC := l8Good_ok l v w2 (hv.mono E2) hl hll
  obtain ⟨res, hres⟩ : ∃ b, askedV l r day = b := ⟨_, rfl⟩
  rw [hres]
  have HR := Lib.hid hres
  clear hres
  go_enter Try.func62, Try.ntmps62
  go_wp2_with fail
  rw [← hw2]
  refine HC.mono ?_
  rintro e w3 ⟨rfl, E3⟩
  have E3' := Ext.trans E2 E3
  have k0 := E3.cell k0
  have k1 := E3.cell k1
  have k2 := E3.cell k2
  have k3 := E3.cell k3
  clear hw2
  cases t1 : goodVs l
  case false =>
    have HF : Hid (res = false) := Lib.hid (by rw [← HR.out, askedV, t1]; rfl)
    go_wp2
    go_ret
    exact ⟨ret_bool HF.out.symm, E3'⟩
  go_wp2_with fail
  refine (l2Record_ok r _ _ (Reads.mono E3' hr) hrl).mono ?_
  rintro e w4 ⟨rfl, E4⟩
  have E4' := Ext.trans E3' E4
  cases t2 : okRec r
  case false =>
    have HF : Hid (res = false) := Lib.hid (by rw [← HR.out, askedV, t1, t2]; rfl)
    go_wp2
    go_ret
    exact ⟨ret_bool HF.out.symm, E4'⟩
  have HF : Hid (res = inB day 0 20000) := Lib.hid (by rw [← HR.out, askedV, t1, t2]; rfl)
  go_wp2_with fail
  refine (l2Day_ok day _).mono ?_
  rintro e w' ⟨rfl, rfl⟩
  go_wp2
  go_ret
  exact ⟨ret_bool HF.out.symm, E4'⟩
set_option maxHeartbeats 2000000 in
theorem areInForce_ok (l : List Ver) (r : Rec) (day : Int) (v sv : Value) (w : World) (hv : Ver.Rd w v l) (hr : Rec.At w (r, sv)) (hl : l.length ≤ 1048576) (hll : ∀ p ∈ l, p.rs.length ≤ 1048576) (hrl : r.evs.length ≤ 1048576) :
    Calls Try.prog 66 #[v, .agg #[.int .i64 r.id, .int .i64 r.se, .int .i64 r.ma, sv], .int .i64 day] w fun e w' => e = .returned (.bool (askedV l r day)) ∧ Ext w w' := by
  obtain ⟨a2, cap2, hs⟩ := Reads.shape hr
  simp only at hs
  subst hs
  obtain ⟨w2, hw2⟩ : ∃ w2, w2 = w.alloc (.cells #[.int .i64 r.id, .int .i64 r.se, .int .i64 r.ma, .slice a2 r.evs.length cap2] 45) := ⟨_, rfl⟩
  have E2 : Ext w w2 := by rw [hw2]; exact (Ext.refl w).alloc _
  have k0 : w2.cell? ⟨w.heap.size, 0, none⟩ = some (.int .i64 r.id) := by rw [hw2]; simp
  have k1 : w2.cell? ⟨w.heap.size, 1, none⟩ = some (.int .i64 r.se) := by rw [hw2]; simp
  have k2 : w2.cell? ⟨w.heap.size, 2, none⟩ = some (.int .i64 r.ma) := by rw [hw2]; simp
  have k3 : w2.cell? ⟨w.heap.size, 3, none⟩ = some (.slice a2 r.evs.length cap2) := by rw [hw2]; simp
  have HC := areVersions_ok l v w2 (hv.mono E2) hl hll
  obtain ⟨res, hres⟩ : ∃ b, askedV l r day = b := ⟨_, rfl⟩
  rw [hres]
  have HR := Lib.hid hres
  clear hres
  go_enter Try.func66, Try.ntmps66
  go_wp2_with fail
  rw [← hw2]
  refine HC.mono ?_
  rintro e w3 ⟨rfl, E3⟩
  have E3' := Ext.trans E2 E3
  have k0 := E3.cell k0
  have k1 := E3.cell k1
  have k2 := E3.cell k2
  have k3 := E3.cell k3
  clear hw2
  cases t1 : goodVs l
  case false =>
    have HF : Hid (res = false) := Lib.hid (by rw [← HR.out, askedV, t1]; rfl)
    go_wp2
    go_ret
    exact ⟨ret_bool HF.out.symm, E3'⟩
  go_wp2_with fail
  refine (isRecord_ok r _ _ (Reads.mono E3' hr) hrl).mono ?_
  rintro e w4 ⟨rfl, E4⟩
  have E4' := Ext.trans E3' E4
  cases t2 : okRec r
  case false =>
    have HF : Hid (res = false) := Lib.hid (by rw [← HR.out, askedV, t1, t2]; rfl)
    go_wp2
    go_ret
    exact ⟨ret_bool HF.out.symm, E4'⟩
  have HF : Hid (res = inB day 0 20000) := Lib.hid (by rw [← HR.out, askedV, t1, t2]; rfl)
  go_wp2_with fail
  refine (isDay_ok day _).mono ?_
  rintro e w' ⟨rfl, rfl⟩
  go_wp2
  go_ret
  exact ⟨ret_bool HF.out.symm, E4'⟩
end Go.Proofs.Ytkbhonafbecbfaa
