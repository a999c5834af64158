/- What ends of periods and the tests of records with schedules compute; no condition beyond the lengths and lists that are named. -/
import Derived.Test.YtkbhonafbecbfaaPeriods
namespace Go.Proofs.Ytkbhonafbecbfaa
open Go.RowKit Go.Sort Go.Rd
theorem negO_some (d : Int) : negO (some d) = d := rfl
theorem negO_none : negO none = -1 := rfl
set_option maxHeartbeats 1000000 in
theorem l6End_ok (r : Rec) (sv : Value) (x : Rul) (w : World) (hr : okRec r = true) (hx0 : 0 ≤ x.dy) (hx1 : x.dy ≤ 20000) (hv : Rec.At w (r, sv)) (hl : r.evs.length ≤ 1048576) :
    Calls Try.prog 115 #[.agg #[.int .i64 r.id, .int .i64 r.se, .int .i64 r.ma, sv], .agg #[.int .i64 x.se, .int .i64 x.ev, .int .i64 x.dy, .int .i64 x.ac]] w fun e w' => e = .returned (.int .i64 (negO (endO r x))) ∧ Ext w w' := by
  obtain ⟨a, cap, hs⟩ := Reads.shape hv
  simp only at hs
  subst hs
  obtain ⟨w2, hw2⟩ : ∃ w2, w2 = (w.alloc (.cells #[.int .i64 r.id, .int .i64 r.se, .int .i64 r.ma, .slice a r.evs.length cap] 45)).alloc (.cells #[.int .i64 x.se, .int .i64 x.ev, .int .i64 x.dy, .int .i64 x.ac] 38) := ⟨_, rfl⟩
  have E2 : Ext w w2 := by rw [hw2]; exact ((Ext.refl w).alloc _).alloc _
  have k2 : w2.cell? ⟨w.heap.size + 1, 2, none⟩ = some (.int .i64 x.dy) := by rw [hw2]; simp
  have HC := l2DayOf_ok r _ x.ev w2 (Reads.mono E2 hv) hl
  go_enter Try.func115, Try.ntmps115
  go_wp2_with fail
  rw [← hw2]
  refine HC.mono ?_
  rintro e w3 ⟨rfl, E3⟩
  have k3 := E3.cell k2
  have E3' := Ext.trans E2 E3
  cases hd : dayOf r x.ev with
  | none =>
    have HR : Hid (endO r x = none) := (by rw [endO, hd]; rfl : endO r x = none)
    rw [negO_none]
    clear hd
    go_wp2
    go_ret
    rw [HR.out]
    exact ⟨rfl, E3'⟩
  | some d =>
    have HR : Hid (endO r x = some (d + x.dy)) := (by rw [endO, hd]; rfl : endO r x = some (d + x.dy))
    obtain ⟨d1, d2⟩ := dayOf_bounds hr hd
    rw [negO_some]
    clear hd
    go_wp2
    go_ret
    rw [HR.out]
    exact ⟨rfl, E3'⟩
set_option maxHeartbeats 1000000 in
theorem endOf_ok (r : Rec) (sv : Value) (x : Rul) (w : World) (hr : okRec r = true) (hx0 : 0 ≤ x.dy) (hx1 : x.dy ≤ 20000) (hv : Rec.At w (r, sv)) (hl : r.evs.length ≤ 1048576) :
    Calls Try.prog 117 #[.agg #[.int .i64 r.id, .int .i64 r.se, .int .i64 r.ma, sv], .agg #[.int .i64 x.se, .int .i64 x.ev, .int .i64 x.dy, .int .i64 x.ac]] w fun e w' => e = .returned (.int .i64 (negO (endO r x))) ∧ Ext w w' := by
  obtain ⟨a, cap, hs⟩ := Reads.shape hv
  simp only at hs
  subst hs
  obtain ⟨w2, hw2⟩ : ∃ w2, w2 = (w.alloc (.cells #[.int .i64 r.id, .int .i64 r.se, .int .i64 r.ma, .slice a r.evs.length cap] 45)).alloc (.cells #[.int .i64 x.se, .int .i64 x.ev, .int .i64 x.dy, .int .i64 x.ac] 38) := ⟨_, rfl⟩
  have E2 : Ext w w2 := by rw [hw2]; exact ((Ext.refl w).alloc _).alloc _
  have k2 : w2.cell? ⟨w.heap.size + 1, 2, none⟩ = some (.int .i64 x.dy) := by rw [hw2]; simp
  have HC := dayOf_ok r _ x.ev w2 (Reads.mono E2 hv) hl
  go_enter Try.func117, Try.ntmps117
  go_wp2_with fail
  rw [← hw2]
  refine HC.mono ?_
  rintro e w3 ⟨rfl, E3⟩
  have k3 := E3.cell k2
  have E3' := Ext.trans E2 E3
  cases hd : dayOf r x.ev with
  | none =>
    have HR : Hid (endO r x = none) := (by rw [endO, hd]; rfl : endO r x = none)
    clear hd
    go_wp2
    go_ret
    rw [HR.out]
    exact ⟨rfl, E3'⟩
  | some d =>
    have HR : Hid (endO r x = some (d + x.dy)) := (by rw [endO, hd]; rfl : endO r x = some (d + x.dy))
    obtain ⟨d1, d2⟩ := dayOf_bounds hr hd
    clear hd
    simp only [Option.getD_some, Option.isSome_some]
    go_wp2
    go_ret
    rw [HR.out]
    exact ⟨rfl, E3'⟩
set_option maxHeartbeats 1000000 in
theorem areBoth_ok (r : Rec) (sv : Value) (sch : List Rul) (vs : Value) (w : World) (hv : Rec.At w (r, sv)) (hl : r.evs.length ≤ 1048576) (hvs : Reads w 4 vs sch.length (sch.flatMap Rul.enc)) (hls : sch.length ≤ 1048576) :
    Calls Try.prog 134 #[.agg #[.int .i64 r.id, .int .i64 r.se, .int .i64 r.ma, sv], vs] w fun e w' => e = .returned (.bool (bothOk r sch)) ∧ Ext w w' := by
  obtain ⟨res, hres⟩ : ∃ b, bothOk r sch = b := ⟨_, rfl⟩
  rw [hres]
  obtain ⟨a, cap, hs⟩ := Reads.shape hv
  simp only at hs
  subst hs
  obtain ⟨w2, hw2⟩ : ∃ w2, w2 = w.alloc (.cells #[.int .i64 r.id, .int .i64 r.se, .int .i64 r.ma, .slice a r.evs.length cap] 45) := ⟨_, rfl⟩
  have E2 : Ext w w2 := by rw [hw2]; exact (Ext.refl w).alloc _
  have HC := isRecord_ok r _ w2 (Reads.mono E2 hv) hl
  cases ho : okRec r
  case false =>
    have HF : Hid (res = false) := (by rw [← hres, bothOk, ho]; rfl : res = false)
    clear hres
    rw [ho] at HC
    go_enter Try.func134, Try.ntmps134
    go_wp2_with fail
    rw [← hw2]
    refine HC.mono ?_
    rintro e w3 ⟨rfl, E3⟩
    go_wp2
    go_ret
    exact ⟨ret_bool HF.out.symm, Ext.trans E2 E3⟩
  have HF : Hid (res = goodR sch) := (by rw [← hres, bothOk, ho]; rfl : res = goodR sch)
  clear hres
  rw [ho] at HC
  go_enter Try.func134, Try.ntmps134
  go_wp2_with fail
  rw [← hw2]
  refine HC.mono ?_
  rintro e w3 ⟨rfl, E3⟩
  have E3' := Ext.trans E2 E3
  go_wp2_with fail
  refine (isSchedule_ok sch vs _ (hvs.mono E3') hls).mono ?_
  rintro e w4 ⟨rfl, E4⟩
  go_wp2
  go_ret
  exact ⟨ret_bool HF.out.symm, Ext.trans E3' E4⟩
end Go.Proofs.Ytkbhonafbecbfaa
