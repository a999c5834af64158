/- What DueRecords and NextDue compute; no condition beyond the lengths that are named. -/
import Derived.Test.YtpggimkfdeommaaDueR
namespace Go.Proofs.Ytpggimkfdeommaa
open Go.RowKit Go.Sort Go.Rd
set_option maxHeartbeats 4000000 in
theorem l6Due_ok (r : Rec) (sch : List Rul) (day : Int) (sv vs : Value) (w : World) (hr : okRec r = true) (hg : goodR sch = true) (hv : Rec.At w (r, sv)) (hvs : Reads w 4 vs sch.length (sch.flatMap Rul.enc)) (hl : r.evs.length ≤ 1048576) (hls : sch.length ≤ 1048576) :
    Calls Try.prog 100 #[.agg #[.int .i64 r.id, .int .i64 r.se, .int .i64 r.ma, sv], vs, .int .i64 day] w fun e w' => e = .returned (.bool (inB (decD r sch).2 0 day)) ∧ Ext w w' := by
  obtain ⟨a, cap, hs⟩ := Reads.shape hv
  simp only at hs
  subst hs
  obtain ⟨w2, hw2⟩ : ∃ w2, w2 = w.alloc (.cells #[.int .i64 r.id, .int .i64 r.se, .int .i64 r.ma, .slice a r.evs.length cap] 42) := ⟨_, rfl⟩
  have E2 : Ext w w2 := by rw [hw2]; exact (Ext.refl w).alloc _
  have HC := l6Deciding_ok r sch _ vs w2 hr hg (Reads.mono E2 hv) (hvs.mono E2) hl hls
  obtain ⟨⟨⟨D1, D2, D3, D4⟩, D5⟩, hD⟩ : ∃ D, decD r sch = D := ⟨_, rfl⟩
  rw [hD] at HC ⊢
  go_enter Try.func100, Try.ntmps100
  go_wp2_with fail
  rw [← hw2]
  refine HC.mono ?_
  rintro e w3 ⟨rfl, E3⟩
  have E3' := (Ext.trans E2 E3).alloc (.cells #[.int .i64 D1, .int .i64 D2, .int .i64 D3, .int .i64 D4] 37)
  go_wp2_with fail
  refine (l1In_ok D5 0 day _).mono ?_
  rintro e w4 ⟨rfl, rfl⟩
  go_wp2
  go_ret
  exact ⟨rfl, E3'⟩
end Go.Proofs.Ytpggimkfdeommaa
