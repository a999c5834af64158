/- What the law's own helpers for Record compute: sizes, copies, comparisons, marks; no condition beyond the lengths that are named. -/
import Derived.Test.YtpggimkfdeommaaRows
import Derived.Test.YtpggimkfdeommaaNestData
import Derived.Test.YtpggimkfdeommaaNestBase
import Derived.Test.YtpggimkfdeommaaFlatEvent
namespace Go.Proofs.Ytpggimkfdeommaa
open Go.RowKit Go.Sort Go.Rd

def RetRecord (w : World) (r : Rec) (e : Ending) (w' : World) : Prop :=
  ∃ sv', e = .returned (.agg #[.int .i64 r.id, .int .i64 r.se, .int .i64 r.ma, sv']) ∧ w'.ownsRow w.heap.size 107 2 sv' r.evs.length (r.evs.flatMap Evt.enc) ∧ Ext w w'
set_option maxHeartbeats 1000000 in
theorem toRecord_ok (r : Rec) (sv : Value) (w : World) (hv : Rec.At w (r, sv)) (hl : r.evs.length ≤ 1048576) :
    Calls Try.prog 21 #[.agg #[.int .i64 r.id, .int .i64 r.se, .int .i64 r.ma, sv]] w (RetRecord w r) := by
  obtain ⟨a, cap, hs⟩ := Reads.shape hv
  simp only at hs
  subst hs
  go_enter Try.func21, Try.ntmps21
  go_wp2_with fail
  refine (toEventS_ok r.evs _ _ (Reads.mono ?hE hv) hl).mono ?_
  case hE => repeat (first | exact Ext.refl _ | refine Ext.alloc ?_ _ | refine Ext.setCell ?_ (by simp) _)
  rintro e w1 ⟨v1, rfl, o1, E1⟩
  have q0 : w1.cell? ⟨w.heap.size + 2, 0, none⟩ = some (.int .i64 r.id) := E1.cell (by rw [World.cell?_alloc_at (hn := by simp)]; rfl)
  have q1 : w1.cell? ⟨w.heap.size + 2, 1, none⟩ = some (.int .i64 r.se) := E1.cell (by rw [World.cell?_alloc_at (hn := by simp)]; rfl)
  have q2 : w1.cell? ⟨w.heap.size + 2, 2, none⟩ = some (.int .i64 r.ma) := E1.cell (by rw [World.cell?_alloc_at (hn := by simp)]; rfl)
  have q3 : w1.cell? ⟨w.heap.size + 2, 3, none⟩ = some (.slice none 0 0) := E1.cell (by rw [World.cell?_alloc_at (hn := by simp)]; rfl)
  have t0 : w1.cell? ⟨w.heap.size + 1, 0, none⟩ = some (.int .i64 0) := E1.cell (by rw [World.cell?_alloc_past (hn := by simp), World.cell?_alloc_at (hn := by simp)]; rfl)
  have t1 : w1.cell? ⟨w.heap.size + 1, 1, none⟩ = some (.int .i64 0) := E1.cell (by rw [World.cell?_alloc_past (hn := by simp), World.cell?_alloc_at (hn := by simp)]; rfl)
  have t2 : w1.cell? ⟨w.heap.size + 1, 2, none⟩ = some (.int .i64 0) := E1.cell (by rw [World.cell?_alloc_past (hn := by simp), World.cell?_alloc_at (hn := by simp)]; rfl)
  have t3 : w1.cell? ⟨w.heap.size + 1, 3, none⟩ = some (.slice none 0 0) := E1.cell (by rw [World.cell?_alloc_past (hn := by simp), World.cell?_alloc_at (hn := by simp)]; rfl)
  have f0 : w1.frozen? ⟨w.heap.size + 2, 3, none⟩ = false := by rw [E1.frozen (u := .slice none 0 0) (by rw [World.cell?_alloc_at (hn := by simp)]; rfl)]; exact World.frozen?_alloc_at _ _ _ _ (by simp)
  have g0 : w1.frozen? ⟨w.heap.size + 1, 0, none⟩ = false := by rw [E1.frozen (u := .int .i64 0) (by rw [World.cell?_alloc_past (hn := by simp), World.cell?_alloc_at (hn := by simp)]; rfl), World.frozen?_alloc_past (hn := by simp)]; exact World.frozen?_alloc_at _ _ _ _ (by simp)
  have g1 : w1.frozen? ⟨w.heap.size + 1, 1, none⟩ = false := by rw [E1.frozen (u := .int .i64 0) (by rw [World.cell?_alloc_past (hn := by simp), World.cell?_alloc_at (hn := by simp)]; rfl), World.frozen?_alloc_past (hn := by simp)]; exact World.frozen?_alloc_at _ _ _ _ (by simp)
  have g2 : w1.frozen? ⟨w.heap.size + 1, 2, none⟩ = false := by rw [E1.frozen (u := .int .i64 0) (by rw [World.cell?_alloc_past (hn := by simp), World.cell?_alloc_at (hn := by simp)]; rfl), World.frozen?_alloc_past (hn := by simp)]; exact World.frozen?_alloc_at _ _ _ _ (by simp)
  have g3 : w1.frozen? ⟨w.heap.size + 1, 3, none⟩ = false := by rw [E1.frozen (u := .slice none 0 0) (by rw [World.cell?_alloc_past (hn := by simp), World.cell?_alloc_at (hn := by simp)]; rfl), World.frozen?_alloc_past (hn := by simp)]; exact World.frozen?_alloc_at _ _ _ _ (by simp)
  have E1' : Ext w w1 := Ext.trans (by repeat (first | exact Ext.refl _ | refine Ext.alloc ?_ _ | refine Ext.setCell ?_ (by simp) _)) E1
  have o1' : w1.ownsRow (w.heap.size + 3) 107 2 v1 r.evs.length (r.evs.flatMap Evt.enc) := owns_mono o1 (by simp)
  obtain ⟨a1, c1, rfl⟩ := (Reads.of_owns o1').shape
  clear o1 E1
  go_wp2
  obtain ⟨wf, hwf⟩ : ∃ wf, wf = ((((w1.setCell ⟨w.heap.size + 1 + 1, 3, none⟩ (.slice a1 r.evs.length c1)).setCell ⟨w.heap.size + 1, 0, none⟩ (.int .i64 r.id)).setCell ⟨w.heap.size + 1, 1, none⟩ (.int .i64 r.se)).setCell ⟨w.heap.size + 1, 2, none⟩ (.int .i64 r.ma)).setCell ⟨w.heap.size + 1, 3, none⟩ (.slice a1 r.evs.length c1) := ⟨_, rfl⟩
  have Ef : Ext w wf := by rw [hwf]; exact (Ext.setCell (Ext.setCell (Ext.setCell (Ext.setCell (Ext.setCell E1' (by dsimp only; omega) _) (by dsimp only; omega) _) (by dsimp only; omega) _) (by dsimp only; omega) _) (by dsimp only; omega) _)
  have of : wf.ownsRow w.heap.size 107 2 (.slice a1 r.evs.length c1) r.evs.length (r.evs.flatMap Evt.enc) := by
    rw [hwf]; exact owns_mono (owns_setCell (owns_setCell (owns_setCell (owns_setCell (owns_setCell o1' (by dsimp only; omega) _) (by dsimp only; omega) _) (by dsimp only; omega) _) (by dsimp only; omega) _) (by dsimp only; omega) _) (by omega : w.heap.size ≤ w.heap.size + 3)
  have r0 : wf.cell? ⟨w.heap.size + 1, 0, none⟩ = some (.int .i64 r.id) := by rw [hwf]; simp [go_sem, *]
  have r1 : wf.cell? ⟨w.heap.size + 1, 1, none⟩ = some (.int .i64 r.se) := by rw [hwf]; simp [go_sem, *]
  have r2 : wf.cell? ⟨w.heap.size + 1, 2, none⟩ = some (.int .i64 r.ma) := by rw [hwf]; simp [go_sem, *]
  have r3 : wf.cell? ⟨w.heap.size + 1, 3, none⟩ = some (.slice a1 r.evs.length c1) := by rw [hwf]; simp [go_sem, *]
  rw [← hwf]
  clear hwf
  refine bodyPost_ret (v := .agg #[.int .i64 r.id, .int .i64 r.se, .int .i64 r.ma, .slice a1 r.evs.length c1]) (by simp [results, Try.results21, go_sem, *]) rfl ⟨_, rfl, of, Ef⟩

set_option maxHeartbeats 1000000 in
theorem eqRecord_ok (r1 r2 : Rec) (s1 s2 : Value) (w : World) (h1 : Rec.At w (r1, s1)) (h2 : Rec.At w (r2, s2)) (hl : r1.evs.length ≤ 1048576) :
    Calls Try.prog 24 #[.agg #[.int .i64 r1.id, .int .i64 r1.se, .int .i64 r1.ma, s1], .agg #[.int .i64 r2.id, .int .i64 r2.se, .int .i64 r2.ma, s2]] w fun e w' => e = .returned (.bool (decide (r1 = r2))) ∧ Ext w w' := by
  obtain ⟨ca, cap1, hs1⟩ := Reads.shape h1
  obtain ⟨cb, cap2, hs2⟩ := Reads.shape h2
  simp only at hs1 hs2
  subst hs1
  subst hs2
  rcases r1 with ⟨x0, x1, x2, la⟩
  rcases r2 with ⟨y0, y1, y2, lb⟩
  have E2 : Ext w ((w.alloc (.cells #[.int .i64 x0, .int .i64 x1, .int .i64 x2, .slice ca la.length cap1] 42)).alloc (.cells #[.int .i64 y0, .int .i64 y1, .int .i64 y2, .slice cb lb.length cap2] 42)) := ((Ext.refl w).alloc _).alloc _
  have HC := Lib.hid (eqEventS_ok la lb _ _ _ (Reads.mono E2 h1) (Reads.mono E2 h2) hl)
  clear E2
  go_enter Try.func24, Try.ntmps24
  go_wp2_with (go_at_call 59; refine HC.out.mono ?_; rintro e w' ⟨rfl, E⟩)
  all_goals go_ret
  all_goals first
    | refine ⟨ret_bool ?_, ((Ext.refl _).alloc _).alloc _⟩
    | refine ⟨ret_bool ?_, Ext.trans (((Ext.refl _).alloc _).alloc _) (by assumption)⟩
  all_goals (simp only [bne_iff_ne, ne_eq, bne_eq_false_iff_eq, Bool.not_eq_true', decide_eq_false_iff_not, Bool.not_eq_false', decide_eq_true_eq] at *; simp [*])
set_option maxHeartbeats 400000 in
theorem szRecord_ok (r : Rec) (sv : Value) (left : Int) (w : World) (hv : Rec.At w (r, sv)) (hn : r.evs.length ≤ maxLen) (h0 : 0 ≤ left) (h1 : left ≤ 1048576) :
    Calls Try.prog 19 #[.agg #[.int .i64 r.id, .int .i64 r.se, .int .i64 r.ma, sv], .int .i64 left] w fun e w' => e = .returned (.int .i64 (szL left r.evs.length)) ∧ Ext w w' := by
  obtain ⟨a, cap, hs⟩ := Reads.shape hv
  simp only at hs
  subst hs
  by_cases h : (r.evs.length : Int) ≤ left
  · have HR := Lib.hid (szL_le h)
    have hp : ¬ left - (r.evs.length : Int) < 0 := by omega
    go_enter Try.func19, Try.ntmps19
    go_wp2_with fail
    refine (szEventS_ok _ _ _ _ _ hn h0 h1).mono ?_
    rintro e w' ⟨rfl, rfl⟩
    rw [HR.out]
    go_wp2
    go_ret
    exact ⟨ret_int (by rw [HR.out]), (Ext.refl _).alloc _⟩
  · have HR := Lib.hid (szL_gt h)
    go_enter Try.func19, Try.ntmps19
    go_wp2_with fail
    refine (szEventS_ok _ _ _ _ _ hn h0 h1).mono ?_
    rintro e w' ⟨rfl, rfl⟩
    rw [HR.out]
    go_wp2
    go_ret
    exact ⟨ret_int (by rw [HR.out]), (Ext.refl _).alloc _⟩
set_option maxHeartbeats 400000 in
theorem markRecord_ok (base hi : Nat) (r : Rec) (sv : Value) (k0 : Int) (w : World) (hv : Wr w base 107 2 sv r.evs.length) (hhi : ∀ j, sv.ownBlock = some j → j < hi) (hn : r.evs.length ≤ 1048576) (hk0 : 0 ≤ k0) (hk1 : k0 ≤ 1048576 * 1048576) :
    Calls Try.prog 42 #[.agg #[.int .i64 r.id, .int .i64 r.se, .int .i64 r.ma, sv], .int .i64 k0] w (RetMk w base hi k0 (r.evs.length * 2)) := by
  obtain ⟨xs, hv⟩ := hv
  obtain ⟨a, cap, hs⟩ := (Reads.of_owns hv).shape
  subst hs
  have hv1 := ((Ext.refl w).alloc (.cells #[.int .i64 r.id, .int .i64 r.se, .int .i64 r.ma, .slice a r.evs.length cap] 42)).owns hv
  have HC := markEventS_ok base hi _ _ _ k0 _ hv1 hhi hn hk0 hk1
  go_enter Try.func42, Try.ntmps42
  go_wp2_with fail
  refine HC.mono ?_
  rintro e w2 ⟨rfl, _, hT⟩
  go_wp2
  go_ret
  exact ⟨_, rfl, by omega, by omega, ((Turned.refl base hi w).alloc _).trans hT⟩
end Go.Proofs.Ytpggimkfdeommaa
