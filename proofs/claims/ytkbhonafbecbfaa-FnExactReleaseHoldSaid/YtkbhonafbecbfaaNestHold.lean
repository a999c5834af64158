/- What the law's own helpers for Hold compute: sizes, copies, comparisons, marks; no condition beyond the lengths that are named. -/
import Derived.Test.YtkbhonafbecbfaaRows
import Derived.Test.YtkbhonafbecbfaaNestData
import Derived.Test.YtkbhonafbecbfaaNestBase
import Derived.Test.YtkbhonafbecbfaaInts
namespace Go.Proofs.Ytkbhonafbecbfaa
open Go.RowKit Go.Sort Go.Rd

def RetHold (w : World) (r : Hld) (e : Ending) (w' : World) : Prop :=
  ∃ sv', e = .returned (.agg #[.int .i64 r.id, .int .i64 r.fr, .int .i64 r.un, sv', .int .i64 r.fi, .int .i64 r.la]) ∧ w'.ownsRow w.heap.size 3 1 sv' r.ss.length (r.ss.flatMap encI) ∧ Ext w w'
set_option maxHeartbeats 1000000 in
theorem toHold_ok (r : Hld) (sv : Value) (w : World) (hv : Hld.At w (r, sv)) (hl : r.ss.length ≤ 1048576) :
    Calls Try.prog 54 #[.agg #[.int .i64 r.id, .int .i64 r.fr, .int .i64 r.un, sv, .int .i64 r.fi, .int .i64 r.la]] w (RetHold w r) := by
  obtain ⟨a, cap, hs⟩ := Reads.shape hv
  simp only at hs
  subst hs
  go_enter Try.func54, Try.ntmps54
  go_wp2_with fail
  refine (toIntS_ok r.ss _ _ (Reads.mono ?hE hv) hl).mono ?_
  case hE => repeat (first | exact Ext.refl _ | refine Ext.alloc ?_ _ | refine Ext.setCell ?_ (by simp) _)
  rintro e w1 ⟨v1, rfl, o1, E1⟩
  have q0 : w1.cell? ⟨w.heap.size + 2, 0, none⟩ = some (.int .i64 r.id) := E1.cell (by rw [World.cell?_alloc_at (hn := by simp)]; rfl)
  have q1 : w1.cell? ⟨w.heap.size + 2, 1, none⟩ = some (.int .i64 r.fr) := E1.cell (by rw [World.cell?_alloc_at (hn := by simp)]; rfl)
  have q2 : w1.cell? ⟨w.heap.size + 2, 2, none⟩ = some (.int .i64 r.un) := E1.cell (by rw [World.cell?_alloc_at (hn := by simp)]; rfl)
  have q3 : w1.cell? ⟨w.heap.size + 2, 3, none⟩ = some (.slice none 0 0) := E1.cell (by rw [World.cell?_alloc_at (hn := by simp)]; rfl)
  have q4 : w1.cell? ⟨w.heap.size + 2, 4, none⟩ = some (.int .i64 0) := E1.cell (by rw [World.cell?_alloc_at (hn := by simp)]; rfl)
  have q5 : w1.cell? ⟨w.heap.size + 2, 5, none⟩ = some (.int .i64 0) := E1.cell (by rw [World.cell?_alloc_at (hn := by simp)]; rfl)
  have t0 : w1.cell? ⟨w.heap.size + 1, 0, none⟩ = some (.int .i64 0) := E1.cell (by rw [World.cell?_alloc_past (hn := by simp), World.cell?_alloc_at (hn := by simp)]; rfl)
  have t1 : w1.cell? ⟨w.heap.size + 1, 1, none⟩ = some (.int .i64 0) := E1.cell (by rw [World.cell?_alloc_past (hn := by simp), World.cell?_alloc_at (hn := by simp)]; rfl)
  have t2 : w1.cell? ⟨w.heap.size + 1, 2, none⟩ = some (.int .i64 0) := E1.cell (by rw [World.cell?_alloc_past (hn := by simp), World.cell?_alloc_at (hn := by simp)]; rfl)
  have t3 : w1.cell? ⟨w.heap.size + 1, 3, none⟩ = some (.slice none 0 0) := E1.cell (by rw [World.cell?_alloc_past (hn := by simp), World.cell?_alloc_at (hn := by simp)]; rfl)
  have t4 : w1.cell? ⟨w.heap.size + 1, 4, none⟩ = some (.int .i64 0) := E1.cell (by rw [World.cell?_alloc_past (hn := by simp), World.cell?_alloc_at (hn := by simp)]; rfl)
  have t5 : w1.cell? ⟨w.heap.size + 1, 5, none⟩ = some (.int .i64 0) := E1.cell (by rw [World.cell?_alloc_past (hn := by simp), World.cell?_alloc_at (hn := by simp)]; rfl)
  have b4 : w1.cell? ⟨w.heap.size, 4, none⟩ = some (.int .i64 r.fi) := E1.cell (by rw [World.cell?_alloc_past (hn := by simp; omega), World.cell?_alloc_past (hn := by simp), World.cell?_alloc_at (hn := by simp)]; rfl)
  have b5 : w1.cell? ⟨w.heap.size, 5, none⟩ = some (.int .i64 r.la) := E1.cell (by rw [World.cell?_alloc_past (hn := by simp; omega), World.cell?_alloc_past (hn := by simp), World.cell?_alloc_at (hn := by simp)]; rfl)
  have f0 : w1.frozen? ⟨w.heap.size + 2, 3, none⟩ = false := by rw [E1.frozen (u := .slice none 0 0) (by rw [World.cell?_alloc_at (hn := by simp)]; rfl)]; exact World.frozen?_alloc_at _ _ _ _ (by simp)
  have g0 : w1.frozen? ⟨w.heap.size + 1, 0, none⟩ = false := by rw [E1.frozen (u := .int .i64 0) (by rw [World.cell?_alloc_past (hn := by simp), World.cell?_alloc_at (hn := by simp)]; rfl), World.frozen?_alloc_past (hn := by simp)]; exact World.frozen?_alloc_at _ _ _ _ (by simp)
  have g1 : w1.frozen? ⟨w.heap.size + 1, 1, none⟩ = false := by rw [E1.frozen (u := .int .i64 0) (by rw [World.cell?_alloc_past (hn := by simp), World.cell?_alloc_at (hn := by simp)]; rfl), World.frozen?_alloc_past (hn := by simp)]; exact World.frozen?_alloc_at _ _ _ _ (by simp)
  have g2 : w1.frozen? ⟨w.heap.size + 1, 2, none⟩ = false := by rw [E1.frozen (u := .int .i64 0) (by rw [World.cell?_alloc_past (hn := by simp), World.cell?_alloc_at (hn := by simp)]; rfl), World.frozen?_alloc_past (hn := by simp)]; exact World.frozen?_alloc_at _ _ _ _ (by simp)
  have g3 : w1.frozen? ⟨w.heap.size + 1, 3, none⟩ = false := by rw [E1.frozen (u := .slice none 0 0) (by rw [World.cell?_alloc_past (hn := by simp), World.cell?_alloc_at (hn := by simp)]; rfl), World.frozen?_alloc_past (hn := by simp)]; exact World.frozen?_alloc_at _ _ _ _ (by simp)
  have g4 : w1.frozen? ⟨w.heap.size + 1, 4, none⟩ = false := by rw [E1.frozen (u := .int .i64 0) (by rw [World.cell?_alloc_past (hn := by simp), World.cell?_alloc_at (hn := by simp)]; rfl), World.frozen?_alloc_past (hn := by simp)]; exact World.frozen?_alloc_at _ _ _ _ (by simp)
  have g5 : w1.frozen? ⟨w.heap.size + 1, 5, none⟩ = false := by rw [E1.frozen (u := .int .i64 0) (by rw [World.cell?_alloc_past (hn := by simp), World.cell?_alloc_at (hn := by simp)]; rfl), World.frozen?_alloc_past (hn := by simp)]; exact World.frozen?_alloc_at _ _ _ _ (by simp)
  have f4 : w1.frozen? ⟨w.heap.size + 2, 4, none⟩ = false := by rw [E1.frozen (u := .int .i64 0) (by rw [World.cell?_alloc_at (hn := by simp)]; rfl)]; exact World.frozen?_alloc_at _ _ _ _ (by simp)
  have f5 : w1.frozen? ⟨w.heap.size + 2, 5, none⟩ = false := by rw [E1.frozen (u := .int .i64 0) (by rw [World.cell?_alloc_at (hn := by simp)]; rfl)]; exact World.frozen?_alloc_at _ _ _ _ (by simp)
  have E1' : Ext w w1 := Ext.trans (by repeat (first | exact Ext.refl _ | refine Ext.alloc ?_ _ | refine Ext.setCell ?_ (by simp) _)) E1
  have o1' : w1.ownsRow (w.heap.size + 3) 3 1 v1 r.ss.length (r.ss.flatMap encI) := owns_mono o1 (by simp)
  obtain ⟨a1, c1, rfl⟩ := (Reads.of_owns o1').shape
  clear o1 E1
  go_wp2
  obtain ⟨wf, hwf⟩ : ∃ wf, wf = ((((((((w1.setCell ⟨w.heap.size + 1 + 1, 3, none⟩ (.slice a1 r.ss.length c1)).setCell ⟨w.heap.size + 1 + 1, 4, none⟩ (.int .i64 r.fi)).setCell ⟨w.heap.size + 1 + 1, 5, none⟩ (.int .i64 r.la)).setCell ⟨w.heap.size + 1, 0, none⟩ (.int .i64 r.id)).setCell ⟨w.heap.size + 1, 1, none⟩ (.int .i64 r.fr)).setCell ⟨w.heap.size + 1, 2, none⟩ (.int .i64 r.un)).setCell ⟨w.heap.size + 1, 3, none⟩ (.slice a1 r.ss.length c1)).setCell ⟨w.heap.size + 1, 4, none⟩ (.int .i64 r.fi)).setCell ⟨w.heap.size + 1, 5, none⟩ (.int .i64 r.la) := ⟨_, rfl⟩
  have Ef : Ext w wf := by rw [hwf]; exact (Ext.setCell (Ext.setCell (Ext.setCell (Ext.setCell (Ext.setCell (Ext.setCell (Ext.setCell (Ext.setCell (Ext.setCell E1' (by dsimp only; omega) _) (by dsimp only; omega) _) (by dsimp only; omega) _) (by dsimp only; omega) _) (by dsimp only; omega) _) (by dsimp only; omega) _) (by dsimp only; omega) _) (by dsimp only; omega) _) (by dsimp only; omega) _)
  have of : wf.ownsRow w.heap.size 3 1 (.slice a1 r.ss.length c1) r.ss.length (r.ss.flatMap encI) := by
    rw [hwf]; exact owns_mono (owns_setCell (owns_setCell (owns_setCell (owns_setCell (owns_setCell (owns_setCell (owns_setCell (owns_setCell (owns_setCell o1' (by dsimp only; omega) _) (by dsimp only; omega) _) (by dsimp only; omega) _) (by dsimp only; omega) _) (by dsimp only; omega) _) (by dsimp only; omega) _) (by dsimp only; omega) _) (by dsimp only; omega) _) (by dsimp only; omega) _) (by omega : w.heap.size ≤ w.heap.size + 3)
  have r0 : wf.cell? ⟨w.heap.size + 1, 0, none⟩ = some (.int .i64 r.id) := by rw [hwf]; simp [go_sem, *]
  have r1 : wf.cell? ⟨w.heap.size + 1, 1, none⟩ = some (.int .i64 r.fr) := by rw [hwf]; simp [go_sem, *]
  have r2 : wf.cell? ⟨w.heap.size + 1, 2, none⟩ = some (.int .i64 r.un) := by rw [hwf]; simp [go_sem, *]
  have r3 : wf.cell? ⟨w.heap.size + 1, 3, none⟩ = some (.slice a1 r.ss.length c1) := by rw [hwf]; simp [go_sem, *]
  have r4 : wf.cell? ⟨w.heap.size + 1, 4, none⟩ = some (.int .i64 r.fi) := by rw [hwf]; simp [go_sem, *]
  have r5 : wf.cell? ⟨w.heap.size + 1, 5, none⟩ = some (.int .i64 r.la) := by rw [hwf]; simp [go_sem, *]
  rw [← hwf]
  clear hwf
  refine bodyPost_ret (v := .agg #[.int .i64 r.id, .int .i64 r.fr, .int .i64 r.un, .slice a1 r.ss.length c1, .int .i64 r.fi, .int .i64 r.la]) (by simp [results, Try.results54, go_sem, *]) rfl ⟨_, rfl, of, Ef⟩

set_option maxHeartbeats 1000000 in
theorem eqHold_ok (r1 r2 : Hld) (s1 s2 : Value) (w : World) (h1 : Hld.At w (r1, s1)) (h2 : Hld.At w (r2, s2)) (hl : r1.ss.length ≤ 1048576) :
    Calls Try.prog 60 #[.agg #[.int .i64 r1.id, .int .i64 r1.fr, .int .i64 r1.un, s1, .int .i64 r1.fi, .int .i64 r1.la], .agg #[.int .i64 r2.id, .int .i64 r2.fr, .int .i64 r2.un, s2, .int .i64 r2.fi, .int .i64 r2.la]] w fun e w' => e = .returned (.bool (decide (r1 = r2))) ∧ Ext w w' := by
  obtain ⟨ca, cap1, hs1⟩ := Reads.shape h1
  obtain ⟨cb, cap2, hs2⟩ := Reads.shape h2
  simp only at hs1 hs2
  subst hs1
  subst hs2
  rcases r1 with ⟨x0, x1, x2, la, x4, x5⟩
  rcases r2 with ⟨y0, y1, y2, lb, y4, y5⟩
  have E2 : Ext w ((w.alloc (.cells #[.int .i64 x0, .int .i64 x1, .int .i64 x2, .slice ca la.length cap1, .int .i64 x4, .int .i64 x5] 93)).alloc (.cells #[.int .i64 y0, .int .i64 y1, .int .i64 y2, .slice cb lb.length cap2, .int .i64 y4, .int .i64 y5] 93)) := ((Ext.refl w).alloc _).alloc _
  have HC := Lib.hid (eqIntS_ok la lb _ _ _ (Reads.mono E2 h1) (Reads.mono E2 h2) hl)
  clear E2
  go_enter Try.func60, Try.ntmps60
  go_wp2_with (go_at_call 37; refine HC.out.mono ?_; rintro e w' ⟨rfl, E⟩; have c4 : w'.cell? ⟨w.heap.size, 4, none⟩ = some (.int .i64 x4) := E.cell (by rw [World.cell?_alloc_past (hn := by simp), World.cell?_alloc_at (hn := by simp)]; rfl); have d4 : w'.cell? ⟨w.heap.size + 1, 4, none⟩ = some (.int .i64 y4) := E.cell (by rw [World.cell?_alloc_at (hn := by simp)]; rfl); have c5 : w'.cell? ⟨w.heap.size, 5, none⟩ = some (.int .i64 x5) := E.cell (by rw [World.cell?_alloc_past (hn := by simp), World.cell?_alloc_at (hn := by simp)]; rfl); have d5 : w'.cell? ⟨w.heap.size + 1, 5, none⟩ = some (.int .i64 y5) := E.cell (by rw [World.cell?_alloc_at (hn := by simp)]; rfl))
  all_goals go_ret
  all_goals first
    | refine ⟨ret_bool ?_, ((Ext.refl _).alloc _).alloc _⟩
    | refine ⟨ret_bool ?_, Ext.trans (((Ext.refl _).alloc _).alloc _) (by assumption)⟩
  all_goals (simp only [bne_iff_ne, ne_eq, bne_eq_false_iff_eq, Bool.not_eq_true', decide_eq_false_iff_not, Bool.not_eq_false', decide_eq_true_eq] at *; simp [*])
theorem Try.infoIHold : (Try.prog.info? 93).map (fun i => (i.zero, i.size, i.bytes)) = some (some (.agg #[.int .i64 0, .int .i64 0, .int .i64 0, .slice none 0 0, .int .i64 0, .int .i64 0]), 6, 64) := by kernel_rfl
def RetHoldS (w : World) (l : List Hld) (e : Ending) (w' : World) : Prop :=
  ∃ (v' : Value) (pl' : List (Hld × Value)), e = .returned v' ∧ pl'.map Prod.fst = l ∧ w'.ownsRow w.heap.size 93 6 v' pl'.length (pl'.flatMap Hld.enc) ∧ (∀ p ∈ pl', w'.ownsRow w.heap.size 3 1 p.2 p.1.ss.length (p.1.ss.flatMap encI)) ∧ Ext w w'
set_option maxHeartbeats 1000000 in
theorem toHoldS_ok (pl : List (Hld × Value)) (v : Value) (w : World) (hv : Hld.All w v pl) (hl : pl.length ≤ 1048576) (hll : ∀ p ∈ pl, p.1.ss.length ≤ 1048576) :
    Calls Try.prog 11 #[v] w (RetHoldS w (pl.map Prod.fst)) := by
  obtain ⟨hv, hat⟩ := hv
  obtain ⟨a, cap, rfl⟩ := hv.shape
  obtain ⟨n, hn⟩ : ∃ n, n = pl.length := ⟨_, rfl⟩
  rw [← hn] at hv hl ⊢
  have HN := Lib.hid hn
  have HAT := Lib.hid hat
  have HLL := Lib.hid hll
  clear hn hat hll
  have HM := Lib.hid (show n ≤ maxLen by unfold maxLen; omega)
  obtain ⟨i0, hi, hz0, hz1, hz2⟩ := info_parts Try.infoIHold
  go_enter Try.func11, Try.ntmps11
  go_wp2_with (at_make; refine wpList_make_full _ rfl _ _ 24 rfl w.heap.size 93 i0 (.agg #[.int .i64 0, .int .i64 0, .int .i64 0, .slice none 0 0, .int .i64 0, .int .i64 0]) 6 Try.underlying24 hi hz0 hz1 _ _ _ _ n rfl rfl rfl rfl ?c1 ?c2 ?c3 ?_)
  case c1 => rw [hz2]; omega
  case c2 => exact HM.out
  case c3 => exact Nat.le_refl _
  intro w1 hown hgrow
  have hE : Ext w w1 := ext_grownBy (Ext.refl w) hgrow (by simp)
  obtain ⟨hg, hfil⟩ := Filled.of_owns hown
  clear hown hgrow
  go_wp2
  go_loopw [4] (fun i wr => ∃ (k : Nat) (ql : List (Hld × Value)), k ≤ n ∧ i = .int .i64 k ∧ ql.length = k ∧ Hid (ql.map Prod.fst = (pl.map Prod.fst).take k) ∧ Filled wr w.heap.size 93 (n * 6) (ql.flatMap Hld.enc) ∧ Hid (∀ p ∈ ql, wr.ownsRow (w.heap.size + 1) 3 1 p.2 p.1.ss.length (p.1.ss.flatMap encI)) ∧ Ext w wr) (fun i _ => n - (intOf i).toNat)
  case atStart => exact ⟨0, [], Nat.zero_le _, rfl, rfl, Lib.hid (by simp), hfil, Lib.hid (by simp), hE⟩
  case round =>
    obtain ⟨k, ql, hk, rfl, hqk, HQ, hfl, HO, hE⟩ := hrel
    by_cases hlt : k < n
    · have hkl : k < pl.length := by have := HN.out; omega
      have hv1 := hv.mono hE
      rw [HN.out] at hv1
      obtain ⟨b, off, rfl, hc⟩ := Reads.elems Hld.enc_len hv1 (by omega)
      obtain ⟨⟨⟨x0, x1, x2, la, x4, x5⟩, sv⟩, hx⟩ := get_of_lt hkl
      have hmem := List.mem_of_getElem? hx
      have hat := (HAT.out _ hmem).mono hE
      have hln := HLL.out _ hmem
      have c0 := hc k _ hx 0 _ rfl
      have c1 := hc k _ hx 1 _ rfl
      have c2 := hc k _ hx 2 _ rfl
      have c3 := hc k _ hx 3 _ rfl
      have c4 := hc k _ hx 4 _ rfl
      have c5 := hc k _ hx 5 _ rfl
      rw [Nat.add_zero] at c0
      have HX := Lib.hid hx
      clear hc hx hv1 hmem
      have gh : w.heap.size < wr.heap.size := by have := hfl.cell (i := 0) (by omega); obtain ⟨u, hu⟩ := this; exact block_lt_of_cell hu
      have hst := Reads.shape hat
      obtain ⟨ca, capa, hst⟩ := hst
      simp only at hst hln
      subst hst
      have HC := toHold_ok ⟨x0, x1, x2, la, x4, x5⟩ _ wr hat hln
      go_wp2_with fail
      refine HC.mono ?_
      rintro e w2 ⟨sv', rfl, o2, h2⟩
      have hfl2 := hfl.ext h2
      have hE2 := hE.trans h2
      obtain ⟨a2, cap2, rfl⟩ := (Reads.of_owns o2).shape
      obtain ⟨z0, hz0⟩ := hfl2.cell (i := k * 6) (by omega)
      obtain ⟨z1, hz1⟩ := hfl2.cell (i := k * 6 + 1) (by omega)
      obtain ⟨z2, hz2⟩ := hfl2.cell (i := k * 6 + 2) (by omega)
      obtain ⟨z3, hz3⟩ := hfl2.cell (i := k * 6 + 3) (by omega)
      obtain ⟨z4, hz4⟩ := hfl2.cell (i := k * 6 + 4) (by omega)
      obtain ⟨z5, hz5⟩ := hfl2.cell (i := k * 6 + 5) (by omega)
      have f0 := hfl2.frozen (k * 6)
      have f1 := hfl2.frozen (k * 6 + 1)
      have f2 := hfl2.frozen (k * 6 + 2)
      have f3 := hfl2.frozen (k * 6 + 3)
      have f4 := hfl2.frozen (k * 6 + 4)
      have f5 := hfl2.frozen (k * 6 + 5)
      clear c0 c1 c2 c3 c4 c5
      go_wp2
      go_roundw
      case rel =>
        refine ⟨k + 1, ql ++ [(⟨x0, x1, x2, la, x4, x5⟩, .slice a2 la.length cap2)], by omega, by go_num, by simp; omega, Lib.hid ?_, ?_, Lib.hid ?_, ?_⟩
        · rw [List.map_append, HQ.out, List.take_add_one, List.getElem?_map, HX.out]; rfl
        · have e3 : (ql.flatMap Hld.enc).length = k * 6 := by rw [flat_length _ 6 Hld.enc_len, hqk]
          have p0 := hfl2.put' e3 (by omega) (.int .i64 x0)
          have p1 := p0.put' (i := k * 6 + 1) (by simp [e3]) (by omega) (.int .i64 x1)
          have p2 := p1.put' (i := k * 6 + 2) (by simp [e3]) (by omega) (.int .i64 x2)
          have p3 := p2.put' (i := k * 6 + 3) (by simp [e3]) (by omega) (.slice a2 la.length cap2)
          have p4 := p3.put' (i := k * 6 + 4) (by simp [e3]) (by omega) (.int .i64 x4)
          have p5 := p4.put' (i := k * 6 + 5) (by simp [e3]) (by omega) (.int .i64 x5)
          simpa [Hld.enc] using p5
        · intro p hp
          have lift : ∀ {u : Value} {m : Nat} {xs : List Value}, w2.ownsRow (w.heap.size + 1) 3 1 u m xs → ((((((w2.setCell ⟨w.heap.size, k * 6, none⟩ (.int .i64 x0)).setCell ⟨w.heap.size, k * 6 + 1, none⟩ (.int .i64 x1)).setCell ⟨w.heap.size, k * 6 + 2, none⟩ (.int .i64 x2)).setCell ⟨w.heap.size, k * 6 + 3, none⟩ (.slice a2 la.length cap2)).setCell ⟨w.heap.size, k * 6 + 4, none⟩ (.int .i64 x4)).setCell ⟨w.heap.size, k * 6 + 5, none⟩ (.int .i64 x5)).ownsRow (w.heap.size + 1) 3 1 u m xs := fun h => (owns_setCell (owns_setCell (owns_setCell (owns_setCell (owns_setCell (owns_setCell h (by dsimp only; omega) _) (by dsimp only; omega) _) (by dsimp only; omega) _) (by dsimp only; omega) _) (by dsimp only; omega) _) (by dsimp only; omega) _)
          rcases List.mem_append.1 hp with hp | hp
          · exact lift (h2.owns (HO.out p hp))
          · have : p = (⟨x0, x1, x2, la, x4, x5⟩, .slice a2 la.length cap2) := by simpa using hp
            subst this
            exact lift (owns_mono o2 (by omega))
        · exact (Ext.setCell (Ext.setCell (Ext.setCell (Ext.setCell (Ext.setCell (Ext.setCell hE2 (Nat.le_refl _) _) (Nat.le_refl _) _) (Nat.le_refl _) _) (Nat.le_refl _) _) (Nat.le_refl _) _) (Nat.le_refl _) _)
      case measure => simp [intOf]; omega
    · go_wp2
      go_ret
      have hkn : k = pl.length := by have := HN.out; omega
      have e3 : (ql.flatMap Hld.enc).length = n * 6 := by rw [flat_length _ 6 Hld.enc_len, hqk, hkn, HN.out]
      have ho := hfl.owns e3 (Nat.le_refl _) HM.out
      have hqn : ql.length = n := by omega
      refine ⟨_, ql, rfl, ?_, by rw [hqn]; exact ho, fun p hp => owns_mono (HO.out p hp) (by omega), hE⟩
      rw [HQ.out, hkn, List.take_of_length_le (by simp)]
set_option maxHeartbeats 1000000 in
theorem eqHoldS_ok (la lb : List (Hld × Value)) (va vb : Value) (w : World) (ha : Hld.All w va la) (hb : Hld.All w vb lb) (hm : la.length ≤ 1048576) (hll : ∀ p ∈ la, p.1.ss.length ≤ 1048576) :
    Calls Try.prog 13 #[va, vb] w fun e w' => e = .returned (.bool (decide (la.map Prod.fst = lb.map Prod.fst))) ∧ Ext w w' := by
  have mixed : Try.prog.follows .mixedOrders = true := by kernel_rfl
  obtain ⟨ha, haa⟩ := ha
  obtain ⟨hb, hba⟩ := hb
  have HAA := Lib.hid haa
  have HBA := Lib.hid hba
  have HLL := Lib.hid hll
  clear haa hba hll
  obtain ⟨a, cap, rfl⟩ := ha.shape
  obtain ⟨b, cap', rfl⟩ := hb.shape
  by_cases hl : la.length = lb.length
  case neg =>
    have hne : ((la.length : Int) != (lb.length : Int)) = true := by rw [bne_iff_ne]; omega
    have HL : Hid (la.map Prod.fst ≠ lb.map Prod.fst) := (fun h => hl (by have := congrArg List.length h; simpa using this) : la.map Prod.fst ≠ lb.map Prod.fst)
    clear hl ha hb hm
    go_enter Try.func13, Try.ntmps13
    go_wp2
    go_ret
    exact ⟨ret_bool (decide_eq_false HL.out).symm, Ext.refl _⟩
  obtain ⟨n, hn⟩ : ∃ n, n = la.length := ⟨_, rfl⟩
  obtain ⟨res0, hres0⟩ : ∃ r, r = decide (la.map Prod.fst = lb.map Prod.fst) := ⟨_, rfl⟩
  rw [← hres0]
  have HR0 := Lib.hid hres0
  clear hres0
  rw [← hn] at ha hm hl
  rw [← hl] at hb
  rw [← hn, ← hl]
  have hne : ((n : Int) != (n : Int)) = false := by simp
  have HA := Lib.hid hn
  have HB := Lib.hid hl
  clear hn hl
  go_enter Try.func13, Try.ntmps13
  go_wp2
  go_loopw [5] (fun i wr => ∃ k : Nat, k ≤ n ∧ i = .int .i64 k ∧ (∀ j, j < k → (la.map Prod.fst)[j]? = (lb.map Prod.fst)[j]?) ∧ Ext w wr) (fun i _ => n - (intOf i).toNat)
  case atStart => exact ⟨0, Nat.zero_le _, rfl, fun j h => by omega, Ext.refl _⟩
  case round =>
    obtain ⟨k, hk, rfl, hall, hE⟩ := hrel
    have HALL := Lib.hid hall
    clear hall
    by_cases hlt : k < n
    · have hka : k < la.length := by have := HA.out; omega
      have hkb : k < lb.length := by have := HB.out; omega
      have ha1 := ha.mono hE
      have hb1 := hb.mono hE
      rw [HA.out] at ha1
      rw [HB.out] at hb1
      obtain ⟨ba, oa, rfl, hca⟩ := Reads.elems Hld.enc_len ha1 (by omega)
      obtain ⟨bb, ob, rfl, hcb⟩ := Reads.elems Hld.enc_len hb1 (by omega)
      clear ha1 hb1
      obtain ⟨⟨r1, s1⟩, hxa⟩ := get_of_lt hka
      obtain ⟨⟨r2, s2⟩, hxb⟩ := get_of_lt hkb
      have x0 := cell_in_class (hca k _ hxa 0 _ rfl)
      have y0 := cell_in_class (hcb k _ hxb 0 _ rfl)
      have x1 := cell_in_class (hca k _ hxa 1 _ rfl)
      have y1 := cell_in_class (hcb k _ hxb 1 _ rfl)
      have x2 := cell_in_class (hca k _ hxa 2 _ rfl)
      have y2 := cell_in_class (hcb k _ hxb 2 _ rfl)
      have x3 := cell_in_class (hca k _ hxa 3 _ rfl)
      have y3 := cell_in_class (hcb k _ hxb 3 _ rfl)
      have x4 := cell_in_class (hca k _ hxa 4 _ rfl)
      have y4 := cell_in_class (hcb k _ hxb 4 _ rfl)
      have x5 := cell_in_class (hca k _ hxa 5 _ rfl)
      have y5 := cell_in_class (hcb k _ hxb 5 _ rfl)
      simp only [Nat.add_zero] at x0 y0
      have t1 := (HAA.out _ (List.mem_of_getElem? hxa)).mono hE
      have t2 := (HBA.out _ (List.mem_of_getElem? hxb)).mono hE
      have t3 := HLL.out _ (List.mem_of_getElem? hxa)
      clear hca hcb
      have HXA : Hid ((la.map Prod.fst)[k]? = some r1) := (by rw [List.getElem?_map, hxa]; rfl : (la.map Prod.fst)[k]? = some r1)
      have HXB : Hid ((lb.map Prod.fst)[k]? = some r2) := (by rw [List.getElem?_map, hxb]; rfl : (lb.map Prod.fst)[k]? = some r2)
      clear hxa hxb
      obtain ⟨res, hres⟩ : ∃ r, r = decide (r1 = r2) := ⟨_, rfl⟩
      have cE := Calls.in_class (w := wr) (fun w' hw' => eqHold_ok r1 r2 s1 s2 w' (t1.mono hw') (t2.mono hw') t3)
      rw [← hres] at cE
      have HRES := Lib.hid hres
      clear hres t1 t2 t3
      go_wp2
      refine wp_region_quiet_below mixed (by kernel_rfl) ?_
      repeat (first | go_big_quiet_step (exact cE _ _) | quiet_step (exact cE _ _))
      refine wpQuiet_nil ?_
      intro _ hw'
      obtain ⟨⟨dq, osq⟩, hw''⟩ := hw'
      subst hw''
      clear cE x0 y0 x1 y1 x2 y2 x3 y3 x4 y4 x5 y5
      have hq := hE.regrown dq osq
      cases res with
      | true =>
        go_wp2
        go_roundw
        case rel =>
          refine ⟨k + 1, by omega, by go_num, fun j hj => ?_, hq⟩
          by_cases hjk : j < k
          · exact HALL.out j hjk
          · have : j = k := by omega
            subst this
            have := of_decide_eq_true HRES.out.symm
            rw [HXA.out, HXB.out, this]
        case measure => simp [intOf]; omega
      | false =>
        have HF : Hid (res0 = false) := (by
          rw [HR0.out]
          refine decide_eq_false fun h => ?_
          have h2 := HXA.out
          rw [h, HXB.out] at h2
          simp only [Option.some.injEq] at h2
          exact of_decide_eq_false HRES.out.symm h2.symm : res0 = false)
        go_wp2
        go_ret
        exact ⟨ret_bool HF.out.symm, hq⟩
    · have HT : Hid (res0 = true) := (by
        rw [HR0.out]
        refine decide_eq_true (List.ext_getElem? fun j => ?_)
        by_cases hj : j < k
        · exact HALL.out j hj
        · rw [List.getElem?_eq_none (by have := HA.out; simp; omega), List.getElem?_eq_none (by have := HB.out; simp; omega)] : res0 = true)
      go_wp2
      go_ret
      exact ⟨ret_bool HT.out.symm, hE⟩
set_option maxHeartbeats 400000 in
theorem szHold_ok (r : Hld) (sv : Value) (left : Int) (w : World) (hv : Hld.At w (r, sv)) (hn : r.ss.length ≤ maxLen) (h0 : 0 ≤ left) (h1 : left ≤ 1048576) :
    Calls Try.prog 50 #[.agg #[.int .i64 r.id, .int .i64 r.fr, .int .i64 r.un, sv, .int .i64 r.fi, .int .i64 r.la], .int .i64 left] w fun e w' => e = .returned (.int .i64 (szL left r.ss.length)) ∧ Ext w w' := by
  obtain ⟨a, cap, hs⟩ := Reads.shape hv
  simp only at hs
  subst hs
  by_cases h : (r.ss.length : Int) ≤ left
  · have HR := Lib.hid (szL_le h)
    have hp : ¬ left - (r.ss.length : Int) < 0 := by omega
    go_enter Try.func50, Try.ntmps50
    go_wp2_with fail
    refine (szIntS_ok _ _ _ _ _ hn h0 h1).mono ?_
    rintro e w' ⟨rfl, rfl⟩
    rw [HR.out]
    go_wp2
    go_ret
    exact ⟨ret_int (by rw [HR.out]), (Ext.refl _).alloc _⟩
  · have HR := Lib.hid (szL_gt h)
    go_enter Try.func50, Try.ntmps50
    go_wp2_with fail
    refine (szIntS_ok _ _ _ _ _ hn h0 h1).mono ?_
    rintro e w' ⟨rfl, rfl⟩
    rw [HR.out]
    go_wp2
    go_ret
    exact ⟨ret_int (by rw [HR.out]), (Ext.refl _).alloc _⟩
set_option maxHeartbeats 1000000 in
theorem szHoldS_ok (pl : List (Hld × Value)) (v : Value) (left : Int) (w : World) (hv : Hld.All w v pl) (hn : pl.length ≤ maxLen) (hll : ∀ p ∈ pl, p.1.ss.length ≤ maxLen) (h0 : 0 ≤ left) (h1 : left ≤ 1048576) :
    Calls Try.prog 9 #[v, .int .i64 left] w fun e w' => e = .returned (.int .i64 (szL left (pl.length + Hld.wt (pl.map Prod.fst)))) ∧ Ext w w' := by
  obtain ⟨hv, hat⟩ := hv
  obtain ⟨a, cap, rfl⟩ := hv.shape
  unfold maxLen at hn
  have HAT := Lib.hid hat
  have HLL := Lib.hid hll
  clear hat hll
  obtain ⟨W, hW⟩ : ∃ W, Hld.wt (pl.map Prod.fst) = W := ⟨_, rfl⟩
  rw [hW]
  have HW := Lib.hid hW
  clear hW
  by_cases hb : (pl.length : Int) ≤ left
  case neg =>
    have HR : Hid (szL left (pl.length + W) = -1) := (szL_gt (by omega) : szL left (pl.length + W) = -1)
    go_enter Try.func9, Try.ntmps9
    go_wp2
    go_ret
    exact ⟨ret_int HR.out.symm, Ext.refl _⟩
  go_enter Try.func9, Try.ntmps9
  go_wp2
  go_loopw [1, 5] (fun le i wr => ∃ k : Nat, k ≤ pl.length ∧ i = .int .i64 k ∧ le = .int .i64 (left - pl.length - (Hld.wt ((pl.map Prod.fst).take k) : Nat)) ∧ ((pl.length : Int) + (Hld.wt ((pl.map Prod.fst).take k) : Nat) ≤ left) ∧ Ext w wr) (fun _ i _ => pl.length - (intOf i).toNat)
  case atStart => exact ⟨0, Nat.zero_le _, rfl, by simp [Hld.wt], by simp [Hld.wt]; omega, Ext.refl _⟩
  case round =>
    obtain ⟨k, hk, rfl, rfl, hw, hE⟩ := hrel
    by_cases hlt : k < pl.length
    · have hv1 := hv.mono hE
      obtain ⟨b, off, rfl, hc⟩ := Reads.elems Hld.enc_len hv1 (by omega)
      obtain ⟨⟨r, sv⟩, hx⟩ := get_of_lt hlt
      have c0 := hc k _ hx 0 _ rfl
      have c1 := hc k _ hx 1 _ rfl
      have c2 := hc k _ hx 2 _ rfl
      have c3 := hc k _ hx 3 _ rfl
      have c4 := hc k _ hx 4 _ rfl
      have c5 := hc k _ hx 5 _ rfl
      rw [Nat.add_zero] at c0
      have hmem := List.mem_of_getElem? hx
      have hat := (HAT.out _ hmem).mono hE
      have hln := HLL.out _ hmem
      have HS := Lib.hid (Hld.wt_step (pl.map Prod.fst) k r (by rw [List.getElem?_map, hx]; rfl))
      have hle := Hld.wt_le (pl.map Prod.fst) (k + 1)
      rw [HS.out, HW.out] at hle
      obtain ⟨u, hu⟩ : ∃ u, Hld.wt ((pl.map Prod.fst).take k) = u := ⟨_, rfl⟩
      rw [hu] at hw hle HS ⊢
      clear hu hc hx hv1 hmem
      obtain ⟨ca, capa, hst⟩ := Reads.shape hat
      simp only at hst hln
      subst hst
      have hcell := Hld.one hat
      clear hcell
      have HC := szHold_ok r _ (left - (pl.length : Int) - (u : Nat)) wr hat hln (by omega) (by omega)
      go_wp2_with fail
      refine HC.mono ?_
      rintro e w2 ⟨rfl, E2⟩
      by_cases hq : (r.ss.length : Int) ≤ left - (pl.length : Int) - (u : Nat)
      · have HR := Lib.hid (szL_le hq)
        have hp : ¬ left - (pl.length : Int) - (u : Nat) - (r.ss.length : Int) < 0 := by omega
        rw [HR.out]
        go_wp2
        go_roundw
        case rel => exact ⟨k + 1, by omega, by go_num, by rw [HS.out]; exact congrArg (Value.int IntKind.i64) (by omega), by rw [HS.out]; omega, Ext.trans hE E2⟩
        case measure => simp [intOf]; omega
      · have HR := Lib.hid (szL_gt hq)
        have HF : Hid (szL left (pl.length + W) = -1) := (szL_gt (by omega) : szL left (pl.length + W) = -1)
        rw [HR.out]
        go_wp2
        go_ret
        exact ⟨ret_int HF.out.symm, Ext.trans hE E2⟩
    · have hkn : (pl.map Prod.fst).take k = pl.map Prod.fst := List.take_of_length_le (by simp; omega)
      have hw2 := HW.out
      rw [hkn, hw2] at hw ⊢
      have HF : Hid (szL left (pl.length + W) = left - pl.length - (W : Nat)) := (by rw [szL_le (by omega)]; omega : szL left (pl.length + W) = left - pl.length - (W : Nat))
      clear hkn hw2
      go_wp2
      go_ret
      exact ⟨ret_int HF.out.symm, hE⟩
set_option maxHeartbeats 1000000 in
theorem markHoldS_ok (base hi : Nat) (pl : List (Hld × Value)) (v : Value) (k0 : Int) (w : World) (hv : w.ownsRow base 93 6 v pl.length (pl.flatMap Hld.enc)) (hwr : ∀ p ∈ pl, Wr w base 3 1 p.2 p.1.ss.length) (hhi : ∀ j, v.ownBlock = some j → j < hi) (hhi2 : ∀ p ∈ pl, ∀ j, p.2.ownBlock = some j → j < hi)
    (hn : pl.length + Hld.wt (pl.map Prod.fst) ≤ 1048576) (hk0 : 0 ≤ k0) (hk1 : k0 ≤ 1048576 * 1048560) :
    Calls Try.prog 14 #[v, .int .i64 k0] w (RetMk w base hi k0 (8 * (pl.length + Hld.wt (pl.map Prod.fst)))) := by
  have HWR := Lib.hid hwr
  have HHI2 := Lib.hid hhi2
  clear hwr hhi2
  obtain ⟨W, hW⟩ : ∃ W, Hld.wt (pl.map Prod.fst) = W := ⟨_, rfl⟩
  rw [hW] at hn ⊢
  have HW := Lib.hid hW
  clear hW
  have hv0 := hv
  rcases hv.2 with ⟨rfl, h0⟩ | ⟨g, cap, cur, rfl, hg, hcur, hnc, hcm, hcs, htake⟩
  · rw [h0]
    go_enter Try.func14, Try.ntmps14
    go_wp2
    go_loopw [1, 5] (fun kk i wr => kk = .int .i64 k0 ∧ i = .int .i64 0 ∧ wr = w) (fun _ _ _ => 0)
    case atStart => exact ⟨rfl, rfl, rfl⟩
    case round =>
      obtain ⟨rfl, rfl, rfl⟩ := hrel
      go_wp2
      go_ret
      exact ⟨_, rfl, by omega, by omega, Turned.refl _ _ _⟩
  have hR : SvRows w g 93 6 cap 3 (pl.map Prod.snd) := by
    refine ⟨cur, hcur, hcs, fun j u hj => ?_⟩
    rw [List.getElem?_map] at hj
    cases hp : pl[j]? with
    | none => rw [hp] at hj; cases hj
    | some p =>
      rw [hp] at hj
      simp only [Option.map_some, Option.some.injEq] at hj
      subst hj
      have hjl : j < pl.length := (List.getElem?_eq_some_iff.1 hp).1
      have h1 := flat_some (enc := Hld.enc) Hld.enc_len hp (j := 3) (u := p.2) rfl
      rw [← htake, List.getElem?_take, if_pos (by omega), Array.getElem?_toList] at h1
      exact h1
  have HR := Lib.hid hR
  have HCM := Lib.hid hcm
  have hgh : g < hi := hhi g rfl
  clear hR hcur hcs htake hcm hv hhi hv0
  go_enter Try.func14, Try.ntmps14
  go_wp2
  go_loopw [1, 5] (fun kk i wr => ∃ (k : Nat) (c : Int), k ≤ pl.length ∧ i = .int .i64 k ∧ kk = .int .i64 c ∧ k0 ≤ c ∧ c ≤ k0 + 8 * ((k : Int) + (Hld.wt ((pl.map Prod.fst).take k) : Nat)) ∧ Hid (SvRows wr g 93 6 cap 3 (pl.map Prod.snd)) ∧ Hid (∀ p ∈ pl, Wr wr base 3 1 p.2 p.1.ss.length) ∧ g < wr.heap.size ∧ Turned base hi w wr) (fun _ i _ => pl.length - (intOf i).toNat)
  case atStart => exact ⟨0, k0, Nat.zero_le _, rfl, rfl, by omega, by omega, HR, HWR, by obtain ⟨cur, h1, _⟩ := HR.out; exact (Array.getElem?_eq_some_iff.1 h1).1, Turned.refl _ _ _⟩
  case round =>
    obtain ⟨k, c, hk, rfl, rfl, hc1, hc2, HRO, HWW, hgs, hT⟩ := hrel
    by_cases hlt : k < pl.length
    · obtain ⟨⟨r, sv⟩, hx⟩ := get_of_lt hlt
      have hmem := List.mem_of_getElem? hx
      have hsv : (pl.map Prod.snd)[k]? = some sv := by rw [List.getElem?_map, hx]; rfl
      have HS := Lib.hid (Hld.wt_step (pl.map Prod.fst) k r (by rw [List.getElem?_map, hx]; rfl))
      have hle := Hld.wt_le (pl.map Prod.fst) (k + 1)
      rw [HS.out, HW.out] at hle
      obtain ⟨u, hu⟩ : ∃ u, Hld.wt ((pl.map Prod.fst).take k) = u := ⟨_, rfl⟩
      rw [hu] at hc2 hle HS
      have hwsv := HWW.out _ hmem
      have hhsv := HHI2.out _ hmem
      simp only at hwsv hhsv
      have HMEM := Lib.hid hmem
      clear hu hx hmem
      have hroom : k * 6 + 6 ≤ cap * 6 := by omega
      obtain ⟨z0, hz0⟩ := HRO.out.cell (i := k * 6) (by omega)
      have f0 := HRO.out.frozen (k * 6)
      obtain ⟨z1, hz1⟩ := HRO.out.cell (i := k * 6 + 1) (by omega)
      have f1 := HRO.out.frozen (k * 6 + 1)
      obtain ⟨z2, hz2⟩ := HRO.out.cell (i := k * 6 + 2) (by omega)
      have f2 := HRO.out.frozen (k * 6 + 2)
      have zs := HRO.out.sv hsv
      have R1 : SvRows (((wr.setCell ⟨g, k * 6, none⟩ (.int .i64 (c))).setCell ⟨g, k * 6 + 1, none⟩ (.int .i64 (c + 1))).setCell ⟨g, k * 6 + 2, none⟩ (.int .i64 (c + 1 + 1))) g 93 6 cap 3 (pl.map Prod.snd) := (((HRO.out.set (k := k) (r := 0) (by decide) (by decide) (by decide) _).set (k := k) (r := 1) (by decide) (by decide) (by decide) _).set (k := k) (r := 2) (by decide) (by decide) (by decide) _)
      have hneg : ∀ {u : Value} {m : Nat}, Wr wr base 3 1 u m → ∀ b, u.ownBlock = some b → b ≠ g := fun h b hb => HRO.out.ne (by decide) h hb
      have W1 : ∀ {u : Value} {m : Nat}, Wr wr base 3 1 u m → Wr (((wr.setCell ⟨g, k * 6, none⟩ (.int .i64 (c))).setCell ⟨g, k * 6 + 1, none⟩ (.int .i64 (c + 1))).setCell ⟨g, k * 6 + 2, none⟩ (.int .i64 (c + 1 + 1))) base 3 1 u m := fun h => (Wr.set (Wr.set (Wr.set h (hneg h) _) (hneg h) _) (hneg h) _)
      have T1 : Turned base hi w (((wr.setCell ⟨g, k * 6, none⟩ (.int .i64 (c))).setCell ⟨g, k * 6 + 1, none⟩ (.int .i64 (c + 1))).setCell ⟨g, k * 6 + 2, none⟩ (.int .i64 (c + 1 + 1))) := (((hT.setCell hg hgh _).setCell hg hgh _).setCell hg hgh _)
      have E1 : (((wr.setCell ⟨g, k * 6, none⟩ (.int .i64 (c))).setCell ⟨g, k * 6 + 1, none⟩ (.int .i64 (c + 1))).setCell ⟨g, k * 6 + 2, none⟩ (.int .i64 (c + 1 + 1))).heap.size = wr.heap.size := by simp [World.setCell]
      obtain ⟨ca, capa, hst⟩ : ∃ ca capa, sv = .slice ca r.ss.length capa := by obtain ⟨xs, h⟩ := hwsv; exact (Reads.of_owns h).shape
      subst hst
      have hlen : r.ss.length ≤ 1048576 := by omega
      have HC := (W1 hwsv).elim fun xs hxs => markTight hxs fun b' h' o1 o2 => markIntS_ok b' h' r.ss.length _ xs (c + 1 + 1 + 1) _ o1 o2 hlen (by omega) (by omega)
      go_wp2_with fail
      refine HC.mono ?_
      rintro e w2 ⟨rfl, hw2, b, hb1, hb2, hT2⟩
      have hbg : b ≠ g := by
        cases hob : Value.ownBlock (.slice ca r.ss.length capa) with
        | none => have := hb2 hob; rw [E1] at this; omega
        | some j => have := hb1 j hob; subst this; exact hneg hwsv j hob
      have R2 := R1.turned hT2 hbg
      have hgs2 : g < w2.heap.size := by have := hT2.size; rw [E1] at this; omega
      have W2 : ∀ p ∈ pl, Wr w2 base 3 1 p.2 p.1.ss.length := fun p hp => wr_after (by decide) (W1 (HWW.out p hp)) (W1 hwsv) hw2 hb1 hb2 hT2
      have T2 : Turned base hi w w2 := T1.trans (hT2.wider fun i hi1 hi2 => by
        cases hob : Value.ownBlock (.slice ca r.ss.length capa) with
        | none => have := hb2 hob; omega
        | some j =>
          have e1 := hb1 j hob
          have e2 := hhsv j hob
          have e3 : base ≤ j := by obtain ⟨xs, h⟩ := hwsv; exact (h.lt j hob).1
          omega)
      obtain ⟨y4, hy4⟩ := R2.cell (i := k * 6 + 4) (by omega)
      have j4 := R2.frozen (k * 6 + 4)
      obtain ⟨y5, hy5⟩ := R2.cell (i := k * 6 + 5) (by omega)
      have j5 := R2.frozen (k * 6 + 5)
      have WW2 := Lib.hid W2
      have RR2 := Lib.hid R2
      have NE2 : Hid (∀ p ∈ pl, ∀ b, p.2.ownBlock = some b → b ≠ g) := Lib.hid fun p hp b hb => hneg (HWW.out p hp) b hb
      clear hz0 f0 hz1 f1 hz2 f2 zs R1 W1 T1 HC R2 W2 hneg
      go_wp2
      go_roundw
      case rel =>
        refine ⟨k + 1, _, by omega, by go_num, rfl, by omega, by rw [HS.out]; omega, Lib.hid ((RR2.out.set (k := k) (r := 4) (by decide) (by decide) (by decide) _).set (k := k) (r := 5) (by decide) (by decide) (by decide) _), Lib.hid fun p hp => (Wr.set (Wr.set (WW2.out p hp) (NE2.out p hp) _) (NE2.out p hp) _), by first | exact hgs2 | (simp [World.setCell]; exact hgs2), ((T2.setCell hg hgh _).setCell hg hgh _)⟩
      case measure => simp [intOf]; omega
    · have hkn : (pl.map Prod.fst).take k = pl.map Prod.fst := List.take_of_length_le (by simp; omega)
      have hw2 := HW.out
      rw [hkn, hw2] at hc2
      clear hkn hw2
      go_wp2
      go_ret
      exact ⟨_, rfl, hc1, by omega, hT⟩
/-- A row of Hold of the call's own. -/
abbrev OwnHold (w : World) (base hi : Nat) (l : List Hld) (v : Value) : Prop := Hld.Own 93 3 w base hi l v
theorem toHoldS_rd (l : List Hld) (v : Value) (w : World) (hv : Hld.Rd w v l) (hl : l.length ≤ 1048576) (hll : ∀ p ∈ l, p.ss.length ≤ 1048576) :
    Calls Try.prog 11 #[v] w fun e w' => ∃ v', e = .returned v' ∧ OwnHold w' w.heap.size w'.heap.size l v' ∧ Ext w w' := by
  obtain ⟨pl, rfl, hv⟩ := hv
  refine (toHoldS_ok pl v w hv (by simpa using hl) (fun p hp => hll p.1 (List.mem_map_of_mem hp))).mono ?_
  rintro e w' ⟨v', pl', rfl, h1, h2, h3, h4⟩
  exact ⟨v', rfl, by rw [← h1]; exact Hld.Own.of h2 h3, h4⟩
theorem szHoldS_rd (l : List Hld) (v : Value) (left : Int) (w : World) (hv : Hld.Rd w v l) (hn : l.length ≤ maxLen) (hll : ∀ p ∈ l, p.ss.length ≤ maxLen) (h0 : 0 ≤ left) (h1 : left ≤ 1048576) :
    Calls Try.prog 9 #[v, .int .i64 left] w fun e w' => e = .returned (.int .i64 (szL left (l.length + Hld.wt l))) ∧ Ext w w' := by
  obtain ⟨pl, rfl, hv⟩ := hv
  have := szHoldS_ok pl v left w hv (by simpa using hn) (fun p hp => hll p.1 (List.mem_map_of_mem hp)) h0 h1
  simpa using this
theorem eqHoldS_rd (la lb : List Hld) (va vb : Value) (w : World) (ha : Hld.Rd w va la) (hb : Hld.Rd w vb lb) (hm : la.length ≤ 1048576) (hll : ∀ p ∈ la, p.ss.length ≤ 1048576) :
    Calls Try.prog 13 #[va, vb] w fun e w' => e = .returned (.bool (decide (la = lb))) ∧ Ext w w' := by
  obtain ⟨pa, rfl, ha⟩ := ha
  obtain ⟨pb, rfl, hb⟩ := hb
  exact eqHoldS_ok pa pb va vb w ha hb (by simpa using hm) (fun p hp => hll p.1 (List.mem_map_of_mem hp))
theorem markHoldS_rd (base hi : Nat) (l : List Hld) (v : Value) (k0 : Int) (w : World) (hv : OwnHold w base hi l v) (hn : l.length + Hld.wt l ≤ 1048576) (hk0 : 0 ≤ k0) (hk1 : k0 ≤ 1048576 * 1048560) :
    Calls Try.prog 14 #[v, .int .i64 k0] w (RetMk w base hi k0 (8 * (l.length + Hld.wt l))) := by
  obtain ⟨pl, rfl, h2, h3, h4, h5⟩ := hv
  have := markHoldS_ok base hi pl v k0 w h2 (fun p hp => ⟨_, h3 p hp⟩) h4 h5 (by simpa using hn) hk0 hk1
  simpa using this
end Go.Proofs.Ytkbhonafbecbfaa
