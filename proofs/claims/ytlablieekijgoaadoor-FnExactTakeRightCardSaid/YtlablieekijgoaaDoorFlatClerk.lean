/- What the law's own helpers for slices of Clerk compute: sizes, copies, comparisons, marks; no condition beyond the lengths that are named. -/
import Derived.Test.YtlablieekijgoaaDoorRows
import Derived.Test.YtlablieekijgoaaDoorTextData
import Derived.Test.YtlablieekijgoaaDoorMarkT
import Derived.Test.YtlablieekijgoaaDoorBoxL
namespace Go.Proofs.YtlablieekijgoaaDoor
open Go.RowKit Go.Sort Go.Rd

theorem Tryd.infoIClerk : (Tryd.prog.info? 26).map (fun i => (i.zero, i.size, i.bytes)) = some (some (.agg #[.int .i64 0, .string ⟨#[]⟩, .int .i64 0, .int .i64 0, .int .i64 0, .int .i64 0]), 6, 56) := by kernel_rfl

set_option maxHeartbeats 400000 in
theorem toClerk_ok (a1 : Int) (a2 : List UInt8) (a3 : Int) (a4 : Int) (a5 : Int) (a6 : Int) (w : World) :
    Calls Tryd.prog 15 #[.agg #[.int .i64 (a1), .string ⟨(a2).toArray⟩, .int .i64 (a3), .int .i64 (a4), .int .i64 (a5), .int .i64 (a6)]] w fun e w' => e = .returned (.agg #[.int .i64 (a1), .string ⟨(a2).toArray⟩, .int .i64 (a3), .int .i64 (a4), .int .i64 (a5), .int .i64 (a6)]) ∧ Ext w w' := by
  go_enter Tryd.func15, Tryd.ntmps15
  go_wp2
  refine bodyPost_ret (v := .agg #[.int .i64 (a1), .string ⟨(a2).toArray⟩, .int .i64 (a3), .int .i64 (a4), .int .i64 (a5), .int .i64 (a6)]) (by simp [results, Tryd.results15, go_sem]) rfl ⟨rfl, ?_⟩
  repeat (first | exact Ext.refl _ | refine Ext.alloc ?_ _ | refine Ext.setCell ?_ (by simp) _)

set_option maxHeartbeats 400000 in
theorem eqClerk_ok (a1 : Int) (a2 : List UInt8) (a3 : Int) (a4 : Int) (a5 : Int) (a6 : Int) (b1 : Int) (b2 : List UInt8) (b3 : Int) (b4 : Int) (b5 : Int) (b6 : Int) (w : World) : Calls Tryd.prog 51 #[.agg #[.int .i64 (a1), .string ⟨(a2).toArray⟩, .int .i64 (a3), .int .i64 (a4), .int .i64 (a5), .int .i64 (a6)], .agg #[.int .i64 (b1), .string ⟨(b2).toArray⟩, .int .i64 (b3), .int .i64 (b4), .int .i64 (b5), .int .i64 (b6)]] w fun e w' => e = .returned (.bool (decide ((⟨a1, a2, a3, a4, a5, a6⟩ : Clk) = (⟨b1, b2, b3, b4, b5, b6⟩ : Clk)))) ∧ Ext w w' := by
  go_enter Tryd.func51, Tryd.ntmps51
  go_wp2
  all_goals go_ret
  all_goals refine ⟨ret_bool ?_, ((Ext.refl _).alloc _).alloc _⟩
  all_goals (simp only [bne_iff_ne, ne_eq, bne_eq_false_iff_eq, Bool.not_eq_true', Bool.not_eq_false', beq_eq_false_iff_ne, beq_iff_eq] at *; simp [*])

set_option maxHeartbeats 400000 in
theorem toClerkS_ok (l : List Clk) (v : Value) (w : World) (hv : Reads w 6 v l.length (l.flatMap Clk.enc)) (hl : l.length ≤ 1048576) :
    Calls Tryd.prog 19 #[v] w (RetOwn w 26 6 l.length (l.flatMap Clk.enc)) := by
  obtain ⟨a, cap, rfl⟩ := hv.shape
  obtain ⟨n, hn⟩ : ∃ n, n = l.length := ⟨_, rfl⟩
  rw [← hn] at hv hl ⊢
  have HN := Lib.hid hn
  clear hn
  have HM := Lib.hid (show n ≤ maxLen by unfold maxLen; omega)
  obtain ⟨i0, hi, hz0, hz1, hz2⟩ := info_parts Tryd.infoIClerk
  go_enter Tryd.func19, Tryd.ntmps19
  go_wp2_with (at_make; refine wpList_make_full _ rfl _ _ 32 rfl w.heap.size 26 i0 (.agg #[.int .i64 0, .string ⟨#[]⟩, .int .i64 0, .int .i64 0, .int .i64 0, .int .i64 0]) 6 Tryd.underlying32 hi hz0 hz1 _ _ _ _ n rfl rfl rfl rfl ?c1 ?c2 ?c3 ?_)
  case c1 => rw [hz2]; omega
  case c2 => exact HM.out
  case c3 => exact Nat.le_refl _
  intro w1 hown hgrow
  have hE : Ext w w1 := ext_grownBy (Ext.refl w) hgrow (by simp)
  obtain ⟨hg, hfil⟩ := Filled.of_owns hown
  clear hown hgrow
  go_wp2
  go_loopw [4] (fun i wr => ∃ k : Nat, k ≤ n ∧ i = .int .i64 k ∧ Filled wr w.heap.size 26 (n * 6) ((l.take k).flatMap Clk.enc) ∧ Ext w wr) (fun i _ => n - (intOf i).toNat)
  case atStart => exact ⟨0, Nat.zero_le _, rfl, hfil, hE⟩
  case round =>
    obtain ⟨k, hk, rfl, hfl, hE⟩ := hrel
    by_cases hlt : k < n
    · have hkl : k < l.length := by have := HN.out; omega
      have hv1 := hv.mono hE
      rw [HN.out] at hv1
      obtain ⟨b, off, rfl, hc⟩ := Reads.elem Clk.enc_len hv1 hkl
      have c0 := hc 0 _ rfl
      have c1 := hc 1 _ rfl
      have c2 := hc 2 _ rfl
      have c3 := hc 3 _ rfl
      have c4 := hc 4 _ rfl
      have c5 := hc 5 _ rfl
      clear hc
      rw [Nat.add_zero] at c0
      have gh : w.heap.size < wr.heap.size := by have := hfl.cell (i := 0) (by omega); obtain ⟨u, hu⟩ := this; exact block_lt_of_cell hu
      go_wp2_with fail
      refine (toClerk_ok _ _ _ _ _ _ _).mono ?_
      rintro e w2 ⟨rfl, h2⟩
      have hfl2 := hfl.ext h2
      have hE2 := hE.trans h2
      obtain ⟨z0, hz0⟩ := hfl2.cell (i := k * 6) (by omega)
      obtain ⟨z1, hz1⟩ := hfl2.cell (i := k * 6 + 1) (by omega)
      obtain ⟨z2, hz2⟩ := hfl2.cell (i := k * 6 + 2) (by omega)
      obtain ⟨z3, hz3⟩ := hfl2.cell (i := k * 6 + 3) (by omega)
      obtain ⟨z4, hz4⟩ := hfl2.cell (i := k * 6 + 4) (by omega)
      obtain ⟨z5, hz5⟩ := hfl2.cell (i := k * 6 + 5) (by omega)
      have f0 := hfl2.frozen (k * 6)
      have f1 := hfl2.frozen (k * 6 + 1)
      have f2 := hfl2.frozen (k * 6 + 2)
      have f3 := hfl2.frozen (k * 6 + 3)
      have f4 := hfl2.frozen (k * 6 + 4)
      have f5 := hfl2.frozen (k * 6 + 5)
      clear c0 c1 c2 c3 c4 c5
      go_wp2
      go_roundw
      case rel =>
        refine ⟨k + 1, by omega, by go_num, ?_, ?_⟩
        · have e3 : ((l.take k).flatMap Clk.enc).length = k * 6 := flat_take_length _ 6 Clk.enc_len _ _ (by omega)
          rw [flat_take _ _ _ hkl]
          have p0 := hfl2.put' e3 (by omega) (.int .i64 (l[k].id))
          have p1 := p0.put' (i := k * 6 + 1) (by simp [e3]) (by omega) (.string ⟨(l[k].na).toArray⟩)
          have p2 := p1.put' (i := k * 6 + 2) (by simp [e3]) (by omega) (.int .i64 (l[k].ri))
          have p3 := p2.put' (i := k * 6 + 3) (by simp [e3]) (by omega) (.int .i64 (l[k].fr))
          have p4 := p3.put' (i := k * 6 + 4) (by simp [e3]) (by omega) (.int .i64 (l[k].un))
          have p5 := p4.put' (i := k * 6 + 5) (by simp [e3]) (by omega) (.int .i64 (l[k].st))
          simpa [Clk.enc] using p5
        · exact (((((hE2.setCell (Nat.le_refl _) _).setCell (Nat.le_refl _) _).setCell (Nat.le_refl _) _).setCell (Nat.le_refl _) _).setCell (Nat.le_refl _) _).setCell (Nat.le_refl _) _
      case measure => simp [intOf]; omega
    · go_wp2
      go_ret
      have hkn : k = l.length := by have := HN.out; omega
      rw [hkn, List.take_length] at hfl
      have e3 : (l.flatMap Clk.enc).length = n * 6 := by rw [flat_length _ 6 Clk.enc_len, HN.out]
      have ho := hfl.owns e3 (Nat.le_refl _) HM.out
      exact ⟨_, rfl, ho, hE⟩

set_option maxHeartbeats 400000 in
theorem eqClerkS_ok (la lb : List Clk) (va vb : Value) (w : World) (ha : Reads w 6 va la.length (la.flatMap Clk.enc)) (hb : Reads w 6 vb lb.length (lb.flatMap Clk.enc)) (hm : la.length ≤ 1048576) :
    Calls Tryd.prog 21 #[va, vb] w fun e w' => e = .returned (.bool (decide (la = lb))) ∧ Ext w w' := by
  have mixed : Tryd.prog.follows .mixedOrders = true := by kernel_rfl
  obtain ⟨a, cap, rfl⟩ := ha.shape
  obtain ⟨b, cap', rfl⟩ := hb.shape
  by_cases hl : la.length = lb.length
  case neg =>
    have hne : ((la.length : Int) != (lb.length : Int)) = true := by rw [bne_iff_ne]; omega
    have HL : Hid (la ≠ lb) := (fun h => hl (by rw [h]) : la ≠ lb)
    clear hl ha hb hm
    go_enter Tryd.func21, Tryd.ntmps21
    go_wp2
    go_ret
    exact ⟨ret_bool (decide_eq_false HL.out).symm, Ext.refl _⟩
  obtain ⟨n, hn⟩ : ∃ n, n = la.length := ⟨_, rfl⟩
  rw [← hn] at ha hm hl
  rw [← hl] at hb
  rw [← hn, ← hl]
  have hne : ((n : Int) != (n : Int)) = false := by simp
  have HA := Lib.hid hn
  have HB := Lib.hid hl
  clear hn hl
  go_enter Tryd.func21, Tryd.ntmps21
  go_wp2
  go_loopw [5] (fun i wr => ∃ k : Nat, k ≤ n ∧ i = .int .i64 k ∧ (∀ j, j < k → la[j]? = lb[j]?) ∧ Ext w wr) (fun i _ => n - (intOf i).toNat)
  case atStart => exact ⟨0, Nat.zero_le _, rfl, fun j h => by omega, Ext.refl _⟩
  case round =>
    obtain ⟨k, hk, rfl, hall, hE⟩ := hrel
    have HALL := Lib.hid hall
    clear hall
    by_cases hlt : k < n
    · have hka : k < la.length := by have := HA.out; omega
      have hkb : k < lb.length := by have := HB.out; omega
      have ha1 := ha.mono hE
      have hb1 := hb.mono hE
      rw [HA.out] at ha1
      rw [HB.out] at hb1
      obtain ⟨ba, oa, rfl, hca⟩ := Reads.elem Clk.enc_len ha1 hka
      obtain ⟨bb, ob, rfl, hcb⟩ := Reads.elem Clk.enc_len hb1 hkb
      clear ha1 hb1
      rcases hxa : la[k] with ⟨p1, p2, p3, p4, p5, p6⟩
      rcases hxb : lb[k] with ⟨q1, q2, q3, q4, q5, q6⟩
      rw [hxa] at hca
      rw [hxb] at hcb
      have x0 := cell_in_class (hca 0 _ rfl)
      have y0 := cell_in_class (hcb 0 _ rfl)
      have x1 := cell_in_class (hca 1 _ rfl)
      have y1 := cell_in_class (hcb 1 _ rfl)
      have x2 := cell_in_class (hca 2 _ rfl)
      have y2 := cell_in_class (hcb 2 _ rfl)
      have x3 := cell_in_class (hca 3 _ rfl)
      have y3 := cell_in_class (hcb 3 _ rfl)
      have x4 := cell_in_class (hca 4 _ rfl)
      have y4 := cell_in_class (hcb 4 _ rfl)
      have x5 := cell_in_class (hca 5 _ rfl)
      have y5 := cell_in_class (hcb 5 _ rfl)
      simp only [Nat.add_zero] at x0 y0
      clear hca hcb
      have HXA := Lib.hid hxa
      have HXB := Lib.hid hxb
      clear hxa hxb
      obtain ⟨res, hres⟩ : ∃ r, r = decide ((⟨p1, p2, p3, p4, p5, p6⟩ : Clk) = (⟨q1, q2, q3, q4, q5, q6⟩ : Clk)) := ⟨_, rfl⟩
      have cE := Calls.in_class (w := wr) (fun w' _ => eqClerk_ok p1 p2 p3 p4 p5 p6 q1 q2 q3 q4 q5 q6 w')
      rw [← hres] at cE
      have HRES := Lib.hid hres
      clear hres
      go_wp2
      refine wp_region_quiet_below mixed (by kernel_rfl) ?_
      repeat (quiet_step (first | exact cE _ _))
      refine wpQuiet_nil ?_
      intro _ hw'
      obtain ⟨⟨dq, osq⟩, hw''⟩ := hw'
      subst hw''
      clear cE x0 y0 x1 y1 x2 y2 x3 y3 x4 y4 x5 y5
      have hq := hE.regrown dq osq
      cases res with
      | true =>
        go_wp2
        go_roundw
        case rel =>
          refine ⟨k + 1, by omega, by go_num, fun j hj => ?_, hq⟩
          by_cases hjk : j < k
          · exact HALL.out j hjk
          · have : j = k := by omega
            subst this
            have := of_decide_eq_true HRES.out.symm
            rw [List.getElem?_eq_getElem hka, List.getElem?_eq_getElem hkb, HXA.out, HXB.out, this]
        case measure => simp [intOf]; omega
      | false =>
        go_wp2
        go_ret
        refine ⟨ret_bool ?_, hq⟩
        have h3 := of_decide_eq_false HRES.out.symm
        refine (decide_eq_false ?_).symm
        rintro rfl
        exact h3 (HXA.out.symm.trans HXB.out)
    · go_wp2
      go_ret
      refine ⟨ret_bool (decide_eq_true ?_).symm, hE⟩
      apply List.ext_getElem?
      intro j
      by_cases hj : j < k
      · exact HALL.out j hj
      · have := HA.out
        have := HB.out
        rw [List.getElem?_eq_none (by omega), List.getElem?_eq_none (by omega)]

set_option maxHeartbeats 400000 in
theorem szClerk_ok (r : Clk) (left : Int) (w : World) (hn : r.na.length ≤ maxLen) (h0 : 0 ≤ left) (h1 : left ≤ 1048576) :
    Calls Tryd.prog 13 #[.agg #[.int .i64 r.id, .string ⟨r.na.toArray⟩, .int .i64 r.ri, .int .i64 r.fr, .int .i64 r.un, .int .i64 r.st], .int .i64 left] w fun e w' => e = .returned (.int .i64 (szL left r.na.length)) ∧ Ext w w' := by
  obtain ⟨r0, r1, r2, r3, r4, r5⟩ := r
  simp only at hn ⊢
  unfold maxLen at hn
  by_cases h : (r1.length : Int) ≤ left
  · have HR := Lib.hid (szL_le h)
    go_enter Tryd.func13, Tryd.ntmps13
    go_wp2
    go_ret
    exact ⟨ret_int (by rw [HR.out]), (Ext.refl _).alloc _⟩
  · have HR := Lib.hid (szL_gt h)
    go_enter Tryd.func13, Tryd.ntmps13
    go_wp2
    go_ret
    exact ⟨ret_int (by rw [HR.out]), (Ext.refl _).alloc _⟩
set_option maxHeartbeats 1000000 in
theorem szClerkS_rd (l : List Clk) (v : Value) (left : Int) (w : World) (hv : Reads w 6 v l.length (l.flatMap Clk.enc)) (hn : l.length ≤ maxLen) (hll : ∀ p ∈ l, p.na.length ≤ maxLen) (h0 : 0 ≤ left) (h1 : left ≤ 1048576) :
    Calls Tryd.prog 17 #[v, .int .i64 left] w fun e w' => e = .returned (.int .i64 (szL left (l.length + Clk.wt l))) ∧ Ext w w' := by
  obtain ⟨a, cap, rfl⟩ := hv.shape
  unfold maxLen at hn
  have HLL := Lib.hid hll
  clear hll
  obtain ⟨W, hW⟩ : ∃ W, Clk.wt l = W := ⟨_, rfl⟩
  rw [hW]
  have HW := Lib.hid hW
  clear hW
  by_cases hb : (l.length : Int) ≤ left
  case neg =>
    have HR : Hid (szL left (l.length + W) = -1) := (szL_gt (by omega) : szL left (l.length + W) = -1)
    go_enter Tryd.func17, Tryd.ntmps17
    go_wp2
    go_ret
    exact ⟨ret_int HR.out.symm, Ext.refl _⟩
  go_enter Tryd.func17, Tryd.ntmps17
  go_wp2
  go_loopw [1, 5] (fun le i wr => ∃ k : Nat, k ≤ l.length ∧ i = .int .i64 k ∧ le = .int .i64 (left - l.length - (Clk.wt (l.take k) : Nat)) ∧ ((l.length : Int) + (Clk.wt (l.take k) : Nat) ≤ left) ∧ Ext w wr) (fun _ i _ => l.length - (intOf i).toNat)
  case atStart => exact ⟨0, Nat.zero_le _, rfl, by simp [Clk.wt], by simp [Clk.wt]; omega, Ext.refl _⟩
  case round =>
    obtain ⟨k, hk, rfl, rfl, hw, hE⟩ := hrel
    by_cases hlt : k < l.length
    · have hv1 := hv.mono hE
      obtain ⟨b, off, rfl, hc⟩ := Reads.elems Clk.enc_len hv1 (by omega)
      obtain ⟨r, hx⟩ := get_of_lt hlt
      have c0 := hc k _ hx 0 _ rfl
      have c1 := hc k _ hx 1 _ rfl
      have c2 := hc k _ hx 2 _ rfl
      have c3 := hc k _ hx 3 _ rfl
      have c4 := hc k _ hx 4 _ rfl
      have c5 := hc k _ hx 5 _ rfl
      rw [Nat.add_zero] at c0
      have hln := HLL.out _ (List.mem_of_getElem? hx)
      have HS := Lib.hid (Clk.wt_step l k r hx)
      have hle := Clk.wt_le l (k + 1)
      rw [HS.out, HW.out] at hle
      obtain ⟨u, hu⟩ : ∃ u, Clk.wt (l.take k) = u := ⟨_, rfl⟩
      rw [hu] at hw hle HS ⊢
      clear hu hc hx hv1
      have HC := szClerk_ok r (left - (l.length : Int) - (u : Nat)) wr hln (by omega) (by omega)
      go_wp2_with fail
      refine HC.mono ?_
      rintro e w2 ⟨rfl, E2⟩
      by_cases hq : (r.na.length : Int) ≤ left - (l.length : Int) - (u : Nat)
      · have HR := Lib.hid (szL_le hq)
        have hp : ¬ left - (l.length : Int) - (u : Nat) - (r.na.length : Int) < 0 := by omega
        rw [HR.out]
        go_wp2
        go_roundw
        case rel => exact ⟨k + 1, by omega, by go_num, by rw [HS.out]; exact congrArg (Value.int IntKind.i64) (by omega), by rw [HS.out]; omega, Ext.trans hE E2⟩
        case measure => simp [intOf]; omega
      · have HR := Lib.hid (szL_gt hq)
        have HF : Hid (szL left (l.length + W) = -1) := (szL_gt (by omega) : szL left (l.length + W) = -1)
        rw [HR.out]
        go_wp2
        go_ret
        exact ⟨ret_int HF.out.symm, Ext.trans hE E2⟩
    · have hkn : l.take k = l := List.take_of_length_le (by omega)
      have hw2 := HW.out
      rw [hkn, hw2] at hw ⊢
      have HF : Hid (szL left (l.length + W) = left - l.length - (W : Nat)) := (by rw [szL_le (by omega)]; omega : szL left (l.length + W) = left - l.length - (W : Nat))
      clear hkn hw2
      go_wp2
      go_ret
      exact ⟨ret_int HF.out.symm, hE⟩
set_option maxHeartbeats 4000000 in
theorem markClerkS_ok (base hi n : Nat) (v : Value) (cs : List Value) (k0 : Int) (w : World) (hv : w.ownsRow base 26 6 v n cs) (hhi : ∀ j, v.ownBlock = some j → j < hi) (hn : n ≤ 1048576) (hk0 : 0 ≤ k0) (hk1 : k0 ≤ 1048576 * 1048576) :
    Calls Tryd.prog 30 #[v, .int .i64 k0] w (RetMarkedC w base hi 26 v n k0) := by
  rcases owns_cases hv with ⟨rfl, rfl⟩ | ⟨g, cap, rfl, hg, hgs, hnc, hcm, hfil⟩
  · skip
    go_enter Tryd.func30, Tryd.ntmps30
    go_wp2
    go_loopw [1, 5] (fun kk i wr => kk = .int .i64 k0 ∧ i = .int .i64 0 ∧ wr = w) (fun _ _ _ => 0)
    case atStart => exact ⟨rfl, rfl, rfl⟩
    case round =>
      obtain ⟨rfl, rfl, rfl⟩ := hrel
      go_wp2
      go_ret
      exact ⟨by simp, by simpa [clkCells] using World.ownsRow_nil _ base 26 6, Turned.refl _ _ _⟩
  have HCM := Lib.hid hcm
  have hgh : g < hi := hhi g rfl
  clear hcm hv hhi
  go_enter Tryd.func30, Tryd.ntmps30
  go_wp2
  go_loopw [1, 5] (fun kk i wr => ∃ k : Nat, k ≤ n ∧ i = .int .i64 k ∧ kk = .int .i64 (k0 + (k : Int) * 6) ∧ Filled wr g 26 (cap * 6) (clkCells k0 (k * 6)) ∧ Turned base hi w wr) (fun _ i _ => n - (intOf i).toNat)
  case atStart => exact ⟨0, Nat.zero_le _, rfl, by simp, hfil, Turned.refl _ _ _⟩
  case round =>
    obtain ⟨k, hk, rfl, rfl, hfl, hT⟩ := hrel
    by_cases hlt : k < n
    · have hcap : k * 6 + 6 ≤ cap * 6 := by omega
      obtain ⟨z0, hz0⟩ := hfl.cell (i := k * 6) (by omega)
      have f0 := hfl.frozen (k * 6)
      have e3 : (clkCells k0 (k * 6)).length = k * 6 := clkCells_length _ _
      have p0 := hfl.put' e3 (by omega) (.int .i64 (k0 + (k : Int) * 6))
      obtain ⟨w1, hw1⟩ : ∃ w1, w1 = wr.setCell ⟨g, k * 6, none⟩ (.int .i64 (k0 + (k : Int) * 6)) := ⟨_, rfl⟩
      have T1 : Turned base hi w w1 := by rw [hw1]; exact hT.setCell hg hgh _
      rw [← hw1] at p0
      have HE3 := Lib.hid e3
      clear e3
      go_upto_region 6 with fail
      rw [← hw1]
      clear hw1 hz0 f0
      go_wp2_with fail
      refine (markText_ok (k0 + (k : Int) * 6 + 1) _ (by omega)).mono ?_
      rintro e w2 ⟨rfl, E2⟩
      have p0 := p0.ext E2
      have T2 := Turned.ext T1 E2
      obtain ⟨z1, hz1⟩ := p0.cell (i := k * 6 + 1) (by omega)
      obtain ⟨z2, hz2⟩ := p0.cell (i := k * 6 + 2) (by omega)
      obtain ⟨z3, hz3⟩ := p0.cell (i := k * 6 + 3) (by omega)
      obtain ⟨z4, hz4⟩ := p0.cell (i := k * 6 + 4) (by omega)
      obtain ⟨z5, hz5⟩ := p0.cell (i := k * 6 + 5) (by omega)
      have f1 := p0.frozen (k * 6 + 1)
      have f2 := p0.frozen (k * 6 + 2)
      have f3 := p0.frozen (k * 6 + 3)
      have f4 := p0.frozen (k * 6 + 4)
      have f5 := p0.frozen (k * 6 + 5)
      go_wp2
      go_roundw
      case rel =>
        refine ⟨k + 1, by omega, by go_num, congrArg (Value.int IntKind.i64) (by omega), ?_, ((((T2.setCell hg hgh _).setCell hg hgh _).setCell hg hgh _).setCell hg hgh _).setCell hg hgh _⟩
        have e3 := HE3.out
        have p1 := p0.put' (i := k * 6 + 1) (by simp [e3]) (by omega) (.string ⟨(markB (k0 + (k : Int) * 6 + 1)).toArray⟩)
        have p2 := p1.put' (i := k * 6 + 2) (by simp [e3]) (by omega) (.int .i64 (k0 + (k : Int) * 6 + 1 + 1))
        have p3 := p2.put' (i := k * 6 + 3) (by simp [e3]) (by omega) (.int .i64 (k0 + (k : Int) * 6 + 1 + 1 + 1))
        have p4 := p3.put' (i := k * 6 + 4) (by simp [e3]) (by omega) (.int .i64 (k0 + (k : Int) * 6 + 1 + 1 + 1 + 1))
        have p5 := p4.put' (i := k * 6 + 5) (by simp [e3]) (by omega) (.int .i64 (k0 + (k : Int) * 6 + 1 + 1 + 1 + 1 + 1))
        rw [clkCells_step k0 k]
        simpa using p5
      case measure => simp [intOf]; omega
    · go_wp2
      go_ret
      have hkn : k = n := by omega
      subst hkn
      exact ⟨ret_int (by omega), hfl.owns_cap (clkCells_length _ _) hg hnc HCM.out, hT⟩
set_option maxHeartbeats 4000000 in
theorem heldClerkS_ok (n : Nat) (v : Value) (k0 : Int) (w : World) (hv : Reads w 6 v n (clkCells k0 (n * 6))) (hn : n ≤ 1048576) (hk0 : 0 ≤ k0) (hk1 : k0 ≤ 1048576 * 1048576) :
    Calls Tryd.prog 31 #[v, .int .i64 k0] w fun e w' => e = .returned (.int .i64 (k0 + (n * 6 : Nat))) ∧ Ext w w' := by
  have mixed : Tryd.prog.follows .mixedOrders = true := by kernel_rfl
  obtain ⟨a, cap, rfl⟩ := hv.shape
  go_enter Tryd.func31, Tryd.ntmps31
  go_wp2
  go_loopw [1, 5] (fun kk i wr => ∃ k : Nat, k ≤ n ∧ i = .int .i64 k ∧ kk = .int .i64 (k0 + (k : Int) * 6) ∧ Ext w wr) (fun _ i _ => n - (intOf i).toNat)
  case atStart => exact ⟨0, Nat.zero_le _, rfl, by simp, Ext.refl _⟩
  case round =>
    obtain ⟨k, hk, rfl, rfl, hE⟩ := hrel
    by_cases hlt : k < n
    · obtain ⟨_, b, off, rfl, hc⟩ := (hv.mono hE).at (by omega)
      have c0 := clk_at hc (i := k * 6) (by omega)
      have c1 := clk_at hc (i := k * 6 + 1) (by omega)
      have c2 := clk_at hc (i := k * 6 + 2) (by omega)
      have c3 := clk_at hc (i := k * 6 + 3) (by omega)
      have c4 := clk_at hc (i := k * 6 + 4) (by omega)
      have c5 := clk_at hc (i := k * 6 + 5) (by omega)
      rw [clkCell_0] at c0
      rw [clkCell_1, ← Nat.add_assoc] at c1
      rw [clkCell_2, ← Nat.add_assoc] at c2
      rw [clkCell_3, ← Nat.add_assoc] at c3
      rw [clkCell_4, ← Nat.add_assoc] at c4
      rw [clkCell_5, ← Nat.add_assoc] at c5
      clear hc
      obtain ⟨m0, hm0⟩ : ∃ m, k0 + (k : Int) * 6 = m := ⟨_, rfl⟩
      have hmb : 0 ≤ m0 ∧ m0 ≤ 1048576 * 1048576 + 1048576 * 6 := by omega
      have HM := Lib.hid hm0
      rw [hm0] at c0 c1 c2 c3 c4 c5 ⊢
      clear hm0
      have q0 : (m0 != m0) = false := by simp
      have q2 : (m0 + 1 + 1 != m0 + 1 + 1) = false := by simp
      have q3 : (m0 + 1 + 1 + 1 != m0 + 1 + 1 + 1) = false := by simp
      have q4 : (m0 + 1 + 1 + 1 + 1 != m0 + 1 + 1 + 1 + 1) = false := by simp
      have q5 : (m0 + 1 + 1 + 1 + 1 + 1 != m0 + 1 + 1 + 1 + 1 + 1) = false := by simp
      have cM := Calls.in_class (w := wr) (fun w' _ => markText_ok (m0 + 1) w' (by omega))
      have x1 := cell_in_class c1
      go_upto_region 7 with fail
      go_cut [28] (fun z wx => z = .bool false ∧ Ext wr wx)
      case first =>
        refine wp_region_quiet_below mixed (by kernel_rfl) ?_
        repeat (first | go_big_quiet_step (exact cM _ _) | quiet_step (exact cM _ _))
        refine wpQuiet_nil ?_
        intro _ hw'
        obtain ⟨⟨dq, osq⟩, hw''⟩ := hw'
        subst hw''
        clear cM x1
        go_wp2
        go_meet
        exact ⟨congrArg Value.bool (by simp), (Ext.refl wr).regrown dq osq⟩
      case rest =>
      obtain ⟨rfl, E2⟩ := hcut
      have c2 := E2.cell c2
      have c3 := E2.cell c3
      have c4 := E2.cell c4
      have c5 := E2.cell c5
      clear x1 cM
      go_wp2
      go_roundw
      case rel => exact ⟨k + 1, by omega, by go_num, congrArg (Value.int IntKind.i64) (by have := HM.out; omega), Ext.trans hE E2⟩
      case measure => simp [intOf]; omega
    · go_wp2
      go_ret
      have hkn : k = n := by omega
      subst hkn
      exact ⟨ret_int (by omega), hE⟩

end Go.Proofs.YtlablieekijgoaaDoor
