/- What the changes of one clerk of a list compute; no condition beyond the lengths that are named. -/
import Derived.Test.YtlablieekijgoaaDoorGiveData
import Derived.Test.YtlablieekijgoaaDoorRights
import Derived.Test.YtlablieekijgoaaDoorAppR
import Derived.RegionTactic
import Derived.ChangeAlike
namespace Go.Proofs.YtlablieekijgoaaDoor
open Go.RowKit Go.Sort Go.Rd

set_option maxHeartbeats 1000000 in
theorem l11Right_ok (r : Int) (w : World) : Calls Tryd.prog 65 #[.int .i64 r] w fun e w' => e = .returned (.bool (rightB r)) ∧ w = w' := by
  by_cases h1 : r = 1
  · subst h1
    go_enter Tryd.func65, Tryd.ntmps65
    go_wp2
    go_ret
    exact ⟨rfl, rfl⟩
  by_cases h2 : r = 2
  · subst h2
    go_enter Tryd.func65, Tryd.ntmps65
    go_wp2
    go_ret
    exact ⟨rfl, rfl⟩
  by_cases h3 : r = 4
  · subst h3
    go_enter Tryd.func65, Tryd.ntmps65
    go_wp2
    go_ret
    exact ⟨rfl, rfl⟩
  have HB := Lib.hid (show rightB r = decide (r = 8) by unfold rightB; rw [decide_eq_false h1, decide_eq_false h2, decide_eq_false h3]; rfl)
  have q1 : (r == 1) = false := beq_eq_false_iff_ne.2 h1
  have q2 : (r == 2) = false := beq_eq_false_iff_ne.2 h2
  have q3 : (r == 4) = false := beq_eq_false_iff_ne.2 h3
  go_enter Tryd.func65, Tryd.ntmps65
  go_wp2
  go_ret
  rw [HB.out]
  exact ⟨rfl, rfl⟩
set_option maxHeartbeats 1000000 in
theorem isRight_ok (r : Int) (w : World) : Calls Tryd.prog 66 #[.int .i64 r] w fun e w' => e = .returned (.bool (rightB r)) ∧ w = w' := by
  by_cases h1 : r = 1
  · subst h1
    go_enter Tryd.func66, Tryd.ntmps66
    go_wp2
    go_ret
    exact ⟨rfl, rfl⟩
  by_cases h2 : r = 2
  · subst h2
    go_enter Tryd.func66, Tryd.ntmps66
    go_wp2
    go_ret
    exact ⟨rfl, rfl⟩
  by_cases h3 : r = 4
  · subst h3
    go_enter Tryd.func66, Tryd.ntmps66
    go_wp2
    go_ret
    exact ⟨rfl, rfl⟩
  have HB := Lib.hid (show rightB r = decide (r = 8) by unfold rightB; rw [decide_eq_false h1, decide_eq_false h2, decide_eq_false h3]; rfl)
  have q1 : (r == 1) = false := beq_eq_false_iff_ne.2 h1
  have q2 : (r == 2) = false := beq_eq_false_iff_ne.2 h2
  have q3 : (r == 4) = false := beq_eq_false_iff_ne.2 h3
  go_enter Tryd.func66, Tryd.ntmps66
  go_wp2
  go_ret
  rw [HB.out]
  exact ⟨rfl, rfl⟩
set_option maxHeartbeats 4000000 in
theorem l11With_ok (l : List Clk) (i : Nat) (x o : Clk) (v : Value) (w : World) (hv : Reads w 6 v l.length (l.flatMap Clk.enc)) (hl : l.length ≤ 1048576) (hll : ∀ p ∈ l, p.na.length ≤ maxLen) (ho : l[i]? = some o) (hn : x.na.length ≤ maxLen) :
    Calls Tryd.prog 61 #[v, .int .i64 i, .agg #[.int .i64 x.id, .string ⟨x.na.toArray⟩, .int .i64 x.ri, .int .i64 x.fr, .int .i64 x.un, .int .i64 x.st]] w (RetReadB w 6 (keepC (l.set i x)).length ((keepC (l.set i x)).flatMap Clk.enc) (goodC (l.set i x))) := by
  have hi := (List.getElem?_eq_some_iff.1 ho).1
  obtain ⟨a, cap, rfl⟩ := hv.shape
  have HV := Lib.hid hv
  obtain ⟨b, off, rfl, hc⟩ := Reads.elem Clk.enc_len hv hi
  have hHC : ∀ o' : Obj, ∀ w2 : World, Ext w w2 → ∀ j u, (l.flatMap Clk.enc)[j]? = some u → (w2.alloc o').cell? ((⟨b, off, none⟩ : Addr).add j) = some u := by
    intro o' w2 e2 j u hu
    have hj := (List.getElem?_eq_some_iff.1 hu).1
    have hlen := flat_length Clk.enc 6 Clk.enc_len l
    obtain ⟨_, b', off', ha, hc⟩ := hv.at (by omega)
    simp only [Option.some.injEq, Addr.mk.injEq, and_true] at ha
    obtain ⟨rfl, rfl⟩ := ha
    have := hc j (by omega)
    rw [hu] at this
    have hadd : (⟨b, off, none⟩ : Addr).add j = ⟨b, off + j, none⟩ := by unfold Addr.add; split <;> simp_all
    rw [hadd]
    exact (e2.alloc o').cell this
  have HC := Lib.hid hHC
  clear hHC hc hv
  obtain ⟨w2, hw2⟩ : ∃ w2, w2 = w.alloc (.cells #[.int .i64 x.id, .string ⟨x.na.toArray⟩, .int .i64 x.ri, .int .i64 x.fr, .int .i64 x.un, .int .i64 x.st] 26) := ⟨_, rfl⟩
  have E2 : Ext w w2 := by rw [hw2]; exact (Ext.refl w).alloc _
  have hs2 : w2.heap.size = w.heap.size + 1 := by rw [hw2]; simp
  have k0 : w2.cell? ⟨w.heap.size, 0, none⟩ = some (.int .i64 x.id) := by rw [hw2]; simp
  have k1 : w2.cell? ⟨w.heap.size, 1, none⟩ = some (.string ⟨x.na.toArray⟩) := by rw [hw2]; simp
  have k2 : w2.cell? ⟨w.heap.size, 2, none⟩ = some (.int .i64 x.ri) := by rw [hw2]; simp
  have k3 : w2.cell? ⟨w.heap.size, 3, none⟩ = some (.int .i64 x.fr) := by rw [hw2]; simp
  have k4 : w2.cell? ⟨w.heap.size, 4, none⟩ = some (.int .i64 x.un) := by rw [hw2]; simp
  have k5 : w2.cell? ⟨w.heap.size, 5, none⟩ = some (.int .i64 x.st) := by rw [hw2]; simp
  go_enter Tryd.func61, Tryd.ntmps61
  go_wp2_with (at_builtin; rw [← hw2]; refine wpl_appendN w2 (w2.alloc (.cells #[] 26)) rfl _ _ 32 rfl 26 _ 6 56 Tryd.underlying32 Tryd.infoSClerk rfl (by decide) (by decide) _ 0 [] ?c0 (owns_empty w2 w2.heap.size _ _ (Nat.le_refl _)) ⟨b, off, none⟩ l.length cap (l.flatMap Clk.enc) ?c5 rfl ?c1 ?c2 ?c3 ?c4 ?_)
  case c0 => exact (Ext.refl w2).alloc _
  case c1 => exact flat_length Clk.enc 6 Clk.enc_len l
  case c2 => exact HC.out _ _ E2
  case c3 => exact flat_one Clk.one l
  case c4 => omega
  case c5 => first | rfl | (rw [hs2]; rfl)
  intro v' w3 o3 E3
  try simp only [List.nil_append, Nat.zero_add] at o3
  replace E3 : Ext w2 w3 := by rw [hw2]; exact E3
  clear hw2
  have E3' := Ext.trans E2 E3
  replace k0 := E3.cell k0
  replace k1 := E3.cell k1
  replace k2 := E3.cell k2
  replace k3 := E3.cell k3
  replace k4 := E3.cell k4
  replace k5 := E3.cell k5
  rcases owns_cases2 o3 with ⟨_, h0⟩ | ⟨g, cap3, rfl, hg, hgs, hnc, hcm, hfil⟩
  · omega
  obtain ⟨z0, hz0⟩ := hfil.cell (i := i * 6) (by omega)
  obtain ⟨z1, hz1⟩ := hfil.cell (i := i * 6 + 1) (by omega)
  obtain ⟨z2, hz2⟩ := hfil.cell (i := i * 6 + 2) (by omega)
  obtain ⟨z3, hz3⟩ := hfil.cell (i := i * 6 + 3) (by omega)
  obtain ⟨z4, hz4⟩ := hfil.cell (i := i * 6 + 4) (by omega)
  obtain ⟨z5, hz5⟩ := hfil.cell (i := i * 6 + 5) (by omega)
  have f0 := hfil.frozen (i * 6)
  have f1 := hfil.frozen (i * 6 + 1)
  have f2 := hfil.frozen (i * 6 + 2)
  have f3 := hfil.frozen (i * 6 + 3)
  have f4 := hfil.frozen (i * 6 + 4)
  have f5 := hfil.frozen (i * 6 + 5)
  obtain ⟨w4, hw4⟩ : ∃ w4, w4 = ((((((w3.setCell ⟨g, i * 6, none⟩ (.int .i64 x.id)).setCell ⟨g, i * 6 + 1, none⟩ (.string ⟨x.na.toArray⟩)).setCell ⟨g, i * 6 + 2, none⟩ (.int .i64 x.ri)).setCell ⟨g, i * 6 + 3, none⟩ (.int .i64 x.fr)).setCell ⟨g, i * 6 + 4, none⟩ (.int .i64 x.un)).setCell ⟨g, i * 6 + 5, none⟩ (.int .i64 x.st)) := ⟨_, rfl⟩
  have p4 : Filled w4 g 26 (cap3 * 6) ((l.set i x).flatMap Clk.enc) := by
    have := ((((((hfil.set (i * 6) (.int .i64 x.id)).set (i * 6 + 1) (.string ⟨x.na.toArray⟩)).set (i * 6 + 2) (.int .i64 x.ri)).set (i * 6 + 3) (.int .i64 x.fr)).set (i * 6 + 4) (.int .i64 x.un)).set (i * 6 + 5) (.int .i64 x.st))
    rw [clk_set6 x ho, ← hw4] at this
    exact this
  have hgw : w.heap.size ≤ g := by first | omega | (simp at hg; omega)
  have E4 : Ext w w4 := by rw [hw4]; exact (((((E3'.setCell hgw _).setCell hgw _).setCell hgw _).setCell hgw _).setCell hgw _).setCell hgw _
  have o4 : w4.ownsRow w.heap.size 26 6 (.slice (some ⟨g, 0, none⟩) (l.set i x).length cap3) (l.set i x).length ((l.set i x).flatMap Clk.enc) :=
    p4.owns_cap (flat_length Clk.enc 6 Clk.enc_len _) hgw (by rw [List.length_set]; exact hnc) hcm
  have HLL := Lib.hid (set_na (i := i) hll hn)
  have hl4 : (l.set i x).length ≤ 1048576 := by rw [List.length_set]; exact hl
  have HG := l11Good_ok (l.set i x) _ w4 (Reads.of_owns o4) hl4 HLL.out
  rw [List.length_set] at HG o4
  clear hcm hfil p4 o3
  go_wp2_with fail
  rw [← hw4]
  clear hw4 hz0 hz1 hz2 hz3 hz4 hz5 f0 f1 f2 f3 f4 f5 k0 k1 k2 k3 k4 k5
  refine HG.mono ?_
  rintro e w5 ⟨rfl, E5⟩
  have E5' := Ext.trans E4 E5
  have o5 := E5.owns o4
  cases t1 : goodC (l.set i x)
  case false =>
    have HN := Lib.hid (keepC_no t1)
    go_wp2
    go_ret2
    rw [HN.out, t1]
    exact ⟨_, rfl, (OutR.empty w w 26 6 _).reads.mono (E5'.alloc _), E5'.alloc _⟩
  have HN := Lib.hid (keepC_yes t1)
  go_wp2
  go_ret2
  rw [HN.out, t1, List.length_set]
  exact ⟨_, rfl, Reads.of_owns o5, E5'⟩
set_option maxHeartbeats 4000000 in
theorem specStandFor_ok (l : List Clk) (id r : Int) (v : Value) (w : World) (hv : Reads w 6 v l.length (l.flatMap Clk.enc)) (hl : l.length ≤ 1048576) (hll : ∀ p ∈ l, p.na.length ≤ maxLen) :
    Calls Tryd.prog 28 #[v, .int .i64 id, .int .i64 r] w (RetReadB w 6 (chL l true id (stF r)).length ((chL l true id (stF r)).flatMap Clk.enc) (chB l true id (stF r))) := by
  obtain ⟨a, cap, rfl⟩ := hv.shape
  have HLL := Lib.hid hll
  obtain ⟨N, hN⟩ : ∃ N, chL l true id (stF r) = N := ⟨_, rfl⟩
  obtain ⟨B, hB⟩ : ∃ B, chB l true id (stF r) = B := ⟨_, rfl⟩
  rw [hN, hB]
  have HN := Lib.hid hN
  have HB := Lib.hid hB
  clear hll hN hB
  go_enter Tryd.func28, Tryd.ntmps28
  go_wp2_with fail
  refine (l11Find_ok l id _ _ hv hl).mono ?_
  rintro e w3 ⟨rfl, E3⟩
  go_wp2_with fail
  refine (l11Good_ok l _ _ (hv.mono E3) hl HLL.out).mono ?_
  rintro e w4 ⟨rfl, F4⟩
  have E4 := Ext.trans E3 F4
  cases t1 : goodC l
  case false =>
    have HF := Lib.hid (ch_no (l := l) (pre := true) (id := id) (f := stF r) (by rw [t1]; rfl))
    obtain rfl := HN.out.symm.trans HF.out.1
    obtain rfl := HB.out.symm.trans HF.out.2
    go_wp2
    go_ret2
    exact ⟨_, rfl, (OutR.empty w w 26 6 _).reads.mono (E4.alloc _), E4.alloc _⟩
  rcases atI_cases l id with hj | ⟨j, x, hj, hx, -⟩
  · have HF := Lib.hid (ch_no (l := l) (pre := true) (id := id) (f := stF r) (by rw [t1, hj]; rfl))
    rw [hj]
    obtain rfl := HN.out.symm.trans HF.out.1
    obtain rfl := HB.out.symm.trans HF.out.2
    go_wp2
    go_ret2
    exact ⟨_, rfl, (OutR.empty w w 26 6 _).reads.mono (E4.alloc _), E4.alloc _⟩
  rw [hj]
  have hjl : j < l.length := (List.getElem?_eq_some_iff.1 hx).1
  have HV := Lib.hid (hv.mono E4)
  obtain ⟨b, off, rfl, hc⟩ := Reads.elems Clk.enc_len HV.out (by omega)
  have c0 := hc j _ hx 0 _ rfl
  have c1 := hc j _ hx 1 _ rfl
  have c2 := hc j _ hx 2 _ rfl
  have c3 := hc j _ hx 3 _ rfl
  have c4 := hc j _ hx 4 _ rfl
  have c5 := hc j _ hx 5 _ rfl
  simp only [Nat.add_zero] at c0
  have hxn := HLL.out x (List.mem_of_getElem? hx)
  have HX := Lib.hid hx
  have hri := okClk_ri (goodC_at t1 hx).1
  clear hc hv
  have HY := Lib.hid (ch_yes (pre := true) (f := stF r) t1 hj hx rfl)
  have hfx : stF r x = { x with st := r } := rfl
  rw [hfx] at HY
  obtain rfl := HN.out.symm.trans HY.out.1
  obtain rfl := HB.out.symm.trans HY.out.2
  clear hj hx hfx
  have eW : Ext w4 (w4.alloc (.cells #[.int .i64 x.id, .string ⟨x.na.toArray⟩, .int .i64 x.ri, .int .i64 x.fr, .int .i64 x.un, .int .i64 (r)] 26)) := (Ext.refl w4).alloc _
  go_wp2_with fail
  refine (l11With_ok l j ({ x with st := r }) x _ _ (HV.out.mono eW) hl HLL.out HX.out hxn).mono ?_
  rintro e w6 ⟨v6, rfl, o6, E6⟩
  have E6' := Ext.trans E4 (Ext.trans eW E6)
  go_wp2
  go_ret2
  exact ⟨_, rfl, o6, E6'⟩
set_option maxHeartbeats 4000000 in
theorem specGiveRight_ok (l : List Clk) (id r : Int) (v : Value) (w : World) (hv : Reads w 6 v l.length (l.flatMap Clk.enc)) (hl : l.length ≤ 1048576) (hll : ∀ p ∈ l, p.na.length ≤ maxLen) :
    Calls Tryd.prog 32 #[v, .int .i64 id, .int .i64 r] w (RetReadB w 6 (chL l (rightB r) id (giveF r)).length ((chL l (rightB r) id (giveF r)).flatMap Clk.enc) (chB l (rightB r) id (giveF r))) := by
  obtain ⟨a, cap, rfl⟩ := hv.shape
  have HLL := Lib.hid hll
  obtain ⟨N, hN⟩ : ∃ N, chL l (rightB r) id (giveF r) = N := ⟨_, rfl⟩
  obtain ⟨B, hB⟩ : ∃ B, chB l (rightB r) id (giveF r) = B := ⟨_, rfl⟩
  rw [hN, hB]
  have HN := Lib.hid hN
  have HB := Lib.hid hB
  clear hll hN hB
  go_enter Tryd.func32, Tryd.ntmps32
  go_wp2_with fail
  refine (l11Find_ok l id _ _ hv hl).mono ?_
  rintro e w3 ⟨rfl, E3⟩
  go_wp2_with fail
  refine (l11Good_ok l _ _ (hv.mono E3) hl HLL.out).mono ?_
  rintro e w4 ⟨rfl, F4⟩
  have E4 := Ext.trans E3 F4
  cases t1 : goodC l
  case false =>
    have HF := Lib.hid (ch_no (l := l) (pre := (rightB r)) (id := id) (f := giveF r) (by rw [t1]; rfl))
    obtain rfl := HN.out.symm.trans HF.out.1
    obtain rfl := HB.out.symm.trans HF.out.2
    go_wp2
    go_ret2
    exact ⟨_, rfl, (OutR.empty w w 26 6 _).reads.mono (E4.alloc _), E4.alloc _⟩
  rcases atI_cases l id with hj | ⟨j, x, hj, hx, -⟩
  · have HF := Lib.hid (ch_no (l := l) (pre := (rightB r)) (id := id) (f := giveF r) (by rw [t1, hj]; rfl))
    rw [hj]
    obtain rfl := HN.out.symm.trans HF.out.1
    obtain rfl := HB.out.symm.trans HF.out.2
    go_wp2
    go_ret2
    exact ⟨_, rfl, (OutR.empty w w 26 6 _).reads.mono (E4.alloc _), E4.alloc _⟩
  rw [hj]
  go_wp2_with fail
  refine (l11Right_ok r _).mono ?_
  rintro e w' ⟨rfl, rfl⟩
  cases t2 : rightB r
  case false =>
    have HF := Lib.hid (ch_no (l := l) (pre := (rightB r)) (id := id) (f := giveF r) (by rw [t1, t2]; simp))
    obtain rfl := HN.out.symm.trans HF.out.1
    obtain rfl := HB.out.symm.trans HF.out.2
    go_wp2
    go_ret2
    exact ⟨_, rfl, (OutR.empty w w 26 6 _).reads.mono (E4.alloc _), E4.alloc _⟩
  have hjl : j < l.length := (List.getElem?_eq_some_iff.1 hx).1
  have HV := Lib.hid (hv.mono E4)
  obtain ⟨b, off, rfl, hc⟩ := Reads.elems Clk.enc_len HV.out (by omega)
  have c0 := hc j _ hx 0 _ rfl
  have c1 := hc j _ hx 1 _ rfl
  have c2 := hc j _ hx 2 _ rfl
  have c3 := hc j _ hx 3 _ rfl
  have c4 := hc j _ hx 4 _ rfl
  have c5 := hc j _ hx 5 _ rfl
  simp only [Nat.add_zero] at c0
  have hxn := HLL.out x (List.mem_of_getElem? hx)
  have HX := Lib.hid hx
  have hri := okClk_ri (goodC_at t1 hx).1
  clear hc hv
  obtain ⟨q, hq⟩ : ∃ q, bits .or .i64 x.ri r = q := ⟨_, rfl⟩
  have HY := Lib.hid (ch_yes (pre := (rightB r)) (f := giveF r) t1 hj hx t2)
  have hfx : giveF r x = { x with ri := q } := by rw [← hq]; rfl
  rw [hfx] at HY
  obtain rfl := HN.out.symm.trans HY.out.1
  obtain rfl := HB.out.symm.trans HY.out.2
  clear hj hx hfx
  have eW : Ext w4 (w4.alloc (.cells #[.int .i64 x.id, .string ⟨x.na.toArray⟩, .int .i64 (q), .int .i64 x.fr, .int .i64 x.un, .int .i64 x.st] 26)) := (Ext.refl w4).alloc _
  go_wp2_with fail
  refine (l11With_ok l j ({ x with ri := q }) x _ _ (HV.out.mono eW) hl HLL.out HX.out hxn).mono ?_
  rintro e w6 ⟨v6, rfl, o6, E6⟩
  have E6' := Ext.trans E4 (Ext.trans eW E6)
  go_wp2
  go_ret2
  exact ⟨_, rfl, o6, E6'⟩
set_option maxHeartbeats 4000000 in
theorem specTakeRight_ok (l : List Clk) (id r : Int) (v : Value) (w : World) (hv : Reads w 6 v l.length (l.flatMap Clk.enc)) (hl : l.length ≤ 1048576) (hll : ∀ p ∈ l, p.na.length ≤ maxLen) :
    Calls Tryd.prog 34 #[v, .int .i64 id, .int .i64 r] w (RetReadB w 6 (chL l (takeP l id r) id (takeF r)).length ((chL l (takeP l id r) id (takeF r)).flatMap Clk.enc) (chB l (takeP l id r) id (takeF r))) := by
  obtain ⟨a, cap, rfl⟩ := hv.shape
  have HLL := Lib.hid hll
  obtain ⟨N, hN⟩ : ∃ N, chL l (takeP l id r) id (takeF r) = N := ⟨_, rfl⟩
  obtain ⟨B, hB⟩ : ∃ B, chB l (takeP l id r) id (takeF r) = B := ⟨_, rfl⟩
  rw [hN, hB]
  have HN := Lib.hid hN
  have HB := Lib.hid hB
  clear hll hN hB
  go_enter Tryd.func34, Tryd.ntmps34
  go_wp2_with fail
  refine (l11Find_ok l id _ _ hv hl).mono ?_
  rintro e w3 ⟨rfl, E3⟩
  go_wp2_with fail
  refine (l11Good_ok l _ _ (hv.mono E3) hl HLL.out).mono ?_
  rintro e w4 ⟨rfl, F4⟩
  have E4 := Ext.trans E3 F4
  cases t1 : goodC l
  case false =>
    have HF := Lib.hid (ch_no (l := l) (pre := (takeP l id r)) (id := id) (f := takeF r) (by rw [t1]; rfl))
    obtain rfl := HN.out.symm.trans HF.out.1
    obtain rfl := HB.out.symm.trans HF.out.2
    go_wp2
    go_ret2
    exact ⟨_, rfl, (OutR.empty w w 26 6 _).reads.mono (E4.alloc _), E4.alloc _⟩
  rcases atI_cases l id with hj | ⟨j, x, hj, hx, -⟩
  · have HF := Lib.hid (ch_no (l := l) (pre := (takeP l id r)) (id := id) (f := takeF r) (by rw [t1, hj]; rfl))
    rw [hj]
    obtain rfl := HN.out.symm.trans HF.out.1
    obtain rfl := HB.out.symm.trans HF.out.2
    go_wp2
    go_ret2
    exact ⟨_, rfl, (OutR.empty w w 26 6 _).reads.mono (E4.alloc _), E4.alloc _⟩
  rw [hj]
  go_wp2_with fail
  refine (l11Right_ok r _).mono ?_
  rintro e w' ⟨rfl, rfl⟩
  cases t2 : rightB r
  case false =>
    have HF := Lib.hid (ch_no (l := l) (pre := (takeP l id r)) (id := id) (f := takeF r) (by rw [t1, takeP, t2]; simp))
    obtain rfl := HN.out.symm.trans HF.out.1
    obtain rfl := HB.out.symm.trans HF.out.2
    go_wp2
    go_ret2
    exact ⟨_, rfl, (OutR.empty w w 26 6 _).reads.mono (E4.alloc _), E4.alloc _⟩
  have hjl : j < l.length := (List.getElem?_eq_some_iff.1 hx).1
  have HV := Lib.hid (hv.mono E4)
  obtain ⟨b, off, rfl, hc⟩ := Reads.elems Clk.enc_len HV.out (by omega)
  have c0 := hc j _ hx 0 _ rfl
  have c1 := hc j _ hx 1 _ rfl
  have c2 := hc j _ hx 2 _ rfl
  have c3 := hc j _ hx 3 _ rfl
  have c4 := hc j _ hx 4 _ rfl
  have c5 := hc j _ hx 5 _ rfl
  simp only [Nat.add_zero] at c0
  have hxn := HLL.out x (List.mem_of_getElem? hx)
  have HX := Lib.hid hx
  have hri := okClk_ri (goodC_at t1 hx).1
  clear hc hv
  obtain ⟨q, hq⟩ : ∃ q, bits .and .i64 x.ri r = q := ⟨_, rfl⟩
  have HTP := Lib.hid (show takeP l id r = decide (q ≠ 0) by unfold takeP; rw [t2, hj, Int.toNat_natCast, List.getD_eq_getElem?_getD, hx, ← hq]; rfl)
  by_cases hq0 : q = 0
  case pos =>
    have HF := Lib.hid (ch_no (l := l) (pre := takeP l id r) (id := id) (f := takeF r) (by rw [HTP.out, hq0]; simp))
    have hqb : (q == 0) = true := by simp [hq0]
    obtain rfl := HN.out.symm.trans HF.out.1
    obtain rfl := HB.out.symm.trans HF.out.2
    clear hq0 hj hx
    go_wp2
    go_ret2
    exact ⟨_, rfl, (OutR.empty w w 26 6 _).reads.mono (E4.alloc _), E4.alloc _⟩
  have hqb : (q == 0) = false := by simp [hq0]
  have t3 : takeP l id r = true := by rw [HTP.out]; simp [hq0]
  have hrm := rightB_mem t2
  have hr4 : 1 ≤ r ∧ r ≤ 8 := by
    simp only [List.mem_cons, List.not_mem_nil, or_false] at hrm; omega
  have hwr : IntKind.i64.wrap (x.ri - r) = x.ri - r := IntWalk.i64_in _ (by omega)
  clear hrm hq0
  have HY := Lib.hid (ch_yes (pre := (takeP l id r)) (f := takeF r) t1 hj hx t3)
  have hfx : takeF r x = { x with ri := x.ri - r } := rfl
  rw [hfx] at HY
  obtain rfl := HN.out.symm.trans HY.out.1
  obtain rfl := HB.out.symm.trans HY.out.2
  clear hj hx hfx
  have eW : Ext w4 (w4.alloc (.cells #[.int .i64 x.id, .string ⟨x.na.toArray⟩, .int .i64 (x.ri - r), .int .i64 x.fr, .int .i64 x.un, .int .i64 x.st] 26)) := (Ext.refl w4).alloc _
  go_wp2_with fail
  refine (l11With_ok l j ({ x with ri := x.ri - r }) x _ _ (HV.out.mono eW) hl HLL.out HX.out hxn).mono ?_
  rintro e w6 ⟨v6, rfl, o6, E6⟩
  have E6' := Ext.trans E4 (Ext.trans eW E6)
  go_wp2
  go_ret2
  exact ⟨_, rfl, o6, E6'⟩
end Go.Proofs.YtlablieekijgoaaDoor
