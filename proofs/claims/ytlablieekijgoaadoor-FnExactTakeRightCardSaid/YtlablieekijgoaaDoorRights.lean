/- What the rights of clerks compute; no condition beyond the lengths that are named. -/
import Derived.Test.YtlablieekijgoaaDoorRightsData
import Derived.Test.YtlablieekijgoaaDoorClksL
namespace Go.Proofs.YtlablieekijgoaaDoor
open Go.RowKit Go.Sort Go.Rd
set_option maxHeartbeats 400000 in
theorem l11On_ok (x : Clk) (day : Int) (w : World) : Calls Tryd.prog 75 #[.agg #[.int .i64 x.id, .string ⟨x.na.toArray⟩, .int .i64 x.ri, .int .i64 x.fr, .int .i64 x.un, .int .i64 x.st], .int .i64 day] w fun e w' => e = .returned (.bool (inB day x.fr x.un)) ∧ Ext w w' := by
  go_enter Tryd.func75, Tryd.ntmps75
  go_wp2_with fail
  refine (l1In_ok day x.fr x.un _).mono ?_
  rintro e w' ⟨rfl, rfl⟩
  go_wp2
  go_ret
  exact ⟨rfl, (Ext.refl _).alloc _⟩
set_option maxHeartbeats 400000 in
theorem l11Sum_ok (x : Int) (w : World) : Calls Tryd.prog 57 #[.int .i64 x] w fun e w' => e = .returned (.bool (inB x 1 15)) ∧ w = w' := by
  go_enter Tryd.func57, Tryd.ntmps57
  go_wp2_with fail
  refine (l1In_ok x 1 15 _).mono ?_
  rintro e w' ⟨rfl, rfl⟩
  go_wp2
  go_ret
  exact ⟨rfl, rfl⟩
set_option maxHeartbeats 400000 in
theorem isNeed_ok (x : Int) (w : World) : Calls Tryd.prog 58 #[.int .i64 x] w fun e w' => e = .returned (.bool (inB x 1 15)) ∧ w = w' := by
  go_enter Tryd.func58, Tryd.ntmps58
  go_wp2_with fail
  refine (within_ok x 1 15 _).mono ?_
  rintro e w' ⟨rfl, rfl⟩
  go_wp2
  go_ret
  exact ⟨rfl, rfl⟩
set_option maxHeartbeats 4000000 in
theorem l11Rights_ok (l : List Clk) (i : Nat) (x : Clk) (day : Int) (v : Value) (w : World) (hv : Reads w 6 v l.length (l.flatMap Clk.enc)) (hl : l.length ≤ 1048576) (hg : goodC l = true) (hx : l[i]? = some x) :
    Calls Tryd.prog 54 #[v, .int .i64 i, .int .i64 day] w fun e w' => e = .returned (.int .i64 (rightsC l x day)) ∧ Ext w w' := by
  have hi := (List.getElem?_eq_some_iff.1 hx).1
  obtain ⟨a, cap, rfl⟩ := hv.shape
  have HV := Lib.hid hv
  obtain ⟨b, off, rfl, hc⟩ := Reads.elems Clk.enc_len hv (by omega)
  obtain ⟨res, hres⟩ : ∃ r, rightsC l x day = r := ⟨_, rfl⟩
  rw [hres]
  have HRES := Lib.hid hres
  clear hres hv
  have HG := Lib.hid hg
  have HX := Lib.hid hx
  have c0 := hc i _ hx 0 _ rfl
  have c1 := hc i _ hx 1 _ rfl
  have c2 := hc i _ hx 2 _ rfl
  have c3 := hc i _ hx 3 _ rfl
  have c4 := hc i _ hx 4 _ rfl
  have c5 := hc i _ hx 5 _ rfl
  simp only [Nat.add_zero] at c0
  have HC := Lib.hid hc
  clear hc hg hx
  obtain ⟨w2, hw2⟩ : ∃ w2, w2 = w.alloc (.cells #[.int .i64 x.id, .string ⟨x.na.toArray⟩, .int .i64 x.ri, .int .i64 x.fr, .int .i64 x.un, .int .i64 x.st] 26) := ⟨_, rfl⟩
  have E2 : Ext w w2 := by rw [hw2]; exact (Ext.refl w).alloc _
  have k0 : w2.cell? ⟨w.heap.size, 0, none⟩ = some (.int .i64 x.id) := by rw [hw2]; simp
  have k1 : w2.cell? ⟨w.heap.size, 1, none⟩ = some (.string ⟨x.na.toArray⟩) := by rw [hw2]; simp
  have k2 : w2.cell? ⟨w.heap.size, 2, none⟩ = some (.int .i64 x.ri) := by rw [hw2]; simp
  have k3 : w2.cell? ⟨w.heap.size, 3, none⟩ = some (.int .i64 x.fr) := by rw [hw2]; simp
  have k4 : w2.cell? ⟨w.heap.size, 4, none⟩ = some (.int .i64 x.un) := by rw [hw2]; simp
  have k5 : w2.cell? ⟨w.heap.size, 5, none⟩ = some (.int .i64 x.st) := by rw [hw2]; simp
  go_enter Tryd.func54, Tryd.ntmps54
  go_wp2_with fail
  rw [← hw2]; clear hw2 c0 c1 c2 c3 c4 c5
  refine (l11On_ok x day _).mono ?_
  rintro e w3 ⟨rfl, F3⟩
  have E3 := Ext.trans E2 F3
  replace k0 := F3.cell k0
  replace k1 := F3.cell k1
  replace k2 := F3.cell k2
  replace k3 := F3.cell k3
  replace k4 := F3.cell k4
  replace k5 := F3.cell k5
  cases t1 : inB day x.fr x.un
  case false =>
    have HF : Hid (res = 0) := Lib.hid (HRES.out.symm.trans (rightsC_off t1))
    go_wp2
    go_ret
    exact ⟨ret_int HF.out.symm, E3⟩
  by_cases hs : 0 < x.st
  case neg =>
    have HF : Hid (res = x.ri) := Lib.hid (HRES.out.symm.trans (rightsC_own t1 hs))
    go_wp2
    go_ret
    exact ⟨ret_int HF.out.symm, E3⟩
  obtain ⟨j, o, hj, ho⟩ := goodC_st HG.out HX.out hs
  have HB := Lib.hid (bOr_in (okClk_ri (goodC_at HG.out HX.out).1) (okClk_ri (goodC_at HG.out ho).1))
  have HR := Lib.hid (HRES.out.symm.trans (rightsC_st t1 hs hj ho))
  obtain ⟨bo, hbo⟩ : ∃ bo, bits .or .i64 x.ri o.ri = bo := ⟨_, rfl⟩
  rw [show bOr x.ri o.ri = bo from hbo] at HB HR
  have hjl : j < l.length := (List.getElem?_eq_some_iff.1 ho).1
  go_wp2_with fail
  refine (l11Find_ok l x.st _ _ (HV.out.mono E3) hl).mono ?_
  rintro e w4 ⟨rfl, F4⟩
  have E4 := Ext.trans E3 F4
  rw [hj]
  replace k0 := F4.cell k0
  replace k1 := F4.cell k1
  replace k2 := F4.cell k2
  replace k3 := F4.cell k3
  replace k4 := F4.cell k4
  replace k5 := F4.cell k5
  have d0 := E4.cell (HC.out j _ ho 0 _ rfl)
  have d1 := E4.cell (HC.out j _ ho 1 _ rfl)
  have d2 := E4.cell (HC.out j _ ho 2 _ rfl)
  have d3 := E4.cell (HC.out j _ ho 3 _ rfl)
  have d4 := E4.cell (HC.out j _ ho 4 _ rfl)
  have d5 := E4.cell (HC.out j _ ho 5 _ rfl)
  simp only [Nat.add_zero] at d0
  clear hj ho
  obtain ⟨w5, hw5⟩ : ∃ w5, w5 = w4.alloc (.cells #[.int .i64 o.id, .string ⟨o.na.toArray⟩, .int .i64 o.ri, .int .i64 o.fr, .int .i64 o.un, .int .i64 o.st] 26) := ⟨_, rfl⟩
  have F5 : Ext w4 w5 := by rw [hw5]; exact (Ext.refl w4).alloc _
  have E5 := Ext.trans E4 F5
  have hlt : w.heap.size < w4.heap.size := block_lt_of_cell k0
  have j0 := F5.cell k0
  have j1 := F5.cell k1
  have j2 := F5.cell k2
  have j3 := F5.cell k3
  have j4 := F5.cell k4
  have j5 := F5.cell k5
  have q0 : w5.cell? ⟨w4.heap.size, 0, none⟩ = some (.int .i64 o.id) := by rw [hw5]; simp
  have q1 : w5.cell? ⟨w4.heap.size, 1, none⟩ = some (.string ⟨o.na.toArray⟩) := by rw [hw5]; simp
  have q2 : w5.cell? ⟨w4.heap.size, 2, none⟩ = some (.int .i64 o.ri) := by rw [hw5]; simp
  have q3 : w5.cell? ⟨w4.heap.size, 3, none⟩ = some (.int .i64 o.fr) := by rw [hw5]; simp
  have q4 : w5.cell? ⟨w4.heap.size, 4, none⟩ = some (.int .i64 o.un) := by rw [hw5]; simp
  have q5 : w5.cell? ⟨w4.heap.size, 5, none⟩ = some (.int .i64 o.st) := by rw [hw5]; simp
  go_wp2_with fail
  rw [← hw5]; clear hw5 k0 k1 k2 k3 k4 k5 d0 d1 d2 d3 d4 d5
  refine (l11On_ok o day _).mono ?_
  rintro e w6 ⟨rfl, F6⟩
  have E6 := Ext.trans E5 F6
  replace j0 := F6.cell j0
  replace j1 := F6.cell j1
  replace j2 := F6.cell j2
  replace j3 := F6.cell j3
  replace j4 := F6.cell j4
  replace j5 := F6.cell j5
  replace q0 := F6.cell q0
  replace q1 := F6.cell q1
  replace q2 := F6.cell q2
  replace q3 := F6.cell q3
  replace q4 := F6.cell q4
  replace q5 := F6.cell q5
  cases t2 : inB day o.fr o.un
  case true =>
    have HF : Hid (res = x.ri) := Lib.hid (by rw [HR.out, t2]; rfl)
    go_wp2
    go_ret
    exact ⟨ret_int HF.out.symm, E6⟩
  go_wp2_with fail
  refine (l11Both_ok bo _).mono ?_
  rintro e w' ⟨rfl, rfl⟩
  cases t3 : bothR bo
  case true =>
    have HF : Hid (res = x.ri) := Lib.hid (by rw [HR.out, t2, t3]; rfl)
    go_wp2
    go_ret
    exact ⟨ret_int HF.out.symm, E6⟩
  have HF : Hid (res = bo) := Lib.hid (by rw [HR.out, t2, t3]; rfl)
  go_wp2
  go_ret
  exact ⟨ret_int HF.out.symm, E6⟩
set_option maxHeartbeats 4000000 in
theorem rightsOn_ok (l : List Clk) (i : Nat) (x : Clk) (day : Int) (v : Value) (w : World) (hv : Reads w 6 v l.length (l.flatMap Clk.enc)) (hl : l.length ≤ 1048576) (hg : goodC l = true) (hx : l[i]? = some x) :
    Calls Tryd.prog 56 #[v, .agg #[.int .i64 x.id, .string ⟨x.na.toArray⟩, .int .i64 x.ri, .int .i64 x.fr, .int .i64 x.un, .int .i64 x.st], .int .i64 day] w fun e w' => e = .returned (.int .i64 (rightsC l x day)) ∧ Ext w w' := by
  have hi := (List.getElem?_eq_some_iff.1 hx).1
  obtain ⟨a, cap, rfl⟩ := hv.shape
  have HV := Lib.hid hv
  obtain ⟨b, off, rfl, hc⟩ := Reads.elems Clk.enc_len hv (by omega)
  obtain ⟨res, hres⟩ : ∃ r, rightsC l x day = r := ⟨_, rfl⟩
  rw [hres]
  have HRES := Lib.hid hres
  clear hres hv
  have HG := Lib.hid hg
  have HX := Lib.hid hx
  have HC := Lib.hid hc
  clear hc hg hx
  obtain ⟨w2, hw2⟩ : ∃ w2, w2 = w.alloc (.cells #[.int .i64 x.id, .string ⟨x.na.toArray⟩, .int .i64 x.ri, .int .i64 x.fr, .int .i64 x.un, .int .i64 x.st] 26) := ⟨_, rfl⟩
  have E2 : Ext w w2 := by rw [hw2]; exact (Ext.refl w).alloc _
  have k0 : w2.cell? ⟨w.heap.size, 0, none⟩ = some (.int .i64 x.id) := by rw [hw2]; simp
  have k1 : w2.cell? ⟨w.heap.size, 1, none⟩ = some (.string ⟨x.na.toArray⟩) := by rw [hw2]; simp
  have k2 : w2.cell? ⟨w.heap.size, 2, none⟩ = some (.int .i64 x.ri) := by rw [hw2]; simp
  have k3 : w2.cell? ⟨w.heap.size, 3, none⟩ = some (.int .i64 x.fr) := by rw [hw2]; simp
  have k4 : w2.cell? ⟨w.heap.size, 4, none⟩ = some (.int .i64 x.un) := by rw [hw2]; simp
  have k5 : w2.cell? ⟨w.heap.size, 5, none⟩ = some (.int .i64 x.st) := by rw [hw2]; simp
  go_enter Tryd.func56, Tryd.ntmps56
  go_wp2_with fail
  rw [← hw2]; clear hw2
  refine (within_ok day x.fr x.un _).mono ?_
  rintro e w' ⟨rfl, rfl⟩
  cases t1 : inB day x.fr x.un
  case false =>
    have HF : Hid (res = 0) := Lib.hid (HRES.out.symm.trans (rightsC_off t1))
    go_wp2
    go_ret
    exact ⟨ret_int HF.out.symm, E2⟩
  by_cases hs : 0 < x.st
  case neg =>
    have HF : Hid (res = x.ri) := Lib.hid (HRES.out.symm.trans (rightsC_own t1 hs))
    go_wp2
    go_ret
    exact ⟨ret_int HF.out.symm, E2⟩
  obtain ⟨j, o, hj, ho⟩ := goodC_st HG.out HX.out hs
  have HB := Lib.hid (bOr_in (okClk_ri (goodC_at HG.out HX.out).1) (okClk_ri (goodC_at HG.out ho).1))
  have HR := Lib.hid (HRES.out.symm.trans (rightsC_st t1 hs hj ho))
  obtain ⟨bo, hbo⟩ : ∃ bo, bits .or .i64 x.ri o.ri = bo := ⟨_, rfl⟩
  rw [show bOr x.ri o.ri = bo from hbo] at HB HR
  have hjl : j < l.length := (List.getElem?_eq_some_iff.1 ho).1
  go_wp2_with fail
  refine (clerkAt_ok l x.st _ _ (HV.out.mono E2) hl).mono ?_
  rintro e w4 ⟨rfl, F4⟩
  have E4 := Ext.trans E2 F4
  rw [hj]
  replace k0 := F4.cell k0
  replace k1 := F4.cell k1
  replace k2 := F4.cell k2
  replace k3 := F4.cell k3
  replace k4 := F4.cell k4
  replace k5 := F4.cell k5
  have d0 := E4.cell (HC.out j _ ho 0 _ rfl)
  have d1 := E4.cell (HC.out j _ ho 1 _ rfl)
  have d2 := E4.cell (HC.out j _ ho 2 _ rfl)
  have d3 := E4.cell (HC.out j _ ho 3 _ rfl)
  have d4 := E4.cell (HC.out j _ ho 4 _ rfl)
  have d5 := E4.cell (HC.out j _ ho 5 _ rfl)
  simp only [Nat.add_zero] at d0
  clear hj ho
  obtain ⟨w5, hw5⟩ : ∃ w5, w5 = w4.alloc (.cells #[.int .i64 o.id, .string ⟨o.na.toArray⟩, .int .i64 o.ri, .int .i64 o.fr, .int .i64 o.un, .int .i64 o.st] 26) := ⟨_, rfl⟩
  have F5 : Ext w4 w5 := by rw [hw5]; exact (Ext.refl w4).alloc _
  have E5 := Ext.trans E4 F5
  have hlt : w.heap.size < w4.heap.size := block_lt_of_cell k0
  have j0 := F5.cell k0
  have j1 := F5.cell k1
  have j2 := F5.cell k2
  have j3 := F5.cell k3
  have j4 := F5.cell k4
  have j5 := F5.cell k5
  have q0 : w5.cell? ⟨w4.heap.size, 0, none⟩ = some (.int .i64 o.id) := by rw [hw5]; simp
  have q1 : w5.cell? ⟨w4.heap.size, 1, none⟩ = some (.string ⟨o.na.toArray⟩) := by rw [hw5]; simp
  have q2 : w5.cell? ⟨w4.heap.size, 2, none⟩ = some (.int .i64 o.ri) := by rw [hw5]; simp
  have q3 : w5.cell? ⟨w4.heap.size, 3, none⟩ = some (.int .i64 o.fr) := by rw [hw5]; simp
  have q4 : w5.cell? ⟨w4.heap.size, 4, none⟩ = some (.int .i64 o.un) := by rw [hw5]; simp
  have q5 : w5.cell? ⟨w4.heap.size, 5, none⟩ = some (.int .i64 o.st) := by rw [hw5]; simp
  go_wp2_with fail
  rw [← hw5]; clear hw5 k0 k1 k2 k3 k4 k5 d0 d1 d2 d3 d4 d5
  refine (within_ok day o.fr o.un _).mono ?_
  rintro e w' ⟨rfl, rfl⟩
  cases t2 : inB day o.fr o.un
  case true =>
    have HF : Hid (res = x.ri) := Lib.hid (by rw [HR.out, t2]; rfl)
    go_wp2
    go_ret
    exact ⟨ret_int HF.out.symm, E5⟩
  go_wp2_with fail
  refine (areRights_ok bo _).mono ?_
  rintro e w' ⟨rfl, rfl⟩
  rw [HB.out, Bool.true_and]
  cases t3 : bothR bo
  case true =>
    have HF : Hid (res = x.ri) := Lib.hid (by rw [HR.out, t2, t3]; rfl)
    go_wp2
    go_ret
    exact ⟨ret_int HF.out.symm, E5⟩
  have HF : Hid (res = bo) := Lib.hid (by rw [HR.out, t2, t3]; rfl)
  go_wp2
  go_ret
  exact ⟨ret_int HF.out.symm, E5⟩
set_option maxHeartbeats 4000000 in
theorem specRightsOn_ok (l : List Clk) (id day : Int) (v : Value) (w : World) (hv : Reads w 6 v l.length (l.flatMap Clk.enc)) (hl : l.length ≤ 1048576) (hll : ∀ p ∈ l, p.na.length ≤ maxLen) :
    Calls Tryd.prog 22 #[v, .int .i64 id, .int .i64 day] w fun e w' => e = .returned (.tuple #[.int .i64 ((rOn l id day).getD 0), .bool (rOn l id day).isSome]) ∧ Ext w w' := by
  obtain ⟨a, cap, rfl⟩ := hv.shape
  obtain ⟨res, hres⟩ : ∃ r, rOn l id day = r := ⟨_, rfl⟩
  rw [hres]
  have HRES := Lib.hid hres
  clear hres
  have HLL := Lib.hid hll
  clear hll
  go_enter Tryd.func22, Tryd.ntmps22
  go_wp2_with fail
  refine (l11Find_ok l id _ _ hv hl).mono ?_
  rintro e w3 ⟨rfl, E3⟩
  go_wp2_with fail
  refine (l11Good_ok l _ _ (hv.mono E3) hl HLL.out).mono ?_
  rintro e w4 ⟨rfl, F4⟩
  have E4 := Ext.trans E3 F4
  cases t1 : goodC l
  case false =>
    have HF : Hid (res = none) := Lib.hid (HRES.out.symm.trans (rOn_no (by rw [t1]; rfl)))
    go_wp2
    go_ret2
    rw [HF.out]
    exact ⟨rfl, E4⟩
  rcases atI_cases l id with hj | ⟨j, x, hj, hx, -⟩
  · rw [hj]
    have HF : Hid (res = none) := Lib.hid (HRES.out.symm.trans (rOn_no (by rw [t1, hj]; rfl)))
    go_wp2
    go_ret2
    rw [HF.out]
    exact ⟨rfl, E4⟩
  rw [hj]
  go_wp2_with fail
  refine (l2Day_ok day _).mono ?_
  rintro e w' ⟨rfl, rfl⟩
  cases t2 : inB day 0 20000
  case false =>
    have HF : Hid (res = none) := Lib.hid (HRES.out.symm.trans (rOn_no (by rw [t1, t2]; simp)))
    go_wp2
    go_ret2
    rw [HF.out]
    exact ⟨rfl, E4⟩
  have HF : Hid (res = some (rightsC l x day)) := Lib.hid (HRES.out.symm.trans (rOn_yes t1 hj hx t2))
  have hjl : j < l.length := (List.getElem?_eq_some_iff.1 hx).1
  go_wp2_with fail
  refine (l11Rights_ok l j x day _ _ (hv.mono E4) hl t1 hx).mono ?_
  rintro e w5 ⟨rfl, F5⟩
  have E5 := Ext.trans E4 F5
  go_wp2
  go_ret2
  rw [HF.out]
  exact ⟨rfl, E5⟩
set_option maxHeartbeats 4000000 in
theorem rightsOnTop_ok (l : List Clk) (id day : Int) (v : Value) (w : World) (hv : Reads w 6 v l.length (l.flatMap Clk.enc)) (hl : l.length ≤ 1048576) (hll : ∀ p ∈ l, p.na.length ≤ maxLen) :
    Calls Tryd.prog 23 #[v, .int .i64 id, .int .i64 day] w fun e w' => e = .returned (.tuple #[.int .i64 ((rOn l id day).getD 0), .bool (rOn l id day).isSome]) ∧ Ext w w' := by
  obtain ⟨a, cap, rfl⟩ := hv.shape
  obtain ⟨res, hres⟩ : ∃ r, rOn l id day = r := ⟨_, rfl⟩
  rw [hres]
  have HRES := Lib.hid hres
  clear hres
  have HLL := Lib.hid hll
  clear hll
  go_enter Tryd.func23, Tryd.ntmps23
  go_wp2_with fail
  refine (clerkAt_ok l id _ _ hv hl).mono ?_
  rintro e w3 ⟨rfl, E3⟩
  go_wp2_with fail
  refine (areClerks_ok l _ _ (hv.mono E3) hl HLL.out).mono ?_
  rintro e w4 ⟨rfl, F4⟩
  have E4 := Ext.trans E3 F4
  cases t1 : goodC l
  case false =>
    have HF : Hid (res = none) := Lib.hid (HRES.out.symm.trans (rOn_no (by rw [t1]; rfl)))
    go_wp2
    go_ret2
    rw [HF.out]
    exact ⟨rfl, E4⟩
  rcases atI_cases l id with hj | ⟨j, x, hj, hx, -⟩
  · rw [hj]
    have HF : Hid (res = none) := Lib.hid (HRES.out.symm.trans (rOn_no (by rw [t1, hj]; rfl)))
    go_wp2
    go_ret2
    rw [HF.out]
    exact ⟨rfl, E4⟩
  rw [hj]
  go_wp2_with fail
  refine (isDay_ok day _).mono ?_
  rintro e w' ⟨rfl, rfl⟩
  cases t2 : inB day 0 20000
  case false =>
    have HF : Hid (res = none) := Lib.hid (HRES.out.symm.trans (rOn_no (by rw [t1, t2]; simp)))
    go_wp2
    go_ret2
    rw [HF.out]
    exact ⟨rfl, E4⟩
  have HF : Hid (res = some (rightsC l x day)) := Lib.hid (HRES.out.symm.trans (rOn_yes t1 hj hx t2))
  have hjl : j < l.length := (List.getElem?_eq_some_iff.1 hx).1
  have HV := Lib.hid (hv.mono E4)
  obtain ⟨b, off, rfl, hc⟩ := Reads.elems Clk.enc_len HV.out (by omega)
  have c0 := hc j _ hx 0 _ rfl
  have c1 := hc j _ hx 1 _ rfl
  have c2 := hc j _ hx 2 _ rfl
  have c3 := hc j _ hx 3 _ rfl
  have c4 := hc j _ hx 4 _ rfl
  have c5 := hc j _ hx 5 _ rfl
  simp only [Nat.add_zero] at c0
  have HX := Lib.hid hx
  have HT := Lib.hid t1
  clear hc hj hv t1
  go_wp2_with fail
  refine (rightsOn_ok l j x day _ _ HV.out hl HT.out HX.out).mono ?_
  rintro e w5 ⟨rfl, F5⟩
  have E5 := Ext.trans E4 F5
  go_wp2
  go_ret2
  rw [HF.out]
  exact ⟨rfl, E5⟩
set_option maxHeartbeats 1000000 in
theorem specMayDo_ok (l : List Clk) (id rights day : Int) (v : Value) (w : World) (hv : Reads w 6 v l.length (l.flatMap Clk.enc)) (hl : l.length ≤ 1048576) (hll : ∀ p ∈ l, p.na.length ≤ maxLen) :
    Calls Tryd.prog 24 #[v, .int .i64 id, .int .i64 rights, .int .i64 day] w fun e w' => e = .returned (.tuple #[.bool (mayD l id rights day), .bool (mayDok l id rights day)]) ∧ Ext w w' := by
  obtain ⟨R, hR⟩ : ∃ r, rOn l id day = r := ⟨_, rfl⟩
  obtain ⟨A, hA⟩ : ∃ r, mayD l id rights day = r := ⟨_, rfl⟩
  obtain ⟨B, hB⟩ : ∃ r, mayDok l id rights day = r := ⟨_, rfl⟩
  obtain ⟨q, hq⟩ : ∃ q, bits .and .i64 (R.getD 0) rights = q := ⟨_, rfl⟩
  have HB := Lib.hid (show B = (R.isSome && inB rights 1 15) by rw [← hB, ← hR]; rfl)
  have HA := Lib.hid (show A = (B && decide (q = rights)) by rw [← hA, ← hB, ← hq, ← hR]; rfl)
  have HC := specRightsOn_ok l id day v w hv hl hll
  rw [hR] at HC
  rw [hA, hB]
  clear hA hB hR
  go_enter Tryd.func24, Tryd.ntmps24
  go_wp2_with fail
  refine (HC).mono ?_
  rintro e w3 ⟨rfl, E3⟩
  cases t1 : R.isSome
  case false =>
    have HF : Hid (B = false) := Lib.hid (by rw [HB.out, t1]; rfl)
    have HG : Hid (A = false) := Lib.hid (by rw [HA.out, HF.out]; rfl)
    go_wp2
    go_ret2
    rw [HF.out, HG.out]
    exact ⟨rfl, E3⟩
  go_wp2_with fail
  refine (l11Sum_ok rights _).mono ?_
  rintro e w' ⟨rfl, rfl⟩
  cases t2 : inB rights 1 15
  case false =>
    have HF : Hid (B = false) := Lib.hid (by rw [HB.out, t1, t2]; rfl)
    have HG : Hid (A = false) := Lib.hid (by rw [HA.out, HF.out]; rfl)
    go_wp2
    go_ret2
    rw [HF.out, HG.out]
    exact ⟨rfl, E3⟩
  have HF : Hid (B = true) := Lib.hid (by rw [HB.out, t1, t2]; rfl)
  have HG : Hid (A = decide (q = rights)) := Lib.hid (by rw [HA.out, HF.out]; rfl)
  go_wp2
  go_ret2
  rw [HF.out, HG.out]
  exact ⟨rfl, E3⟩
set_option maxHeartbeats 1000000 in
theorem mayDo_ok (l : List Clk) (id rights day : Int) (v : Value) (w : World) (hv : Reads w 6 v l.length (l.flatMap Clk.enc)) (hl : l.length ≤ 1048576) (hll : ∀ p ∈ l, p.na.length ≤ maxLen) :
    Calls Tryd.prog 25 #[v, .int .i64 id, .int .i64 rights, .int .i64 day] w fun e w' => e = .returned (.tuple #[.bool (mayD l id rights day), .bool (mayDok l id rights day)]) ∧ Ext w w' := by
  obtain ⟨R, hR⟩ : ∃ r, rOn l id day = r := ⟨_, rfl⟩
  obtain ⟨A, hA⟩ : ∃ r, mayD l id rights day = r := ⟨_, rfl⟩
  obtain ⟨B, hB⟩ : ∃ r, mayDok l id rights day = r := ⟨_, rfl⟩
  obtain ⟨q, hq⟩ : ∃ q, bits .and .i64 (R.getD 0) rights = q := ⟨_, rfl⟩
  have HB := Lib.hid (show B = (R.isSome && inB rights 1 15) by rw [← hB, ← hR]; rfl)
  have HA := Lib.hid (show A = (B && decide (q = rights)) by rw [← hA, ← hB, ← hq, ← hR]; rfl)
  have HC := rightsOnTop_ok l id day v w hv hl hll
  rw [hR] at HC
  rw [hA, hB]
  clear hA hB hR
  go_enter Tryd.func25, Tryd.ntmps25
  go_wp2_with fail
  refine (HC).mono ?_
  rintro e w3 ⟨rfl, E3⟩
  cases t1 : R.isSome
  case false =>
    have HF : Hid (B = false) := Lib.hid (by rw [HB.out, t1]; rfl)
    have HG : Hid (A = false) := Lib.hid (by rw [HA.out, HF.out]; rfl)
    go_wp2
    go_ret2
    rw [HF.out, HG.out]
    exact ⟨rfl, E3⟩
  go_wp2_with fail
  refine (isNeed_ok rights _).mono ?_
  rintro e w' ⟨rfl, rfl⟩
  cases t2 : inB rights 1 15
  case false =>
    have HF : Hid (B = false) := Lib.hid (by rw [HB.out, t1, t2]; rfl)
    have HG : Hid (A = false) := Lib.hid (by rw [HA.out, HF.out]; rfl)
    go_wp2
    go_ret2
    rw [HF.out, HG.out]
    exact ⟨rfl, E3⟩
  have HF : Hid (B = true) := Lib.hid (by rw [HB.out, t1, t2]; rfl)
  have HG : Hid (A = decide (q = rights)) := Lib.hid (by rw [HA.out, HF.out]; rfl)
  go_wp2
  go_ret2
  rw [HF.out, HG.out]
  exact ⟨rfl, E3⟩
end Go.Proofs.YtlablieekijgoaaDoor
