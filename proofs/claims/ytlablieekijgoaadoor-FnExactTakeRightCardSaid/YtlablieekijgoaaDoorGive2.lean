/- What the program's changes of one clerk of a list compute; no condition beyond the lengths that are named. -/
import Derived.Test.YtlablieekijgoaaDoorGive
namespace Go.Proofs.YtlablieekijgoaaDoor
open Go.RowKit Go.Sort Go.Rd
theorem ch_congr {l : List Clk} {id : Int} {f g : Clk → Clk} (h : f (l.getD (atI l id).toNat default) = g (l.getD (atI l id).toNat default)) (pre : Bool) : chL l pre id f = chL l pre id g ∧ chB l pre id f = chB l pre id g := by
  unfold chL chB; rw [h]; exact ⟨rfl, rfl⟩
set_option maxHeartbeats 400000 in
theorem standFor1_ok (x : Clk) (r : Int) (c g k : Nat) (w : World) (hc : w.cell? ⟨c, 0, none⟩ = some (.int .i64 r)) (h5 : w.cell? ⟨g, k + 5, none⟩ = some (.int .i64 x.st)) (hf : w.frozen? ⟨g, k + 5, none⟩ = false) :
    Calls Tryd.prog 63 #[.pointer (some ⟨g, k, none⟩), .pointer (some ⟨c, 0, none⟩)] w fun e w' => e = .returned (.tuple #[]) ∧ ∃ wd, Ext w wd ∧ w' = wd.setCell ⟨g, k + 5, none⟩ (.int .i64 r) := by
  go_enter Tryd.func63, Tryd.ntmps63
  go_wp2
  refine bodyPost_end (by simp [results, Tryd.results63, go_sem]) rfl ⟨rfl, w, Ext.refl w, rfl⟩

set_option maxHeartbeats 1000000 in
theorem giveRight1_ok (x : Clk) (r : Int) (c g k : Nat) (w : World) (hc : w.cell? ⟨c, 0, none⟩ = some (.int .i64 r)) (h2 : w.cell? ⟨g, k + 2, none⟩ = some (.int .i64 x.ri)) (hf : w.frozen? ⟨g, k + 2, none⟩ = false) :
    Calls Tryd.prog 67 #[.pointer (some ⟨g, k, none⟩), .pointer (some ⟨c, 0, none⟩)] w fun e w' => e = .returned (.tuple #[]) ∧ ∃ wd, Ext w wd ∧ w' = wd.setCell ⟨g, k + 2, none⟩ (.int .i64 (bits .or .i64 x.ri r)) := by
  go_enter Tryd.func67, Tryd.ntmps67
  go_region
  all_goals go_wp2
  all_goals refine bodyPost_end (by simp [results, Tryd.results67, go_sem]) rfl ⟨rfl, _, (Ext.refl w).drew, rfl⟩

set_option maxHeartbeats 1000000 in
theorem takeRight1_ok (x : Clk) (r : Int) (c g k : Nat) (w : World) (hc : w.cell? ⟨c, 0, none⟩ = some (.int .i64 r)) (h2 : w.cell? ⟨g, k + 2, none⟩ = some (.int .i64 x.ri)) (hf : w.frozen? ⟨g, k + 2, none⟩ = false) :
    Calls Tryd.prog 68 #[.pointer (some ⟨g, k, none⟩), .pointer (some ⟨c, 0, none⟩)] w fun e w' => e = .returned (.tuple #[]) ∧ ∃ wd, Ext w wd ∧ w' = wd.setCell ⟨g, k + 2, none⟩ (.int .i64 (bits .andNot .i64 x.ri r)) := by
  go_enter Tryd.func68, Tryd.ntmps68
  go_region
  all_goals go_wp2
  all_goals refine bodyPost_end (by simp [results, Tryd.results68, go_sem]) rfl ⟨rfl, _, (Ext.refl w).drew, rfl⟩

theorem enters_standFor1 : ∀ args w, (callFunc 63 args).run Tryd.prog w = .ok (.enter 63 args) w := enters_of Tryd.func63 (by kernel_rfl) rfl
theorem enters_giveRight1 : ∀ args w, (callFunc 67 args).run Tryd.prog w = .ok (.enter 67 args) w := enters_of Tryd.func67 (by kernel_rfl) rfl
theorem enters_takeRight1 : ∀ args w, (callFunc 68 args).run Tryd.prog w = .ok (.enter 68 args) w := enters_of Tryd.func68 (by kernel_rfl) rfl
set_option maxHeartbeats 4000000 in
theorem changed_ok (f : FuncId) (caps : Array Value) (K : Nat) (F : Clk → Int) (upd : Clk → Clk) (l : List Clk) (id : Int) (v : Value) (w : World) (hent : ∀ args w, (callFunc f args).run Tryd.prog w = .ok (.enter f args) w)
    (hp : ∀ (x : Clk) (g k : Nat) (w' : World), Ext w w' → w'.cell? ⟨g, k + 2, none⟩ = some (.int .i64 x.ri) → w'.cell? ⟨g, k + 5, none⟩ = some (.int .i64 x.st) → w'.frozen? ⟨g, k + 2, none⟩ = false → w'.frozen? ⟨g, k + 5, none⟩ = false →
      Calls Tryd.prog f (#[.pointer (some ⟨g, k, none⟩)] ++ caps) w' fun e w'' => e = .returned (.tuple #[]) ∧ ∃ wd, Ext w' wd ∧ w'' = wd.setCell ⟨g, k + K, none⟩ (.int .i64 (F x)))
    (hset : ∀ (l : List Clk) (j : Nat) (o : Clk), l[j]? = some o → (l.flatMap Clk.enc).set (j * 6 + K) (.int .i64 (F o)) = (l.set j (upd o)).flatMap Clk.enc) (hna : ∀ o : Clk, (upd o).na = o.na)
    (hv : Reads w 6 v l.length (l.flatMap Clk.enc)) (hl : l.length ≤ 1048576) (hll : ∀ p ∈ l, p.na.length ≤ maxLen) :
    Calls Tryd.prog 62 #[v, .int .i64 id, .func (.func f) #[] caps] w (RetOwnB w 26 6 (chL l true id upd).length ((chL l true id upd).flatMap Clk.enc) (chB l true id upd)) := by
  obtain ⟨a, cap, rfl⟩ := hv.shape
  have HLL := Lib.hid hll
  have HP := Lib.hid hp
  have HSET := Lib.hid hset
  have HNA := Lib.hid hna
  obtain ⟨N, hN⟩ : ∃ N, chL l true id upd = N := ⟨_, rfl⟩
  obtain ⟨B, hB⟩ : ∃ B, chB l true id upd = B := ⟨_, rfl⟩
  rw [hN, hB]
  have HN := Lib.hid hN
  have HB := Lib.hid hB
  clear hll hN hB hp hset hna
  go_enter Tryd.func62, Tryd.ntmps62
  go_wp2_with fail
  refine (clerkAt_ok l id _ _ hv hl).mono ?_
  rintro e w3 ⟨rfl, E3⟩
  go_wp2_with fail
  refine (areClerks_ok l _ _ (hv.mono E3) hl HLL.out).mono ?_
  rintro e w4 ⟨rfl, F4⟩
  have E4 := Ext.trans E3 F4
  cases t1 : goodC l
  case false =>
    have HF := Lib.hid (ch_no (l := l) (pre := true) (id := id) (f := upd) (by rw [t1]; rfl))
    obtain rfl := HN.out.symm.trans HF.out.1
    obtain rfl := HB.out.symm.trans HF.out.2
    go_wp2
    go_ret2
    exact ⟨_, rfl, World.ownsRow_nil _ _ _ _, E4⟩
  rcases atI_cases l id with hj | ⟨j, x, hj, hx, -⟩
  · have HF := Lib.hid (ch_no (l := l) (pre := true) (id := id) (f := upd) (by rw [t1, hj]; rfl))
    rw [hj]
    obtain rfl := HN.out.symm.trans HF.out.1
    obtain rfl := HB.out.symm.trans HF.out.2
    go_wp2
    go_ret2
    exact ⟨_, rfl, World.ownsRow_nil _ _ _ _, E4⟩
  rw [hj]
  have HY := Lib.hid (ch_yes (pre := true) (f := upd) t1 hj hx rfl)
  obtain rfl := HN.out.symm.trans HY.out.1
  obtain rfl := HB.out.symm.trans HY.out.2
  have hjl : j < l.length := (List.getElem?_eq_some_iff.1 hx).1
  have hxn := HLL.out x (List.mem_of_getElem? hx)
  go_wp2_with fail
  refine (cloneClerk_ok l _ _ (hv.mono E4) hl).mono ?_
  rintro e w5 ⟨v5, rfl, o5, F5⟩
  have E5 := Ext.trans E4 F5
  rcases owns_cases2 o5 with ⟨_, h0⟩ | ⟨g, cap5, rfl, hg, hgs, hnc, hcm, hfil⟩
  · omega
  have d2 := o5.cellAt (j * 6 + 2) (by omega)
  have d5 := o5.cellAt (j * 6 + 5) (by omega)
  rw [show (l.flatMap Clk.enc)[j * 6 + 2]? = some (.int .i64 x.ri) from flat_some Clk.enc_len hx (j := 2) rfl] at d2
  rw [show (l.flatMap Clk.enc)[j * 6 + 5]? = some (.int .i64 x.st) from flat_some Clk.enc_len hx (j := 5) rfl] at d5
  have HC5 := HP.out x g (j * 6) w5 E5 d2 d5 (hfil.frozen _) (hfil.frozen _)
  have HFIL := Lib.hid hfil
  have HCM := Lib.hid hcm
  have HX := Lib.hid hx
  have hgw : w.heap.size ≤ g := by have := E4.size; omega
  clear hfil d2 d5 hcm o5 hx hj
  go_wp2_with fail
  refine HC5.mono ?_
  rintro e w6 ⟨rfl, wd, Ed, hw6⟩
  have E6 : Ext w w6 := by rw [hw6]; exact (Ext.trans E5 Ed).setCell hgw _
  have p6 : Filled w6 g 26 (cap5 * 6) ((l.set j (upd x)).flatMap Clk.enc) := by
    have := (HFIL.out.ext Ed).set (j * 6 + K) (.int .i64 (F x))
    rw [HSET.out l j x HX.out, ← hw6] at this
    exact this
  have o6 : w6.ownsRow w.heap.size 26 6 (.slice (some ⟨g, 0, none⟩) (l.set j (upd x)).length cap5) (l.set j (upd x)).length ((l.set j (upd x)).flatMap Clk.enc) :=
    p6.owns_cap (flat_length Clk.enc 6 Clk.enc_len _) hgw (by rw [List.length_set]; exact hnc) HCM.out
  have HL6 := Lib.hid (set_na (i := j) HLL.out (show (upd x).na.length ≤ maxLen by rw [HNA.out]; exact hxn))
  have hl6 : (l.set j (upd x)).length ≤ 1048576 := by rw [List.length_set]; exact hl
  have HG := areClerks_ok (l.set j (upd x)) _ w6 (Reads.of_owns o6) hl6 HL6.out
  rw [List.length_set] at HG o6
  clear hw6 p6
  go_wp2_with fail
  refine (HG).mono ?_
  rintro e w7 ⟨rfl, E7⟩
  have E7' := Ext.trans E6 E7
  have o7 := E7.owns o6
  cases t2 : goodC (l.set j (upd x))
  case false =>
    have HK := Lib.hid (keepC_no t2)
    go_wp2
    go_ret2
    rw [HK.out, t2]
    exact ⟨_, rfl, World.ownsRow_nil _ _ _ _, E7'⟩
  have HK := Lib.hid (keepC_yes t2)
  go_wp2
  go_ret2
  rw [HK.out, t2, List.length_set]
  exact ⟨_, rfl, o7, E7'⟩

set_option maxHeartbeats 1000000 in
theorem standFor_ok (l : List Clk) (id r : Int) (v : Value) (w : World) (hv : Reads w 6 v l.length (l.flatMap Clk.enc)) (hl : l.length ≤ 1048576) (hll : ∀ p ∈ l, p.na.length ≤ maxLen) :
    Calls Tryd.prog 29 #[v, .int .i64 id, .int .i64 r] w (RetOwnB w 26 6 (chL l true id (stF r)).length ((chL l true id (stF r)).flatMap Clk.enc) (chB l true id (stF r))) := by
  obtain ⟨w2, hw2⟩ : ∃ w2, w2 = w.alloc (.cells #[.int .i64 r] 3) := ⟨_, rfl⟩
  have E2 : Ext w w2 := by rw [hw2]; exact (Ext.refl w).alloc _
  have k1 : w2.cell? ⟨w.heap.size, 0, none⟩ = some (.int .i64 r) := by rw [hw2]; simp
  have HC := changed_ok 63 #[.pointer (some ⟨w.heap.size, 0, none⟩)] 5 (fun x => r) (fun x => { x with st := r }) l id v w2 enters_standFor1 (fun x g k w' h h2 h5 f2 f5 => standFor1_ok x r _ g k w' (h.cell k1) h5 f5) (fun l j o h => clk_set_st _ h) (fun _ => rfl) (hv.mono E2) hl hll
  change Calls _ _ _ _ (RetOwnB w2 26 6 (chL l true id (stF r)).length ((chL l true id (stF r)).flatMap Clk.enc) (chB l true id (stF r))) at HC
  go_enter Tryd.func29, Tryd.ntmps29
  go_wp2_with fail
  rw [← hw2]
  clear hw2
  refine HC.mono ?_
  rintro e w3 ⟨v3, rfl, o3, E3⟩
  go_wp2
  go_ret2
  exact ⟨_, rfl, owns_mono o3 E2.size, Ext.trans E2 E3⟩
set_option maxHeartbeats 1000000 in
theorem giveRight_ok (l : List Clk) (id r : Int) (v : Value) (w : World) (hv : Reads w 6 v l.length (l.flatMap Clk.enc)) (hl : l.length ≤ 1048576) (hll : ∀ p ∈ l, p.na.length ≤ maxLen) :
    Calls Tryd.prog 33 #[v, .int .i64 id, .int .i64 r] w (RetOwnB w 26 6 (chL l (rightB r) id (giveF r)).length ((chL l (rightB r) id (giveF r)).flatMap Clk.enc) (chB l (rightB r) id (giveF r))) := by
  obtain ⟨w2, hw2⟩ : ∃ w2, w2 = w.alloc (.cells #[.int .i64 r] 3) := ⟨_, rfl⟩
  have E2 : Ext w w2 := by rw [hw2]; exact (Ext.refl w).alloc _
  have k1 : w2.cell? ⟨w.heap.size, 0, none⟩ = some (.int .i64 r) := by rw [hw2]; simp
  have HC := changed_ok 67 #[.pointer (some ⟨w.heap.size, 0, none⟩)] 2 (fun x => bits .or .i64 x.ri r) (fun x => { x with ri := bits .or .i64 x.ri r }) l id v w2 enters_giveRight1 (fun x g k w' h h2 h5 f2 f5 => giveRight1_ok x r _ g k w' (h.cell k1) h2 f2) (fun l j o h => clk_set_ri _ h) (fun _ => rfl) (hv.mono E2) hl hll
  change Calls _ _ _ _ (RetOwnB w2 26 6 (chL l true id (giveF r)).length ((chL l true id (giveF r)).flatMap Clk.enc) (chB l true id (giveF r))) at HC
  cases t1 : rightB r
  case false =>
    have HF := Lib.hid (ch_no (l := l) (pre := false) (id := id) (f := giveF r) (by simp))
    rw [HF.out.1, HF.out.2]
    go_enter Tryd.func33, Tryd.ntmps33
    go_wp2_with fail
    rw [← hw2]
    clear hw2 HC
    refine (isRight_ok r _).mono ?_
    rintro e w' ⟨rfl, rfl⟩
    rw [t1]
    go_wp2
    go_ret2
    exact ⟨_, rfl, World.ownsRow_nil _ _ _ _, E2⟩
  go_enter Tryd.func33, Tryd.ntmps33
  go_wp2_with fail
  rw [← hw2]
  clear hw2
  refine (isRight_ok r _).mono ?_
  rintro e w' ⟨rfl, rfl⟩
  rw [t1]
  go_wp2_with fail
  refine (HC).mono ?_
  rintro e w3 ⟨v3, rfl, o3, E3⟩
  go_wp2
  go_ret2
  exact ⟨_, rfl, owns_mono o3 E2.size, Ext.trans E2 E3⟩
set_option maxHeartbeats 2000000 in
theorem takeRight_ok (l : List Clk) (id r : Int) (v : Value) (w : World) (hv : Reads w 6 v l.length (l.flatMap Clk.enc)) (hl : l.length ≤ 1048576) (hll : ∀ p ∈ l, p.na.length ≤ maxLen) :
    Calls Tryd.prog 35 #[v, .int .i64 id, .int .i64 r] w (RetOwnB w 26 6 (chL l (takeP l id r) id (takeF r)).length ((chL l (takeP l id r) id (takeF r)).flatMap Clk.enc) (chB l (takeP l id r) id (takeF r))) := by
  have mixed : Tryd.prog.follows .mixedOrders = true := by kernel_rfl
  obtain ⟨w2, hw2⟩ : ∃ w2, w2 = w.alloc (.cells #[.int .i64 r] 3) := ⟨_, rfl⟩
  have E2 : Ext w w2 := by rw [hw2]; exact (Ext.refl w).alloc _
  have k1 : w2.cell? ⟨w.heap.size, 0, none⟩ = some (.int .i64 r) := by rw [hw2]; simp
  have HC := fun (w9 : World) (e9 : Ext w2 w9) => changed_ok 68 #[.pointer (some ⟨w.heap.size, 0, none⟩)] 2 (fun x => bits .andNot .i64 x.ri r) (fun x => { x with ri := bits .andNot .i64 x.ri r }) l id v w9 enters_takeRight1 (fun x g k w' h h2 h5 f2 f5 => takeRight1_ok x r _ g k w' (h.cell (e9.cell k1)) h2 f2) (fun l j o h => clk_set_ri _ h) (fun _ => rfl) (hv.mono (Ext.trans E2 e9)) hl hll
  have HCC := Lib.hid HC
  have HF := Lib.hid (fun h => ch_no (l := l) (pre := takeP l id r) (id := id) (f := takeF r) h)
  have HY : Hid (takeP l id r = true → chL l true id (fun x => { x with ri := bits .andNot .i64 x.ri r }) = chL l (takeP l id r) id (takeF r) ∧ chB l true id (fun x => { x with ri := bits .andNot .i64 x.ri r }) = chB l (takeP l id r) id (takeF r)) := Lib.hid (fun ht => by
    rw [ht]
    cases hg : goodC l
    · have h1 := ch_no (l := l) (pre := true) (id := id) (f := takeF r) (by rw [hg]; rfl)
      have h2 := ch_no (l := l) (pre := true) (id := id) (f := fun x => { x with ri := bits .andNot .i64 x.ri r }) (by rw [hg]; rfl)
      rw [h1.1, h1.2, h2.1, h2.2]; exact ⟨rfl, rfl⟩
    rcases atI_cases l id with hj | ⟨j, x, hj, hx, -⟩
    · have h1 := ch_no (l := l) (pre := true) (id := id) (f := takeF r) (by rw [hg, hj]; rfl)
      have h2 := ch_no (l := l) (pre := true) (id := id) (f := fun x => { x with ri := bits .andNot .i64 x.ri r }) (by rw [hg, hj]; rfl)
      rw [h1.1, h1.2, h2.1, h2.2]; exact ⟨rfl, rfl⟩
    refine ch_congr ?_ true
    have hxx : l.getD (atI l id).toNat default = x := by rw [hj, Int.toNat_natCast, List.getD_eq_getElem?_getD, hx]; rfl
    unfold takeP at ht
    rw [hxx, Bool.and_eq_true, decide_eq_true_eq] at ht
    rw [hxx]
    have := take_eq (okClk_ri (goodC_at hg hx).1) ht.1 ht.2
    simp only [takeF, this.1])
  obtain ⟨a, cap, rfl⟩ := hv.shape
  obtain ⟨N, hN⟩ : ∃ N, chL l (takeP l id r) id (takeF r) = N := ⟨_, rfl⟩
  obtain ⟨B, hB⟩ : ∃ B, chB l (takeP l id r) id (takeF r) = B := ⟨_, rfl⟩
  rw [hN, hB] at HF HY
  rw [hN, hB]
  obtain ⟨cb, hcb⟩ : ∃ cb, (decide (0 ≤ atI l id) && takeP l id r) = cb := ⟨_, rfl⟩
  have HCB := Lib.hid hcb
  clear hN hB hcb HC hll
  go_enter Tryd.func35, Tryd.ntmps35
  go_wp2_with fail
  rw [← hw2]
  clear hw2
  refine (clerkAt_ok l id _ _ (hv.mono E2) hl).mono ?_
  rintro e w3 ⟨rfl, F3⟩
  obtain ⟨ai, hai⟩ : ∃ ai, atI l id = ai := ⟨_, rfl⟩
  rw [hai]
  have HAI := Lib.hid hai
  clear hai
  have E3 := Ext.trans E2 F3
  have k3 := F3.cell k1
  go_upto_region 2 with fail
  go_cut [28] (fun c wx => c = .bool (!cb) ∧ Ext w3 wx)
  case first =>
    have cO := Calls.in_class (w := w3) (fun w' _ => (isRight_ok r w').mono (fun e w'' h => ⟨h.1, Ext.of_eq h.2⟩))
    have x1 := cell_in_class k3
    cases t1 : rightB r
    case false =>
      have HV2 : Hid (cb = false) := Lib.hid (by rw [← HCB.out, takeP, t1]; simp)
      rw [t1] at cO
      refine wp_region_quiet_below mixed (by kernel_rfl) ?_
      repeat (first | go_big_quiet_step (exact cO _ _) | quiet_step (exact cO _ _))
      refine wpQuiet_nil ?_
      intro _ hw'
      obtain ⟨⟨dq, osq⟩, hw''⟩ := hw'
      subst hw''
      clear cO x1
      go_wp2
      go_meet
      exact ⟨congrArg Value.bool (by rw [HV2.out]; rfl), (Ext.refl w3).regrown dq osq⟩
    rw [t1] at cO
    rcases atI_cases l id with hj | ⟨j, x, hj, hx, -⟩
    · have HV2 : Hid (cb = false) := Lib.hid (by rw [← HCB.out, hj]; rfl)
      obtain rfl : ai = -1 := HAI.out.symm.trans hj
      clear hj
      refine wp_region_quiet_below mixed (by kernel_rfl) ?_
      repeat (first | go_big_quiet_step (exact cO _ _) | quiet_step (exact cO _ _))
      refine wpQuiet_nil ?_
      intro _ hw'
      obtain ⟨⟨dq, osq⟩, hw''⟩ := hw'
      subst hw''
      clear cO x1
      go_wp2
      go_meet
      exact ⟨congrArg Value.bool (by rw [HV2.out]; rfl), (Ext.refl w3).regrown dq osq⟩
    have hjl : j < l.length := (List.getElem?_eq_some_iff.1 hx).1
    obtain ⟨b, off, rfl, hc⟩ := Reads.elems Clk.enc_len (hv.mono E3) (by omega)
    have x2 := cell_in_class (hc j _ hx 2 _ rfl)
    obtain ⟨q, hq⟩ : ∃ q, bits .and .i64 x.ri r = q := ⟨_, rfl⟩
    have HV2 : Hid (cb = decide (q ≠ 0)) := Lib.hid (by
      rw [← HCB.out, takeP, t1, hj, decide_eq_true (show (0 : Int) ≤ (j : Int) by omega), Int.toNat_natCast, List.getD_eq_getElem?_getD, hx, ← hq]; rfl)
    have hd : decide ((j : Int) < 0) = false := decide_eq_false (by omega)
    obtain rfl : ai = (j : Int) := HAI.out.symm.trans hj
    clear hc hj hx hv
    refine wp_region_quiet_below mixed (by kernel_rfl) ?_
    repeat (first | go_big_quiet_step (exact cO _ _) | quiet_step (exact cO _ _))
    refine wpQuiet_nil ?_
    intro _ hw'
    obtain ⟨⟨dq, osq⟩, hw''⟩ := hw'
    subst hw''
    clear cO x1 x2
    go_wp2
    go_meet
    exact ⟨congrArg Value.bool (by rw [HV2.out]; clear hq; by_cases hq0 : q = 0 <;> simp [hq0]), (Ext.refl w3).regrown dq osq⟩
  case rest =>
  obtain ⟨rfl, E4⟩ := hcut
  have E4' := Ext.trans E3 E4
  cases cb
  case false =>
    have HG := Lib.hid (HF.out (by rw [HCB.out, Bool.and_false]))
    obtain rfl := HG.out.1
    obtain rfl := HG.out.2
    go_wp2
    go_ret2
    exact ⟨_, rfl, World.ownsRow_nil _ _ _ _, E4'⟩
  have HT := Lib.hid (HY.out (by have := HCB.out; rw [Bool.and_eq_true] at this; exact this.2))
  have HC := HCC.out _ (Ext.trans F3 E4)
  rw [HT.out.1, HT.out.2] at HC
  go_wp2_with fail
  refine (HC).mono ?_
  rintro e w5 ⟨v5, rfl, o5, E5⟩
  go_wp2
  go_ret2
  exact ⟨_, rfl, owns_mono o5 E4'.size, Ext.trans E4' E5⟩

end Go.Proofs.YtlablieekijgoaaDoor
