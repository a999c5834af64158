/- What the program's test of a list of formats computes; no condition beyond the lengths that are named, and that the slice's length is within its room. -/
import Derived.Test.YtefabcnifbnehaaDoorFmtL2
import Derived.Test.YtefabcnifbnehaaDoorRoomA
namespace Go.Rd
open Go.RowKit Go.Sort
theorem Fmt.Own.room {R F : TypeId} {w : World} {base hi : Nat} {l : List Fmt} {v : Value} (ho : Fmt.Own R F w base hi l v) : Room v := by
  obtain ⟨pl, _, h2, _⟩ := ho
  exact Room.of_owns h2
end Go.Rd
namespace Go.Proofs.YtefabcnifbnehaaDoor
open Go.RowKit Go.Sort Go.Rd
set_option maxHeartbeats 400000 in
theorem areFormats1_ok (g x : Fmt) (sv : Value) (b : Nat) (w : World) (hc : w.cell? ⟨b, 1, none⟩ = some (.string ⟨x.na.toArray⟩)) :
    Calls Tryd.prog 60 #[.agg #[.int .i64 g.id, .string ⟨g.na.toArray⟩, .int .i64 g.un, sv], .pointer (some ⟨b, 0, none⟩)] w fun e w' => e = .returned (.bool (decide (g.na = x.na))) ∧ Ext w w' := by
  have hb := block_lt_of_cell hc
  have hne : b ≠ w.heap.size := by have : b < w.heap.size := hb; omega
  have hc2 := cell_alloc hc
  go_enter Tryd.func60, Tryd.ntmps60
  go_wp2
  go_ret
  exact ⟨ret_bool (by first | rfl | (rw [Bool.eq_iff_iff, beq_iff_eq, decide_eq_true_eq])), (Ext.refl _).alloc _⟩
theorem enters_areFormats1 : ∀ args w, (callFunc 60 args).run Tryd.prog w = .ok (.enter 60 args) w := enters_of Tryd.func60 (by kernel_rfl) rfl
set_option maxRecDepth 4000 in
set_option maxHeartbeats 4000000 in
theorem areFormats_ok (l : List Fmt) (v : Value) (w : World) (hv : Fmt.Rd w v l) (hcap : Room v) (hl : l.length ≤ 1048576) (hll : ∀ p ∈ l, p.rd.length ≤ 1048576) (hnl : ∀ p ∈ l, p.na.length ≤ maxLen) :
    Calls Tryd.prog 25 #[v] w fun e w' => e = .returned (.bool (goodF l)) ∧ Ext w w' := by
  have mixed : Tryd.prog.follows .mixedOrders = true := by kernel_rfl
  have HLL := Lib.hid hll
  have HNL := Lib.hid hnl
  obtain ⟨res, hres⟩ : ∃ b, goodF l = b := ⟨_, rfl⟩
  rw [hres]
  have HRES := Lib.hid ((goodI_eq l).trans hres)
  clear hres hll hnl
  obtain ⟨a, cap, rfl⟩ := hv.shape
  have hroom : l.length ≤ cap := hcap _ _ _ rfl
  clear hcap
  by_cases hten : l.length ≤ 10
  case neg =>
    have HF : Hid (res = false) := Lib.hid (by rw [← HRES.out]; unfold goodW; rw [decide_eq_false hten, Bool.and_false])
    have hten' : (10 : Int) < (l.length : Int) := by omega
    go_enter Tryd.func25, Tryd.ntmps25
    go_wp2
    go_ret
    exact ⟨ret_bool HF.out.symm, Ext.refl _⟩
  have hten' : ¬ (10 : Int) < (l.length : Int) := by omega
  go_enter Tryd.func25, Tryd.ntmps25
  go_wp2
  go_loopw [10] (fun i wr => ∃ k : Nat, k ≤ l.length ∧ i = .int .i64 k ∧ Hid (∀ j, j < k → fOk (okI l) l j = true) ∧ Ext w wr) (fun i _ => l.length - (intOf i).toNat)
  case atStart => exact ⟨0, Nat.zero_le _, rfl, Lib.hid fun j h => by omega, Ext.refl _⟩
  case round =>
    obtain ⟨k, hk, rfl, HALL, hE⟩ := hrel
    by_cases hlt : k < l.length
    · have hv1 := hv.mono hE
      obtain ⟨x, hx⟩ := get_of_lt hlt
      obtain ⟨b, off, rfl⟩ := Fmt.Rd.addr hv1 (by omega)
      obtain ⟨ca, cc, c0, c1, c2, c3, hat⟩ := Fmt.Rd.cells hv1 hx
      obtain ⟨q, hy⟩ : ∃ y, 0 < k → l[k - 1]? = some y := by
        by_cases h0 : 0 < k
        · obtain ⟨y, hy⟩ := get_of_lt (show k - 1 < l.length by omega); exact ⟨y, fun _ => hy⟩
        · exact ⟨default, fun h => absurd h h0⟩
      have HA := Lib.hid (fOk_eq (P := okI l) hx hy)
      have HBAD : Hid (fOk (okI l) l k = false → res = false) := Lib.hid fun h => HRES.out.symm.trans (goodW_false hlt h)
      have hlp := HLL.out x (List.mem_of_getElem? hx)
      have hnp := HNL.out x (List.mem_of_getElem? hx)
      have HX := Lib.hid hx
      have HY := Lib.hid hy
      clear hx hy
      obtain ⟨wb, hwb⟩ : ∃ wb, wb = wr.alloc (.cells #[.int .i64 x.id, .string ⟨x.na.toArray⟩, .int .i64 x.un, .slice ca x.rd.length cc] 60) := ⟨_, rfl⟩
      have hRb : Ext wr wb := by rw [hwb]; exact (Ext.refl _).alloc _
      have x0 : wb.cell? ⟨wr.heap.size, 0, none⟩ = some (.int .i64 x.id) := by rw [hwb]; simp
      have x1 : wb.cell? ⟨wr.heap.size, 1, none⟩ = some (.string ⟨x.na.toArray⟩) := by rw [hwb]; simp
      have x2 : wb.cell? ⟨wr.heap.size, 2, none⟩ = some (.int .i64 x.un) := by rw [hwb]; simp
      have x3 : wb.cell? ⟨wr.heap.size, 3, none⟩ = some (.slice ca x.rd.length cc) := by rw [hwb]; simp
      have hEb := Ext.trans hE hRb
      obtain ⟨bad, hbad⟩ : ∃ b, ((!inB x.id 1 50 || (!okW x.na || (!inB x.un 0 20000 || (decide (0 < k) && decide (x.id ≤ q.id))))) || !rdI l x) = b := ⟨_, rfl⟩
      have HBD := Lib.hid hbad
      clear hbad
      go_upto_region 6 with fail
      rw [← hwb]
      clear hwb c0 c1 c2 c3
      go_cut [51] (fun c wx => c = .bool bad ∧ Ext wb wx)
      case first =>
        have z0 := cell_in_class x0
        have z1 := cell_in_class x1
        have z2 := cell_in_class x2
        have z3 := cell_in_class x3
        have hatb := hat.mono hRb
        have q1 := Calls.in_class (w := wb) (fun w' _ => (within_ok x.id 1 50 w').mono fun _ _ ⟨a, b⟩ => ⟨a, Ext.of_eq b⟩)
        have q2 := Calls.in_class (w := wb) (fun w' _ => isWord_ok x.na w' hnp)
        have q3 := Calls.in_class (w := wb) (fun w' _ => (isDay_ok x.un w').mono fun _ _ ⟨a, b⟩ => ⟨a, Ext.of_eq b⟩)
        have q4 := Calls.in_class (w := wb) (fun w' hw' => areReads_ok l x _ _ w' (hv.mono (Ext.trans hEb hw')) (hatb.mono hw') hl hlp)
        clear x0 x1 x2 x3
        cases t1 : inB x.id 1 50
        case false =>
          rw [t1] at q1
          refine wp_region_quiet_below mixed (by kernel_rfl) ?_
          repeat (first | go_big_quiet_step (exact q1 _ _) | quiet_step (exact q1 _ _))
          refine wpQuiet_nil ?_
          intro _ hw'
          obtain ⟨⟨dq, osq⟩, hw''⟩ := hw'
          subst hw''
          clear q1 q2 q3 q4 z0 z1 z2 z3
          go_wp2
          go_meet
          exact ⟨congrArg Value.bool (by rw [← HBD.out, t1]; rfl), (Ext.refl wb).regrown dq osq⟩
        rw [t1] at q1
        cases t2 : okW x.na
        case false =>
          rw [t2] at q2
          refine wp_region_quiet_below mixed (by kernel_rfl) ?_
          repeat (first | go_big_quiet_step (first | exact q1 _ _ | exact q2 _ _) | quiet_step (first | exact q1 _ _ | exact q2 _ _))
          refine wpQuiet_nil ?_
          intro _ hw'
          obtain ⟨⟨dq, osq⟩, hw''⟩ := hw'
          subst hw''
          clear q1 q2 q3 q4 z0 z1 z2 z3
          go_wp2
          go_meet
          exact ⟨congrArg Value.bool (by rw [← HBD.out, t1, t2]; rfl), (Ext.refl wb).regrown dq osq⟩
        rw [t2] at q2
        cases t3 : inB x.un 0 20000
        case false =>
          rw [t3] at q3
          refine wp_region_quiet_below mixed (by kernel_rfl) ?_
          repeat (first | go_big_quiet_step (first | exact q1 _ _ | exact q2 _ _ | exact q3 _ _) | quiet_step (first | exact q1 _ _ | exact q2 _ _ | exact q3 _ _))
          refine wpQuiet_nil ?_
          intro _ hw'
          obtain ⟨⟨dq, osq⟩, hw''⟩ := hw'
          subst hw''
          clear q1 q2 q3 q4 z0 z1 z2 z3
          go_wp2
          go_meet
          exact ⟨congrArg Value.bool (by rw [← HBD.out, t1, t2, t3]; rfl), (Ext.refl wb).regrown dq osq⟩
        rw [t3] at q3
        have HT : Hid (bad = ((decide (0 < k) && decide (x.id ≤ q.id)) || !rdI l x)) := Lib.hid (by rw [← HBD.out, t1, t2, t3]; rfl)
        clear t1 t2 t3
        obtain ⟨rd, hrd⟩ : ∃ b, rdI l x = b := ⟨_, rfl⟩
        rw [hrd] at q4 HT
        clear hrd
        by_cases hk0 : 0 < k
        case neg =>
          have hd : decide (0 < (k : Int)) = false := by simp; omega
          have HD := Lib.hid (show (decide (0 < k) : Bool) = false from decide_eq_false hk0)
          cases rd
          all_goals
            refine wp_region_quiet_below mixed (by kernel_rfl) ?_
            repeat (first | go_big_quiet_step (first | exact q1 _ _ | exact q2 _ _ | exact q3 _ _ | exact q4 _ _) | quiet_step (first | exact q1 _ _ | exact q2 _ _ | exact q3 _ _ | exact q4 _ _))
            refine wpQuiet_nil ?_
            intro _ hw'
            obtain ⟨⟨dq, osq⟩, hw''⟩ := hw'
            subst hw''
            clear q1 q2 q3 q4 z0 z1 z2 z3
            go_wp2
            go_meet
            exact ⟨congrArg Value.bool (by rw [HT.out, HD.out]; rfl), (Ext.refl wb).regrown dq osq⟩
        have hd : decide (0 < (k : Int)) = true := by simp; omega
        have HD := Lib.hid (show (decide (0 < k) : Bool) = true from decide_eq_true hk0)
        have y0 : wb.cell? ⟨b, off + (k - 1) * 4, none⟩ = some (.int .i64 q.id) := by
          obtain ⟨_, _, h, _⟩ := Fmt.Rd.cells (hv.mono hEb) (HY.out hk0)
          exact h
        have y0 := cell_in_class y0
        have n1 : (k : Int) - 1 < (l.length : Int) := by omega
        have n2 : (1 : Int) ≤ (k : Int) := by omega
        have n3 : (0 : Int) ≤ (k : Int) - 1 := by omega
        have n4 : IntKind.i64.wrap ((k : Int) - 1) = (k : Int) - 1 := IntWalk.i64_in _ (by omega)
        have n5 : ((k : Int) - 1).toNat = k - 1 := by omega
        by_cases hle : x.id ≤ q.id
        case pos =>
          have HLE := Lib.hid (show (decide (x.id ≤ q.id) : Bool) = true from decide_eq_true hle)
          refine wp_region_quiet_below mixed (by kernel_rfl) ?_
          repeat (first | go_big_quiet_step (first | exact q1 _ _ | exact q2 _ _ | exact q3 _ _ | exact q4 _ _) | quiet_step (first | exact q1 _ _ | exact q2 _ _ | exact q3 _ _ | exact q4 _ _))
          refine wpQuiet_nil ?_
          intro _ hw'
          obtain ⟨⟨dq, osq⟩, hw''⟩ := hw'
          subst hw''
          clear q1 q2 q3 q4 z0 z1 z2 z3 y0
          go_wp2
          go_meet
          exact ⟨congrArg Value.bool (by rw [HT.out, HD.out, HLE.out]; rfl), (Ext.refl wb).regrown dq osq⟩
        have HLE := Lib.hid (show (decide (x.id ≤ q.id) : Bool) = false from decide_eq_false hle)
        cases rd
        all_goals
          refine wp_region_quiet_below mixed (by kernel_rfl) ?_
          repeat (first | go_big_quiet_step (first | exact q1 _ _ | exact q2 _ _ | exact q3 _ _ | exact q4 _ _) | quiet_step (first | exact q1 _ _ | exact q2 _ _ | exact q3 _ _ | exact q4 _ _))
          refine wpQuiet_nil ?_
          intro _ hw'
          obtain ⟨⟨dq, osq⟩, hw''⟩ := hw'
          subst hw''
          clear q1 q2 q3 q4 z0 z1 z2 z3 y0
          go_wp2
          go_meet
          exact ⟨congrArg Value.bool (by rw [HT.out, HD.out, HLE.out]; rfl), (Ext.refl wb).regrown dq osq⟩
      case rest =>
      obtain ⟨rfl, F5⟩ := hcut
      have hE5 := Ext.trans hEb F5
      have hR5 := Ext.trans hRb F5
      replace x1 := F5.cell x1
      clear x0 x2 x3
      cases bad
      case true =>
        have HF : Hid (res = false) := Lib.hid (HBAD.out (by
          rw [HA.out, okI]
          have h := HBD.out
          generalize inB x.id 1 50 = a1 at h ⊢
          generalize okW x.na = a2 at h ⊢
          generalize inB x.un 0 20000 = a3 at h ⊢
          generalize rdI l x = a4 at h ⊢
          generalize (decide (0 < k) && decide (x.id ≤ q.id)) = a5 at h ⊢
          cases a1 <;> cases a2 <;> cases a3 <;> cases a4 <;> cases a5 <;> first | rfl | cases h))
        go_wp2
        go_ret
        exact ⟨ret_bool HF.out.symm, hE5⟩
      have HA2 : Hid (fOk (okI l) l k = !(l.take k).any fun g => decide (g.na = x.na)) := Lib.hid (by
        have h := HBD.out
        simp only [Bool.or_eq_false_iff, Bool.not_eq_false'] at h
        rw [HA.out, okI, h.1.1, h.1.2.1, h.1.2.2.1, h.2, h.1.2.2.2, List.not_any_eq_all_not]; rfl)
      obtain ⟨w5, hw5⟩ : ∃ w', w' = wc := ⟨_, rfl⟩
      subst hw5
      have hvk := Fmt.Rd.take (hv.mono hE5) hk
      have hklen : (l.take k).length = k := by rw [List.length_take]; omega
      have HC := containsFuncFormat_ok 60 #[.pointer (some ⟨wr.heap.size, 0, none⟩)] (fun g => decide (g.na = x.na)) (l.take k) _ w5 enters_areFormats1 (fun g sv w' _ ha h => areFormats1_ok g x _ _ w' (h.cell x1)) hvk (by omega)
      obtain ⟨an, han⟩ : ∃ b, ((l.take k).any fun g => decide (g.na = x.na)) = b := ⟨_, rfl⟩
      rw [han] at HC HA2
      clear han hklen hvk
      have hkc : (k : Int) ≤ (cap : Int) := by omega
      go_wp2_with fail
      refine HC.mono ?_
      rintro e w6 ⟨rfl, F6⟩
      have hE6 := Ext.trans hE5 F6
      cases an
      case true =>
        have HF : Hid (res = false) := Lib.hid (HBAD.out HA2.out)
        go_wp2
        go_ret
        exact ⟨ret_bool HF.out.symm, hE6⟩
      have HN : Hid (fOk (okI l) l k = true) := Lib.hid HA2.out
      go_wp2
      go_roundw
      case rel => exact ⟨k + 1, by omega, by go_num, Lib.hid (fun j hj => by
        by_cases h : j < k
        · exact HALL.out j h
        · obtain rfl : j = k := by omega
          exact HN.out), hE6⟩
      case measure => simp [intOf]; omega
    · have HG : Hid (res = true) := Lib.hid (by rw [← HRES.out, goodW_true fun j hj => HALL.out j (by omega)]; exact decide_eq_true hten)
      go_wp2
      go_ret
      exact ⟨ret_bool HG.out.symm, hE⟩
theorem specAreFormats_ok (l : List Fmt) (v : Value) (w : World) (hv : Fmt.Rd w v l) (hl : l.length ≤ 1048576) (hll : ∀ p ∈ l, p.rd.length ≤ 1048576) (hnl : ∀ p ∈ l, p.na.length ≤ maxLen) :
    Calls Tryd.prog 24 #[v] w fun e w' => e = .returned (.bool (goodF l)) ∧ Ext w w' := by
  go_enter Tryd.func24, Tryd.ntmps24
  go_wp2_with fail
  refine (l7Good_ok l _ _ hv hl hll hnl).mono ?_
  rintro e w' ⟨rfl, E⟩
  go_wp2
  go_ret
  exact ⟨rfl, E⟩
end Go.Proofs.YtefabcnifbnehaaDoor
