/- What the tests of lists of formats compute; no condition beyond the lengths that are named. -/
import Derived.Test.YtefabcnifbnehaaDoorFmtL
namespace Go.Proofs.YtefabcnifbnehaaDoor
open Go.RowKit Go.Sort Go.Rd
set_option maxRecDepth 4000 in
set_option maxHeartbeats 4000000 in
theorem l7Good_ok (l : List Fmt) (v : Value) (w : World) (hv : Fmt.Rd w v l) (hl : l.length ≤ 1048576) (hll : ∀ p ∈ l, p.rd.length ≤ 1048576) (hnl : ∀ p ∈ l, p.na.length ≤ maxLen) :
    Calls Tryd.prog 51 #[v] w fun e w' => e = .returned (.bool (goodF l)) ∧ Ext w w' := by
  have mixed : Tryd.prog.follows .mixedOrders = true := by kernel_rfl
  have HLL := Lib.hid hll
  have HNL := Lib.hid hnl
  obtain ⟨res, hres⟩ : ∃ b, goodF l = b := ⟨_, rfl⟩
  rw [hres]
  have HRES := Lib.hid hres
  clear hres hll hnl
  obtain ⟨a, cap, rfl⟩ := hv.shape
  go_enter Tryd.func51, Tryd.ntmps51
  go_wp2
  go_loopw [3] (fun i wr => ∃ k : Nat, k ≤ l.length ∧ i = .int .i64 k ∧ Hid (∀ j, j < k → fOk (okS l) l j = true) ∧ Ext w wr ∧ k ≤ 11) (fun i _ => l.length - (intOf i).toNat)
  case atStart => exact ⟨0, Nat.zero_le _, rfl, Lib.hid fun j h => by omega, Ext.refl _, by omega⟩
  case round =>
    obtain ⟨k, hk, rfl, HALL, hE, h11⟩ := hrel
    by_cases h8 : k = 11 ∧ k < l.length
    case pos =>
      have HF : Hid (res = false) := Lib.hid (by rw [← HRES.out]; unfold goodF goodW; rw [decide_eq_false (by omega : ¬ l.length ≤ 10), Bool.and_false])
      have h10 := h8.1
      have h13 := h8.2
      subst h10
      have h12 : decide (l.length ≤ 10) = false := decide_eq_false (by omega)
      go_wp2
      go_ret
      exact ⟨ret_bool (by rw [HF.out]; exact decide_eq_false (by omega)), hE⟩
    have h88 : k < l.length → k ≤ 10 := fun h => by omega
    by_cases hlt : k < l.length
    · have hv1 := hv.mono hE
      have k8 := h88 hlt
      clear h88
      obtain ⟨x, hx⟩ := get_of_lt hlt
      obtain ⟨b, off, rfl⟩ := Fmt.Rd.addr hv1 (by omega)
      obtain ⟨ca, cc, c0, c1, c2, c3, hat⟩ := Fmt.Rd.cells hv1 hx
      obtain ⟨q, hy⟩ : ∃ y, 0 < k → l[k - 1]? = some y := by
        by_cases h0 : 0 < k
        · obtain ⟨y, hy⟩ := get_of_lt (show k - 1 < l.length by omega); exact ⟨y, fun _ => hy⟩
        · exact ⟨default, fun h => absurd h h0⟩
      have HA := Lib.hid (fOk_eq (P := okS l) hx hy)
      have HBAD : Hid (fOk (okS l) l k = false → res = false) := Lib.hid fun h => HRES.out.symm.trans (goodW_false hlt h)
      have hlp := HLL.out x (List.mem_of_getElem? hx)
      have hnp := HNL.out x (List.mem_of_getElem? hx)
      have HX := Lib.hid hx
      have HY := Lib.hid hy
      clear hx hy
      obtain ⟨wb, hwb⟩ : ∃ wb, wb = wr.alloc (.cells #[.int .i64 x.id, .string ⟨x.na.toArray⟩, .int .i64 x.un, .slice ca x.rd.length cc] 60) := ⟨_, rfl⟩
      have hRb : Ext wr wb := by rw [hwb]; exact (Ext.refl _).alloc _
      have x0 : wb.cell? ⟨wr.heap.size, 0, none⟩ = some (.int .i64 x.id) := by rw [hwb]; simp
      have x1 : wb.cell? ⟨wr.heap.size, 1, none⟩ = some (.string ⟨x.na.toArray⟩) := by rw [hwb]; simp
      have x2 : wb.cell? ⟨wr.heap.size, 2, none⟩ = some (.int .i64 x.un) := by rw [hwb]; simp
      have x3 : wb.cell? ⟨wr.heap.size, 3, none⟩ = some (.slice ca x.rd.length cc) := by rw [hwb]; simp
      have hEb := Ext.trans hE hRb
      go_wp2_with fail
      rw [← hwb]
      clear hwb c0 c1 c2 c3
      refine (l1In_ok x.id 1 50 _).mono ?_
      rintro e w' ⟨rfl, rfl⟩
      cases t1 : inB x.id 1 50
      case false =>
        have HF : Hid (res = false) := Lib.hid (HBAD.out (by rw [HA.out, okS, t1]; rfl))
        go_wp2
        go_ret
        exact ⟨ret_bool HF.out.symm, hEb⟩
      go_wp2_with fail
      refine (l2Word_ok x.na _ hnp).mono ?_
      rintro e w3 ⟨rfl, F3⟩
      have hE3 := Ext.trans hEb F3
      have hR3 := Ext.trans hRb F3
      replace x0 := F3.cell x0
      replace x1 := F3.cell x1
      replace x2 := F3.cell x2
      replace x3 := F3.cell x3
      cases t2 : okW x.na
      case false =>
        have HF : Hid (res = false) := Lib.hid (HBAD.out (by rw [HA.out, okS, t1, t2]; rfl))
        go_wp2
        go_ret
        exact ⟨ret_bool HF.out.symm, hE3⟩
      go_wp2_with fail
      refine (l2Day_ok x.un _).mono ?_
      rintro e w' ⟨rfl, rfl⟩
      cases t3 : inB x.un 0 20000
      case false =>
        have HF : Hid (res = false) := Lib.hid (HBAD.out (by rw [HA.out, okS, t1, t2, t3]; rfl))
        go_wp2
        go_ret
        exact ⟨ret_bool HF.out.symm, hE3⟩
      by_cases t4 : x.rd.length ≤ 10
      case neg =>
        have HF : Hid (res = false) := Lib.hid (HBAD.out (by rw [HA.out, okS, t1, t2, t3, decide_eq_false t4]; rfl))
        have t4' : (10 : Int) < (x.rd.length : Int) := by omega
        go_wp2
        go_ret
        exact ⟨ret_bool HF.out.symm, hE3⟩
      have t4' : ¬ (10 : Int) < (x.rd.length : Int) := by omega
      have hat3 := hat.mono hR3
      go_wp2_with fail
      refine (l1Rising_ok x.rd 1 50 _ _ hat3 hlp).mono ?_
      rintro e w4 ⟨rfl, F4⟩
      have hE4 := Ext.trans hE3 F4
      have hR4 := Ext.trans hR3 F4
      replace x0 := F4.cell x0
      replace x1 := F4.cell x1
      replace x2 := F4.cell x2
      replace x3 := F4.cell x3
      cases t5 : riseB 1 50 x.rd
      case false =>
        have HF : Hid (res = false) := Lib.hid (HBAD.out (by rw [HA.out, okS, t1, t2, t3, decide_eq_true t4, t5]; rfl))
        go_wp2
        go_ret
        exact ⟨ret_bool HF.out.symm, hE4⟩
      have hat4 := hat.mono hR4
      obtain ⟨t6, ht6⟩ : ∃ b, x.rd.contains x.id = b := ⟨_, rfl⟩
      have HC6 : Hid (okS l x = (!t6 && x.rd.all fun y => decide (0 ≤ atF l y))) := Lib.hid (by rw [okS, t1, t2, t3, decide_eq_true t4, t5, ht6]; rfl)
      have cO := Calls.in_class (w := w4) (fun w' hw' => (l1Has_ok x.rd x.id _ w' (Reads.mono hw' hat4) hlp).mono fun _ _ ⟨a, b⟩ => ⟨a, Ext.of_eq b⟩)
      rw [ht6] at cO
      obtain ⟨bad, hbad⟩ : ∃ b, ((decide (0 < k) && decide (x.id ≤ q.id)) || t6) = b := ⟨_, rfl⟩
      have HBD := Lib.hid hbad
      clear hbad
      clear ht6 t1 t2 t3 t5
      go_upto_region 7 with fail
      go_cut [68] (fun c wx => c = .bool bad ∧ Ext w4 wx)
      case first =>
        have z0 := cell_in_class x0
        have z3 := cell_in_class x3
        by_cases hk0 : 0 < k
        case neg =>
          have hd : decide (0 < (k : Int)) = false := by simp; omega
          have HD := Lib.hid (show (decide (0 < k) : Bool) = false from decide_eq_false hk0)
          refine wp_region_quiet_below mixed (by kernel_rfl) ?_
          repeat (first | go_big_quiet_step (exact cO _ _) | quiet_step (exact cO _ _))
          refine wpQuiet_nil ?_
          intro _ hw'
          obtain ⟨⟨dq, osq⟩, hw''⟩ := hw'
          subst hw''
          clear cO z0 z3
          go_wp2
          go_meet
          exact ⟨congrArg Value.bool (by rw [← HBD.out, HD.out]; rfl), (Ext.refl w4).regrown dq osq⟩
        have hd : decide (0 < (k : Int)) = true := by simp; omega
        have HD := Lib.hid (show (decide (0 < k) : Bool) = true from decide_eq_true hk0)
        have y0 : w4.cell? ⟨b, off + (k - 1) * 4, none⟩ = some (.int .i64 q.id) := by
          obtain ⟨_, _, h, _⟩ := Fmt.Rd.cells (hv.mono hE4) (HY.out hk0)
          exact h
        have y0 := cell_in_class y0
        have n1 : (k : Int) - 1 < (l.length : Int) := by omega
        have n2 : (1 : Int) ≤ (k : Int) := by omega
        have n3 : (0 : Int) ≤ (k : Int) - 1 := by omega
        have n4 : IntKind.i64.wrap ((k : Int) - 1) = (k : Int) - 1 := IntWalk.i64_in _ (by omega)
        have n5 : ((k : Int) - 1).toNat = k - 1 := by omega
        by_cases hle : x.id ≤ q.id
        case pos =>
          have HLE := Lib.hid (show (decide (x.id ≤ q.id) : Bool) = true from decide_eq_true hle)
          refine wp_region_quiet_below mixed (by kernel_rfl) ?_
          repeat (first | go_big_quiet_step (exact cO _ _) | quiet_step (exact cO _ _))
          refine wpQuiet_nil ?_
          intro _ hw'
          obtain ⟨⟨dq, osq⟩, hw''⟩ := hw'
          subst hw''
          clear cO z0 z3 y0
          go_wp2
          go_meet
          exact ⟨congrArg Value.bool (by rw [← HBD.out, HD.out, HLE.out]; rfl), (Ext.refl w4).regrown dq osq⟩
        have HLE := Lib.hid (show (decide (x.id ≤ q.id) : Bool) = false from decide_eq_false hle)
        refine wp_region_quiet_below mixed (by kernel_rfl) ?_
        repeat (first | go_big_quiet_step (exact cO _ _) | quiet_step (exact cO _ _))
        refine wpQuiet_nil ?_
        intro _ hw'
        obtain ⟨⟨dq, osq⟩, hw''⟩ := hw'
        subst hw''
        clear cO z0 z3 y0
        go_wp2
        go_meet
        exact ⟨congrArg Value.bool (by rw [← HBD.out, HD.out, HLE.out]; rfl), (Ext.refl w4).regrown dq osq⟩
      case rest =>
      obtain ⟨rfl, F5⟩ := hcut
      have hE5 := Ext.trans hE4 F5
      have hR5 := Ext.trans hR4 F5
      replace x0 := F5.cell x0
      replace x1 := F5.cell x1
      replace x2 := F5.cell x2
      replace x3 := F5.cell x3
      clear cO
      cases bad
      case true =>
        have HF : Hid (res = false) := Lib.hid (HBAD.out (by
          rw [HA.out, HC6.out]
          have h := HBD.out
          cases t6
          · rw [Bool.or_false] at h; rw [h]; simp
          · rfl))
        go_wp2
        go_ret
        exact ⟨ret_bool HF.out.symm, hE5⟩
      have HA2 : Hid (fOk (okS l) l k = ((x.rd.all fun y => decide (0 ≤ atF l y)) && (l.take k).all fun g => !decide (g.na = x.na))) := Lib.hid (by
        have h := HBD.out
        rw [Bool.or_eq_false_iff] at h
        rw [HA.out, HC6.out, h.1, h.2]; rfl)
      obtain ⟨w5, hw5⟩ : ∃ w', w' = wc := ⟨_, rfl⟩
      subst hw5
      go_wp2
      go_loopw [5] (fun i ws => ∃ kk : Nat, kk ≤ k ∧ i = .int .i64 kk ∧ Hid ((l.take kk).all (fun g => !decide (g.na = x.na)) = true) ∧ Ext w5 ws) (fun i _ => k - (intOf i).toNat)
      case atStart => exact ⟨0, Nat.zero_le _, rfl, Lib.hid rfl, Ext.refl _⟩
      case round =>
        obtain ⟨ws, hws⟩ : ∃ w', w' = wr := ⟨_, rfl⟩
        subst hws
        obtain ⟨kk, hkk, rfl, HNA, F8⟩ := hrel
        have hE8 := Ext.trans hE5 F8
        have hR8 := Ext.trans hR5 F8
        replace x0 := F8.cell x0
        replace x1 := F8.cell x1
        replace x3 := F8.cell x3
        by_cases hlt2 : kk < k
        · obtain ⟨g, hg⟩ := get_of_lt (show kk < l.length by omega)
          obtain ⟨_, _, d0, d1, _, _, _⟩ := Fmt.Rd.cells (hv.mono hE8) hg
          have HG := Lib.hid hg
          have n1 : (kk : Int) < (l.length : Int) := by omega
          clear hg d0 x2
          have d1 := cell_in_class d1
          have z1 := cell_in_class x1
          go_upto_region 12 with fail
          go_cut [81] (fun c wx => c = .bool (decide (g.na = x.na)) ∧ Ext ws wx)
          case first =>
            refine wp_region_quiet_below mixed (by kernel_rfl) ?_
            repeat (first | go_big_quiet_step (fail) | quiet_step (fail))
            refine wpQuiet_nil ?_
            intro _ hw'
            obtain ⟨⟨dq, osq⟩, hw''⟩ := hw'
            subst hw''
            clear d1 z1
            go_wp2
            go_meet
            exact ⟨congrArg Value.bool (by first | rfl | (rw [Bool.eq_iff_iff, beq_iff_eq, decide_eq_true_eq])), (Ext.refl ws).regrown dq osq⟩
          case rest =>
          obtain ⟨rfl, F9⟩ := hcut
          have hE9 := Ext.trans hE8 F9
          have F89 := Ext.trans F8 F9
          cases t8 : decide (g.na = x.na)
          case true =>
            have HF : Hid (res = false) := Lib.hid (HBAD.out (by rw [HA2.out, all_take_no HG.out hlt2 (by rw [t8]; rfl), Bool.and_false]))
            clear t8
            go_wp2
            go_ret
            exact ⟨ret_bool HF.out.symm, hE9⟩
          have HN := Lib.hid (all_take_step (p := fun g : Fmt => !decide (g.na = x.na)) HG.out HNA.out (by rw [t8]; rfl))
          clear t8
          go_wp2
          go_roundw
          case rel => exact ⟨kk + 1, by omega, by go_num, HN, F89⟩
          case measure => simp [intOf]; omega
        obtain rfl : kk = k := by omega
        have HA3 : Hid (fOk (okS l) l kk = (x.rd.all fun y => decide (0 ≤ atF l y))) := Lib.hid (by rw [HA2.out, HNA.out, Bool.and_true])
        clear hlt2
        go_wp2
        go_loopw [6] (fun i wt => ∃ m : Nat, m ≤ x.rd.length ∧ i = .int .i64 m ∧ Hid ((x.rd.take m).all (fun y => decide (0 ≤ atF l y)) = true) ∧ Ext ws wt) (fun i _ => x.rd.length - (intOf i).toNat)
        case atStart => exact ⟨0, Nat.zero_le _, rfl, Lib.hid rfl, Ext.refl _⟩
        case round =>
          obtain ⟨m, hm, rfl, HR, F6⟩ := hrel
          have hE6 := Ext.trans hE8 F6
          have hR6 := Ext.trans hR8 F6
          replace x3 := F6.cell x3
          by_cases hlt3 : m < x.rd.length
          · obtain ⟨b2, off2, rfl, hc⟩ := Reads.elems (l := x.rd) encI_len (hat.mono hR6) (by omega)
            obtain ⟨p, hp⟩ := get_of_lt hlt3
            have d0 := hc m _ hp 0 _ rfl
            simp only [Nat.add_zero, Nat.mul_one] at d0
            have HP := Lib.hid hp
            clear hc hp
            go_wp2_with fail
            refine (l7Find_ok l p _ _ (hv.mono hE6) hl).mono ?_
            rintro e w7 ⟨rfl, F7⟩
            have hE7 := Ext.trans hE6 F7
            have F67 := Ext.trans F6 F7
            obtain ⟨z, hz⟩ : ∃ z, atF l p = z := ⟨_, rfl⟩
            have HZ := Lib.hid hz
            rw [hz]
            clear hz
            by_cases hz0 : z < 0
            case pos =>
              have HF : Hid (res = false) := Lib.hid (HBAD.out (by rw [HA3.out]; exact all_no' HP.out (by rw [HZ.out]; exact decide_eq_false (by omega))))
              go_wp2
              go_ret
              exact ⟨ret_bool HF.out.symm, hE7⟩
            have HN := Lib.hid (all_take_step (p := fun y => decide (0 ≤ atF l y)) HP.out HR.out (by rw [HZ.out]; exact decide_eq_true (by omega)))
            go_wp2
            go_roundw
            case rel => exact ⟨m + 1, by omega, by go_num, HN, F67⟩
            case measure => simp [intOf]; omega
          have HN : Hid (fOk (okS l) l kk = true) := Lib.hid (by rw [HA3.out]; have h := HR.out; rw [List.take_of_length_le (by omega)] at h; exact h)
          go_wp2
          go_roundw
          case rel => exact ⟨kk + 1, by omega, by go_num, Lib.hid (fun j hj => by
            by_cases h : j < kk
            · exact HALL.out j h
            · obtain rfl : j = kk := by omega
              exact HN.out), hE6, by omega⟩
          case measure => simp [intOf]; omega
    · have HG : Hid (res = decide (l.length ≤ 10)) := Lib.hid (by rw [← HRES.out]; exact goodW_true fun j hj => HALL.out j (by omega))
      go_wp2
      go_ret
      exact ⟨ret_bool (by rw [HG.out]; exact decide_eq_decide.2 (by omega)), hE⟩
end Go.Proofs.YtefabcnifbnehaaDoor
