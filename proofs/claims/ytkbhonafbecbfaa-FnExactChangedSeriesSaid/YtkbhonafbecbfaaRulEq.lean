/- What the comparisons of lists of rules compute; no condition beyond the lengths that are named. -/
import Derived.Test.YtkbhonafbecbfaaRules2
import Derived.Laws.StructEq
import Derived.Deep.RegionHeld3
namespace Go.Proofs.Ytkbhonafbecbfaa
open Go.RowKit Go.Sort Go.Rd
theorem neqRule_run (p1 p2 p3 p4 q1 q2 q3 q4 : Int) (w : World) : (binOp .neq 38 (.agg #[.int .i64 p1, .int .i64 p2, .int .i64 p3, .int .i64 p4]) (.agg #[.int .i64 q1, .int .i64 q2, .int .i64 q3, .int .i64 q4])).run Try.prog w = .ok (.bool (!decide ((⟨p1, p2, p3, p4⟩ : Rul) = ⟨q1, q2, q3, q4⟩))) w := by
  have hS : Try.prog.underlying 38 = some (.struct (Try.prog.fieldsOf 38)) := by kernel_rfl
  have hp : Try.prog.stoodInHeld 38 = false := by kernel_rfl
  have ui := Try.underlying3
  rw [run_neq_struct, show (10000 : Nat) = 9999 + 1 from rfl, run_equalIn_agg w 9999 38 _ _ hS hp]
  simp only [Program.fieldsOf, Try.underlying38]
  go_simp
  by_cases h1 : p1 = q1 <;> by_cases h2 : p2 = q2 <;> by_cases h3 : p3 = q3 <;> by_cases h4 : p4 = q4 <;> simp [h1, h2, h3, h4]
set_option maxHeartbeats 4000000 in
theorem l8Same_ok (la lb : List Rul) (va vb : Value) (w : World) (ha : Reads w 4 va la.length (la.flatMap Rul.enc)) (hb : Reads w 4 vb lb.length (lb.flatMap Rul.enc)) (hl : la.length ≤ 1048576) :
    Calls Try.prog 97 #[va, vb] w fun e w' => e = .returned (.bool (decide (la = lb))) ∧ Ext w w' := by
  have mixed : Try.prog.follows .mixedOrders = true := by kernel_rfl
  obtain ⟨a, cap, rfl⟩ := ha.shape
  obtain ⟨b, cap', rfl⟩ := hb.shape
  by_cases hlen : la.length = lb.length
  case neg =>
    have HF := Lib.hid (show decide (la = lb) = false from decide_eq_false fun h => hlen (by rw [h]))
    have hne : ((la.length : Int) != (lb.length : Int)) = true := by simp; omega
    clear hlen
    go_enter Try.func97, Try.ntmps97
    go_wp2
    go_ret
    exact ⟨ret_bool HF.out.symm, Ext.refl _⟩
  have hne : ((la.length : Int) != (lb.length : Int)) = false := by simp; omega
  have HL := Lib.hid hlen
  obtain ⟨n, hn⟩ : ∃ n, lb.length = n := ⟨_, rfl⟩
  rw [hn] at hlen hne hb ⊢
  have HN := Lib.hid hn
  clear hn
  go_enter Try.func97, Try.ntmps97
  go_wp2
  go_loopw [5] (fun i wr => ∃ k : Nat, k ≤ la.length ∧ i = .int .i64 k ∧ Hid (la.take k = lb.take k) ∧ Ext w wr) (fun i _ => la.length - (intOf i).toNat)
  case atStart => exact ⟨0, Nat.zero_le _, rfl, Lib.hid rfl, Ext.refl _⟩
  case round =>
    obtain ⟨k, hk, rfl, HT, hE⟩ := hrel
    by_cases hlt : k < la.length
    · obtain ⟨b1, o1, rfl, hc1⟩ := Reads.elems Rul.enc_len (Reads.mono hE ha) (by omega)
      obtain ⟨b2, o2, rfl, hc2⟩ := Reads.elems Rul.enc_len (Reads.mono hE (by rw [← HN.out] at hb; exact hb)) (by have := HN.out; omega)
      obtain ⟨⟨p1, p2, p3, p4⟩, hp⟩ := get_of_lt hlt
      obtain ⟨⟨q1, q2, q3, q4⟩, hq⟩ := get_of_lt (show k < lb.length by have := HN.out; omega)
      have x0 := cell_in_class (hc1 k _ hp 0 _ rfl)
      have x1 := cell_in_class (hc1 k _ hp 1 _ rfl)
      have x2 := cell_in_class (hc1 k _ hp 2 _ rfl)
      have x3 := cell_in_class (hc1 k _ hp 3 _ rfl)
      have y0 := cell_in_class (hc2 k _ hq 0 _ rfl)
      have y1 := cell_in_class (hc2 k _ hq 1 _ rfl)
      have y2 := cell_in_class (hc2 k _ hq 2 _ rfl)
      have y3 := cell_in_class (hc2 k _ hq 3 _ rfl)
      simp only [Nat.add_zero] at x0 y0
      have HP := Lib.hid hp
      have HQ := Lib.hid hq
      clear hc1 hc2 hp hq
      have n1 : (k : Int) < (la.length : Int) := by omega
      have n2 : (k : Int) < (n : Int) := by omega
      go_upto_region 6 with fail
      go_cut [25] (fun c wx => c = .bool (!decide ((⟨p1, p2, p3, p4⟩ : Rul) = ⟨q1, q2, q3, q4⟩)) ∧ Ext wr wx)
      case first =>
        have hneq := neqRule_run p1 p2 p3 p4 q1 q2 q3 q4
        have hgd : Try.prog.eqGuardType Try.prog.depth 38 = false := by kernel_rfl
        refine wp_region_quiet_below mixed (by kernel_rfl) ?_
        repeat (first | go_big_quiet_step (fail) | quiet_step (fail))
        refine wpQuiet_nil ?_
        intro _ hw'
        obtain ⟨⟨dq, osq⟩, hw''⟩ := hw'
        subst hw''
        clear x0 y0 x1 y1 x2 y2 x3 y3 hneq hgd
        go_wp2
        go_meet
        exact ⟨congrArg Value.bool (by by_cases h1 : p1 = q1 <;> by_cases h2 : p2 = q2 <;> by_cases h3 : p3 = q3 <;> by_cases h4 : p4 = q4 <;> simp [h1, h2, h3, h4]), (Ext.refl wr).regrown dq osq⟩
      case rest =>
      obtain ⟨rfl, E2⟩ := hcut
      have hE2 := Ext.trans hE E2
      clear x0 y0 x1 y1 x2 y2 x3 y3
      cases hpq : decide ((⟨p1, p2, p3, p4⟩ : Rul) = ⟨q1, q2, q3, q4⟩)
      case false =>
        have HF : Hid (decide (la = lb) = false) := Lib.hid (decide_eq_false fun h => by
          subst h
          have := HP.out.symm.trans HQ.out
          simp only [Option.some.injEq] at this
          exact of_decide_eq_false hpq this)
        clear hpq
        go_wp2
        go_ret
        exact ⟨ret_bool HF.out.symm, hE2⟩
      have HT2 : Hid (la.take (k + 1) = lb.take (k + 1)) := Lib.hid (by
        rw [List.take_add_one, List.take_add_one, HT.out, HP.out, HQ.out, of_decide_eq_true hpq])
      clear hpq
      go_wp2
      go_roundw
      case rel => exact ⟨k + 1, by omega, by go_num, HT2, hE2⟩
      case measure => simp [intOf]; omega
    · have HF : Hid (decide (la = lb) = true) := Lib.hid (decide_eq_true (by
        have h := HT.out
        have h2 := HL.out
        rwa [List.take_of_length_le (by omega), List.take_of_length_le (by omega)] at h))
      go_wp2
      go_ret
      exact ⟨ret_bool HF.out.symm, hE⟩
set_option maxHeartbeats 4000000 in
theorem equalRule_ok (la lb : List Rul) (va vb : Value) (w : World) (ha : Reads w 4 va la.length (la.flatMap Rul.enc)) (hb : Reads w 4 vb lb.length (lb.flatMap Rul.enc)) (hl : la.length ≤ 1048576) :
    Calls Try.prog 105 #[va, vb] w fun e w' => e = .returned (.bool (decide (la = lb))) ∧ Ext w w' := by
  have mixed : Try.prog.follows .mixedOrders = true := by kernel_rfl
  obtain ⟨a, cap, rfl⟩ := ha.shape
  obtain ⟨b, cap', rfl⟩ := hb.shape
  by_cases hlen : la.length = lb.length
  case neg =>
    have HF := Lib.hid (show decide (la = lb) = false from decide_eq_false fun h => hlen (by rw [h]))
    have hne : ((la.length : Int) != (lb.length : Int)) = true := by simp; omega
    clear hlen
    go_enter Try.func105, Try.ntmps105
    go_wp2
    go_ret
    exact ⟨ret_bool HF.out.symm, Ext.refl _⟩
  have hne : ((la.length : Int) != (lb.length : Int)) = false := by simp; omega
  have HL := Lib.hid hlen
  obtain ⟨n, hn⟩ : ∃ n, lb.length = n := ⟨_, rfl⟩
  rw [hn] at hlen hne hb ⊢
  have HN := Lib.hid hn
  clear hn
  go_enter Try.func105, Try.ntmps105
  go_wp2
  go_loopw [13] (fun i wr => ∃ k : Nat, k ≤ la.length ∧ i = .int .i64 k ∧ Hid (la.take k = lb.take k) ∧ Ext w wr) (fun i _ => la.length - (intOf i).toNat)
  case atStart => exact ⟨0, Nat.zero_le _, rfl, Lib.hid rfl, Ext.refl _⟩
  case round =>
    obtain ⟨k, hk, rfl, HT, hE⟩ := hrel
    by_cases hlt : k < la.length
    · obtain ⟨b1, o1, rfl, hc1⟩ := Reads.elems Rul.enc_len (Reads.mono hE ha) (by omega)
      obtain ⟨b2, o2, rfl, hc2⟩ := Reads.elems Rul.enc_len (Reads.mono hE (by rw [← HN.out] at hb; exact hb)) (by have := HN.out; omega)
      obtain ⟨⟨p1, p2, p3, p4⟩, hp⟩ := get_of_lt hlt
      obtain ⟨⟨q1, q2, q3, q4⟩, hq⟩ := get_of_lt (show k < lb.length by have := HN.out; omega)
      have x0 := cell_in_class (hc1 k _ hp 0 _ rfl)
      have x1 := cell_in_class (hc1 k _ hp 1 _ rfl)
      have x2 := cell_in_class (hc1 k _ hp 2 _ rfl)
      have x3 := cell_in_class (hc1 k _ hp 3 _ rfl)
      have y0 := cell_in_class (hc2 k _ hq 0 _ rfl)
      have y1 := cell_in_class (hc2 k _ hq 1 _ rfl)
      have y2 := cell_in_class (hc2 k _ hq 2 _ rfl)
      have y3 := cell_in_class (hc2 k _ hq 3 _ rfl)
      simp only [Nat.add_zero] at x0 y0
      have HP := Lib.hid hp
      have HQ := Lib.hid hq
      clear hc1 hc2 hp hq
      have n1 : (k : Int) < (la.length : Int) := by omega
      have n2 : (k : Int) < (n : Int) := by omega
      go_upto_region 6 with fail
      go_cut [24] (fun c wx => c = .bool (!decide ((⟨p1, p2, p3, p4⟩ : Rul) = ⟨q1, q2, q3, q4⟩)) ∧ Ext wr wx)
      case first =>
        have hneq := neqRule_run p1 p2 p3 p4 q1 q2 q3 q4
        have hgd : Try.prog.eqGuardType Try.prog.depth 38 = false := by kernel_rfl
        refine wp_region_quiet_below mixed (by kernel_rfl) ?_
        repeat (first | go_big_quiet_step (fail) | quiet_step (fail))
        refine wpQuiet_nil ?_
        intro _ hw'
        obtain ⟨⟨dq, osq⟩, hw''⟩ := hw'
        subst hw''
        clear x0 y0 x1 y1 x2 y2 x3 y3 hneq hgd
        go_wp2
        go_meet
        exact ⟨congrArg Value.bool (by by_cases h1 : p1 = q1 <;> by_cases h2 : p2 = q2 <;> by_cases h3 : p3 = q3 <;> by_cases h4 : p4 = q4 <;> simp [h1, h2, h3, h4]), (Ext.refl wr).regrown dq osq⟩
      case rest =>
      obtain ⟨rfl, E2⟩ := hcut
      have hE2 := Ext.trans hE E2
      clear x0 y0 x1 y1 x2 y2 x3 y3
      cases hpq : decide ((⟨p1, p2, p3, p4⟩ : Rul) = ⟨q1, q2, q3, q4⟩)
      case false =>
        have HF : Hid (decide (la = lb) = false) := Lib.hid (decide_eq_false fun h => by
          subst h
          have := HP.out.symm.trans HQ.out
          simp only [Option.some.injEq] at this
          exact of_decide_eq_false hpq this)
        clear hpq
        go_wp2
        go_ret
        exact ⟨ret_bool HF.out.symm, hE2⟩
      have HT2 : Hid (la.take (k + 1) = lb.take (k + 1)) := Lib.hid (by
        rw [List.take_add_one, List.take_add_one, HT.out, HP.out, HQ.out, of_decide_eq_true hpq])
      clear hpq
      go_wp2
      go_roundw
      case rel => exact ⟨k + 1, by omega, by go_num, HT2, hE2⟩
      case measure => simp [intOf]; omega
    · have HF : Hid (decide (la = lb) = true) := Lib.hid (decide_eq_true (by
        have h := HT.out
        have h2 := HL.out
        rwa [List.take_of_length_le (by omega), List.take_of_length_le (by omega)] at h))
      go_wp2
      go_ret
      exact ⟨ret_bool HF.out.symm, hE⟩
end Go.Proofs.Ytkbhonafbecbfaa
