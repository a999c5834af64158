/- What LostRecords computes, the program's and the reference's; no condition beyond the lengths and rooms that are named. -/
import Derived.Test.YtefabcnifbnehaaDoorCopL
import Derived.Test.YtefabcnifbnehaaDoorAppR
import Derived.Test.YtefabcnifbnehaaDoorSlMCopy
namespace Go.Rd
theorem any_take_step {α : Type} {p : α → Bool} {l : List α} {k : Nat} {x : α} (h : l[k]? = some x) : (l.take (k + 1)).any p = ((l.take k).any p || p x) := by
  rw [List.take_add_one, h, List.any_append]; simp
end Go.Rd
namespace Go.Proofs.YtefabcnifbnehaaDoor
open Go.RowKit Go.Sort Go.Rd
set_option maxHeartbeats 4000000 in
theorem specLostRecords_ok (l : List Fmt) (cs : List Cpy) (day : Int) (v vc : Value) (w : World) (hv : Fmt.Rd w v l) (hc : Reads w 4 vc cs.length (cs.flatMap Cpy.enc)) (hl : l.length ≤ 1048576) (hll : ∀ p ∈ l, p.rd.length ≤ 1048576) (hnl : ∀ p ∈ l, p.na.length ≤ maxLen) (hcl : cs.length ≤ 1048576) :
    Calls Tryd.prog 42 #[v, vc, .int .i64 day] w (RetReadB w 1 (lostL l cs day).length ((lostL l cs day).flatMap encI) (lostOk l cs day)) := by
  have mixed : Tryd.prog.follows .mixedOrders = true := by kernel_rfl
  have e0 : Ext w (w.alloc (.cells #[] 3)) := (Ext.refl w).alloc _
  obtain ⟨a, cap, rfl⟩ := hc.shape
  have HLL := Lib.hid hll
  obtain ⟨N, hN⟩ : ∃ N, lostL l cs day = N := ⟨_, rfl⟩
  have HY := Lib.hid (fun h => hN.symm.trans (lostL_yes (l := l) (cs := cs) (day := day) h))
  have HF := Lib.hid (fun h => hN.symm.trans (lostL_no (l := l) (cs := cs) (day := day) h))
  rw [hN]
  obtain ⟨ok, hok⟩ : ∃ ok, lostOk l cs day = ok := ⟨_, rfl⟩
  have HOK := Lib.hid hok
  rw [hok] at HY HF ⊢
  clear hN hok hll
  go_enter Tryd.func42, Tryd.ntmps42
  go_wp2_with fail
  refine (l7Copies_ok l cs _ _ _ (hv.mono e0) (hc.mono e0) hl HLL.out hnl hcl).mono ?_
  rintro e w1 ⟨rfl, E1⟩
  have E1' := Ext.trans e0 E1
  cases h1 : goodCs l cs
  case false =>
    obtain rfl : ok = false := by rw [← HOK.out, lostOk, h1]; rfl
    obtain rfl := HF.out rfl
    go_wp2
    go_ret2
    exact ⟨_, rfl, (OutR.empty w w 3 1 _).reads.mono E1', E1'⟩
  go_wp2_with fail
  refine (l2Day_ok day _).mono ?_
  rintro e w' ⟨rfl, rfl⟩
  cases h2 : inB day 0 20000
  case false =>
    obtain rfl : ok = false := by rw [← HOK.out, lostOk, h1, h2]; rfl
    obtain rfl := HF.out rfl
    go_wp2
    go_ret2
    exact ⟨_, rfl, (OutR.empty w w 3 1 _).reads.mono E1', E1'⟩
  obtain rfl : ok = true := by rw [← HOK.out, lostOk, h1, h2]; rfl
  have HN := Lib.hid (HY.out rfl)
  have HMB := Lib.hid (goodCs_parts h1).2.2
  have hc15 := (goodCs_parts h1).2.1
  clear HY HF HOK h1 h2
  go_wp2
  go_loopw [8, 9] (fun out i wr => ∃ k : Nat, k ≤ cs.length ∧ i = .int .i64 k ∧ OutR w1 wr 3 1 out (lostK (lostP l cs day) cs k).length ((lostK (lostP l cs day) cs k).flatMap encI) ∧ Ext w1 wr) (fun _ i _ => cs.length - (intOf i).toNat)
  case atStart => exact ⟨0, Nat.zero_le _, rfl, by simpa [lostK] using OutR.empty _ _ _ _ _, Ext.refl _⟩
  case round =>
    obtain ⟨wo, hwo⟩ : ∃ w', w' = wr := ⟨_, rfl⟩
    subst hwo
    obtain ⟨k, hk, rfl, ho, hE⟩ := hrel
    have hE' := Ext.trans E1' hE
    by_cases hlt : k < cs.length
    · obtain ⟨b, off, rfl, hcc⟩ := Reads.elems Cpy.enc_len (hc.mono hE') (by omega)
      obtain ⟨x, hx⟩ := get_of_lt hlt
      have c0 := hcc k _ hx 0 _ rfl
      simp only [Nat.add_zero] at c0
      have HX := Lib.hid hx
      have hflen := lostK_len (lostP l cs day) cs k
      have n0 : (k : Int) < (cs.length : Int) := by omega
      clear hcc hx
      go_wp2
      go_loopw [10, 11] (fun lo i wr => ∃ m : Nat, m ≤ cs.length ∧ i = .int .i64 m ∧ lo = .bool (!(cs.take m).any fun d => d.re == x.re && decide (day ≤ lastR l d.fo)) ∧ Ext wo wr) (fun _ i _ => cs.length - (intOf i).toNat)
      case atStart => exact ⟨0, Nat.zero_le _, rfl, rfl, Ext.refl _⟩
      case round =>
        obtain ⟨m, hm, rfl, rfl, F⟩ := hrel
        have hE3 := Ext.trans hE' F
        by_cases hltm : m < cs.length
        · obtain ⟨b2, off2, hbb, hcc⟩ := Reads.elems Cpy.enc_len (hc.mono hE3) (by omega)
          simp only [Option.some.injEq, Addr.mk.injEq, and_true] at hbb
          obtain ⟨rfl, rfl⟩ := hbb
          obtain ⟨d, hd⟩ := get_of_lt hltm
          have y0 := cell_in_class (hcc m _ hd 0 _ rfl)
          have y1 := cell_in_class (hcc m _ hd 1 _ rfl)
          have z0 := cell_in_class (F.cell c0)
          simp only [Nat.add_zero] at y0
          have HS := Lib.hid (any_take_step (p := fun d : Cpy => d.re == x.re && decide (day ≤ lastR l d.fo)) hd)
          have hat := (HMB.out d (List.mem_of_getElem? hd)).2.1
          have q := Calls.in_class (w := wr) (fun w' hw' => l7Last_ok l d.fo _ w' hat (hv.mono (Ext.trans hE3 hw')) hl HLL.out)
          obtain ⟨an, han⟩ : ∃ b, ((cs.take m).any fun d => d.re == x.re && decide (day ≤ lastR l d.fo)) = b := ⟨_, rfl⟩
          rw [han] at HS ⊢
          obtain ⟨R, hR⟩ : ∃ R, lastR l d.fo = R := ⟨_, rfl⟩
          rw [hR] at HS q
          have n1 : (m : Int) < (cs.length : Int) := by omega
          clear hcc hd hat han hR
          go_upto_region 11 with fail
          go_cut [56] (fun c wx => c = .bool (d.re == x.re && decide (day ≤ R)) ∧ Ext wr wx)
          case first =>
            cases t1 : (d.re == x.re)
            all_goals
              refine wp_region_quiet_below mixed (by kernel_rfl) ?_
              repeat (first | go_big_quiet_step (exact q _ _) | quiet_step (exact q _ _))
              refine wpQuiet_nil ?_
              intro _ hw'
              obtain ⟨⟨dq, osq⟩, hw''⟩ := hw'
              subst hw''
              clear q y0 y1 z0
              go_wp2
              go_meet
              exact ⟨congrArg Value.bool (by rw [t1]; rfl), (Ext.refl wr).regrown dq osq⟩
          case rest =>
          obtain ⟨rfl, F2⟩ := hcut
          have F3 := Ext.trans F F2
          clear q y0 y1 z0
          cases hb : (d.re == x.re && decide (day ≤ R))
          case false =>
            have HK : Hid (((cs.take (m + 1)).any fun d => d.re == x.re && decide (day ≤ lastR l d.fo)) = an) := Lib.hid (by rw [HS.out, hb, Bool.or_false])
            clear hb
            go_wp2
            go_roundw
            case rel => exact ⟨m + 1, by omega, by go_num, by rw [HK.out], F3⟩
            case measure => simp [intOf]; omega
          have HK : Hid (((cs.take (m + 1)).any fun d => d.re == x.re && decide (day ≤ lastR l d.fo)) = true) := Lib.hid (by rw [HS.out, hb, Bool.or_true])
          clear hb
          go_wp2
          go_roundw
          case rel => exact ⟨m + 1, by omega, by go_num, by rw [HK.out]; rfl, F3⟩
          case measure => simp [intOf]; omega
        · have HP : Hid ((!(cs.take m).any fun d => d.re == x.re && decide (day ≤ lastR l d.fo)) = lostP l cs day x.re) := Lib.hid (by rw [List.take_of_length_le (by omega)]; rfl)
          rw [HP.out]
          have c0 := F.cell c0
          have hE4 := Ext.trans hE F
          have ho4 := OutR.ext F ho
          have HA := Lib.hid (fun h h2 => lostK_add (lostP l cs day) HX.out h h2)
          have HNO := Lib.hid (fun h => lostK_not (lostP l cs day) HX.out h)
          have HHA := Lib.hid (fun h => lostK_has (lostP l cs day) HX.out h)
          obtain ⟨L, hL⟩ : ∃ L, lostK (lostP l cs day) cs k = L := ⟨_, rfl⟩
          rw [hL] at HA HNO HHA ho4 hflen
          clear hL ho
          cases hp : lostP l cs day x.re
          case false =>
            have HK := Lib.hid (HNO.out hp)
            clear hp
            go_wp2
            go_roundw
            case rel => exact ⟨k + 1, by omega, by go_num, by rw [HK.out]; exact ho4, hE4⟩
            case measure => simp [intOf]; omega
          obtain ⟨aL, cL, rfl⟩ := ho4.reads.shape
          go_wp2_with fail
          refine (l1Has_ok L x.re _ _ ho4.reads (by omega)).mono ?_
          rintro e w' ⟨rfl, rfl⟩
          cases hh : L.contains x.re
          case true =>
            have HK := Lib.hid (HHA.out hh)
            clear hp hh
            go_wp2
            go_roundw
            case rel => exact ⟨k + 1, by omega, by go_num, by rw [HK.out]; exact ho4, hE4⟩
            case measure => simp [intOf]; omega
          have HK := Lib.hid (HA.out hp hh)
          clear hp hh
          go_wp2_with (at_builtin; refine wpl_appendR w1 _ rfl _ _ 30 rfl 3 _ 1 8 Tryd.underlying30 Tryd.infoInt rfl (by decide) (by decide) _ _ _ hE4 ho4 ?c1 [.int .i64 (x.re)] rfl rfl rfl (encI_one _) ?_)
          case c1 => omega
          intro v' w6 o6 E6 _
          go_wp2
          go_roundw
          case rel => exact ⟨k + 1, by omega, by go_num, by rw [HK.out]; simpa [encI] using o6, E6⟩
          case measure => simp [intOf]; omega
    · have HE : Hid (lostK (lostP l cs day) cs k = N) := Lib.hid (by rw [show k = cs.length by omega]; exact HN.out.symm)
      rw [HE.out] at ho
      go_wp2
      go_ret2
      exact ⟨_, rfl, ho.reads, hE'⟩
set_option maxHeartbeats 2000000 in
theorem lost1_ok (l : List Fmt) (d : Cpy) (day re : Int) (v : Value) (g10 g3 g5 : Nat) (w : World) (hat : 0 ≤ atF l d.fo) (hv : Fmt.Rd w v l) (hl : l.length ≤ 1048576) (hll : ∀ p ∈ l, p.rd.length ≤ 1048576)
    (c10 : w.cell? ⟨g10, 0, none⟩ = some (.int .i64 re)) (c3 : w.cell? ⟨g3, 0, none⟩ = some v) (c5 : w.cell? ⟨g5, 0, none⟩ = some (.int .i64 day)) :
    Calls Tryd.prog 74 #[.agg #[.int .i64 d.re, .int .i64 d.fo, .int .i64 d.si, .int .i64 d.sn], .pointer (some ⟨g10, 0, none⟩), .pointer (some ⟨g3, 0, none⟩), .pointer (some ⟨g5, 0, none⟩)] w fun e w' => e = .returned (.bool (d.re == re && decide (day ≤ lastR l d.fo))) ∧ Ext w w' := by
  have mixed : Tryd.prog.follows .mixedOrders = true := by kernel_rfl
  obtain ⟨av, capv, rfl⟩ := hv.shape
  obtain ⟨w2, hw2⟩ : ∃ w2, w2 = w.alloc (.cells #[.int .i64 d.re, .int .i64 d.fo, .int .i64 d.si, .int .i64 d.sn] 73) := ⟨_, rfl⟩
  have E2 : Ext w w2 := by rw [hw2]; exact (Ext.refl w).alloc _
  have k0 : w2.cell? ⟨w.heap.size, 0, none⟩ = some (.int .i64 d.re) := by rw [hw2]; simp
  have k1 : w2.cell? ⟨w.heap.size, 1, none⟩ = some (.int .i64 d.fo) := by rw [hw2]; simp
  have y0 := cell_in_class k0
  have y1 := cell_in_class k1
  have z10 := cell_in_class (E2.cell c10)
  have z3 := cell_in_class (E2.cell c3)
  have z5 := cell_in_class (E2.cell c5)
  have q := Calls.in_class (w := w2) (fun w' hw' => lastReadable_ok l d.fo _ w' hat (hv.mono (Ext.trans E2 hw')) hl hll)
  obtain ⟨R, hR⟩ : ∃ R, lastR l d.fo = R := ⟨_, rfl⟩
  rw [hR] at q ⊢
  clear hR hat hv k0 k1 c10 c3 c5 hll
  go_enter Tryd.func74, Tryd.ntmps74
  go_upto_region 1 with fail
  rw [← hw2]
  clear hw2
  cases t1 : (d.re == re)
  all_goals
    refine wp_region_quiet_below mixed (by kernel_rfl) ?_
    repeat (first | go_big_quiet_step (exact q _ _) | quiet_step (exact q _ _))
    refine wpQuiet_nil ?_
    intro _ hw'
    obtain ⟨⟨dq, osq⟩, hw''⟩ := hw'
    subst hw''
    clear q y0 y1 z10 z3 z5
    go_wp2
    go_ret
    exact ⟨ret_bool (by rw [t1]; rfl), E2.regrown dq osq⟩
theorem enters_lost1 : ∀ args w, (callFunc 74 args).run Tryd.prog w = .ok (.enter 74 args) w := enters_of Tryd.func74 (by kernel_rfl) rfl
set_option maxHeartbeats 4000000 in
theorem lostRecords_ok (l : List Fmt) (cs : List Cpy) (day : Int) (v vc : Value) (w : World) (hv : Fmt.Rd w v l) (hc : Reads w 4 vc cs.length (cs.flatMap Cpy.enc)) (hcap : Room v) (hl : l.length ≤ 1048576) (hll : ∀ p ∈ l, p.rd.length ≤ 1048576) (hnl : ∀ p ∈ l, p.na.length ≤ maxLen) (hcl : cs.length ≤ 1048576) :
    Calls Tryd.prog 43 #[v, vc, .int .i64 day] w (RetOwnB w 3 1 (lostL l cs day).length ((lostL l cs day).flatMap encI) (lostOk l cs day)) := by
  have mixed : Tryd.prog.follows .mixedOrders = true := by kernel_rfl
  obtain ⟨a, cap, rfl⟩ := hc.shape
  obtain ⟨av, capv, rfl⟩ := hv.shape
  have HLL := Lib.hid hll
  obtain ⟨N, hN⟩ : ∃ N, lostL l cs day = N := ⟨_, rfl⟩
  have HY := Lib.hid (fun h => hN.symm.trans (lostL_yes (l := l) (cs := cs) (day := day) h))
  have HF := Lib.hid (fun h => hN.symm.trans (lostL_no (l := l) (cs := cs) (day := day) h))
  rw [hN]
  obtain ⟨ok, hok⟩ : ∃ ok, lostOk l cs day = ok := ⟨_, rfl⟩
  have HOK := Lib.hid hok
  rw [hok] at HY HF ⊢
  clear hN hok hll
  obtain ⟨w0, hw0⟩ : ∃ w0, w0 = (w.alloc (.cells #[.slice av l.length capv] 26)).alloc (.cells #[.int .i64 day] 3) := ⟨_, rfl⟩
  have E0 : Ext w w0 := by rw [hw0]; exact ((Ext.refl w).alloc _).alloc _
  have k3 : w0.cell? ⟨w.heap.size, 0, none⟩ = some (.slice av l.length capv) := by rw [hw0]; simp
  have k5 : w0.cell? ⟨w.heap.size + 1, 0, none⟩ = some (.int .i64 day) := by rw [hw0]; simp
  go_enter Tryd.func43, Tryd.ntmps43
  go_wp2_with fail
  rw [← hw0]
  clear hw0
  refine (areCopies_ok l cs _ _ _ (hv.mono E0) (hc.mono E0) hcap hl HLL.out hnl hcl).mono ?_
  rintro e w1 ⟨rfl, E1⟩
  have E1' := Ext.trans E0 E1
  have k3 := E1.cell k3
  have k5 := E1.cell k5
  cases h1 : goodCs l cs
  case false =>
    obtain rfl : ok = false := by rw [← HOK.out, lostOk, h1]; rfl
    obtain rfl := HF.out rfl
    go_wp2
    go_ret2
    exact ⟨_, rfl, World.ownsRow_nil _ _ _ _, E1'⟩
  go_wp2_with fail
  refine (isDay_ok day _).mono ?_
  rintro e w' ⟨rfl, rfl⟩
  cases h2 : inB day 0 20000
  case false =>
    obtain rfl : ok = false := by rw [← HOK.out, lostOk, h1, h2]; rfl
    obtain rfl := HF.out rfl
    go_wp2
    go_ret2
    exact ⟨_, rfl, World.ownsRow_nil _ _ _ _, E1'⟩
  obtain rfl : ok = true := by rw [← HOK.out, lostOk, h1, h2]; rfl
  have HN := Lib.hid (HY.out rfl)
  have HMB := Lib.hid (goodCs_parts h1).2.2
  have hc15 := (goodCs_parts h1).2.1
  have HG := Lib.hid h1
  clear HY HF HOK h1 h2
  go_wp2
  go_loopw [8, 22] (fun out i wr => ∃ k : Nat, k ≤ cs.length ∧ i = .int .i64 k ∧ wr.ownsRow w1.heap.size 3 1 out (lostK (lostP l cs day) cs k).length ((lostK (lostP l cs day) cs k).flatMap encI) ∧ Ext w1 wr) (fun _ i _ => cs.length - (intOf i).toNat)
  case atStart => exact ⟨0, Nat.zero_le _, rfl, by simpa [lostK] using World.ownsRow_nil _ _ _ _, Ext.refl _⟩
  case round =>
    obtain ⟨k, hk, rfl, ho, hE⟩ := hrel
    have hE' := Ext.trans E1' hE
    by_cases hlt : k < cs.length
    · obtain ⟨b, off, rfl, hcc⟩ := Reads.elems Cpy.enc_len (hc.mono hE') (by omega)
      obtain ⟨⟨p1, p2, p3, p4⟩, hx⟩ := get_of_lt hlt
      have c0 := hcc k _ hx 0 _ rfl
      have c1 := hcc k _ hx 1 _ rfl
      have c2 := hcc k _ hx 2 _ rfl
      have c3 := hcc k _ hx 3 _ rfl
      simp only [Nat.add_zero] at c0
      obtain ⟨⟨q1, q2, q3, q4⟩, hy⟩ : ∃ y, 0 < k → cs[k - 1]? = some y := by
        by_cases h0 : 0 < k
        · obtain ⟨y, hy⟩ := get_of_lt (show k - 1 < cs.length by omega); exact ⟨y, fun _ => hy⟩
        · exact ⟨default, fun h => absurd h h0⟩
      have HX := Lib.hid hx
      have HYY := Lib.hid hy
      have HC := Lib.hid hcc
      have hflen := lostK_len (lostP l cs day) cs k
      have n0 : (k : Int) < (cs.length : Int) := by omega
      have HSAME : Hid (0 < k → q1 = p1 → lostK (lostP l cs day) cs (k + 1) = lostK (lostP l cs day) cs k) := Lib.hid fun h0 he => by
        have := lostK_same (lostP l cs day) (k := k - 1) (hy h0) (by rw [show k - 1 + 1 = k by omega]; exact hx) he
        rw [show k - 1 + 2 = k + 1 by omega, show k - 1 + 1 = k by omega] at this
        exact this
      have HNEW : Hid (¬ (0 < k ∧ q1 = p1) → (lostK (lostP l cs day) cs k).contains p1 = false) := Lib.hid fun h =>
        lostK_new HG.out _ hx fun y h0 hy' he => h ⟨h0, by have := hy'.symm.trans (hy h0); simp only [Option.some.injEq] at this; subst this; exact he⟩
      have HA := Lib.hid (fun h h2 => lostK_add (lostP l cs day) hx h h2)
      have HNO := Lib.hid (fun h => lostK_not (lostP l cs day) hx h)
      clear hcc hx hy
      obtain ⟨w5, hw5⟩ : ∃ w5, w5 = wr.alloc (.cells #[.int .i64 p1, .int .i64 p2, .int .i64 p3, .int .i64 p4] 73) := ⟨_, rfl⟩
      have E5 : Ext wr w5 := by rw [hw5]; exact (Ext.refl wr).alloc _
      have x0 : w5.cell? ⟨wr.heap.size, 0, none⟩ = some (.int .i64 p1) := by rw [hw5]; simp
      obtain ⟨sm, hsm⟩ : ∃ b, (decide (0 < k) && (q1 == p1)) = b := ⟨_, rfl⟩
      have HSM := Lib.hid hsm
      clear hsm
      go_upto_region 7 with fail
      rw [← hw5]
      clear hw5 c0 c1 c2 c3
      go_cut [39] (fun c wx => c = .bool sm ∧ Ext w5 wx)
      case first =>
        have z0 := cell_in_class x0
        by_cases hk0 : 0 < k
        case neg =>
          have hd : decide (0 < (k : Int)) = false := by simp; omega
          have HD := Lib.hid (show (decide (0 < k) : Bool) = false from decide_eq_false hk0)
          refine wp_region_quiet_below mixed (by kernel_rfl) ?_
          repeat (first | go_big_quiet_step (fail) | quiet_step (fail))
          refine wpQuiet_nil ?_
          intro _ hw'
          obtain ⟨⟨dq, osq⟩, hw''⟩ := hw'
          subst hw''
          clear z0
          go_wp2
          go_meet
          exact ⟨congrArg Value.bool (by rw [← HSM.out, HD.out]; rfl), (Ext.refl w5).regrown dq osq⟩
        have hd : decide (0 < (k : Int)) = true := by simp; omega
        have HD := Lib.hid (show (decide (0 < k) : Bool) = true from decide_eq_true hk0)
        have y0 := E5.cell (HC.out (k - 1) _ (HYY.out hk0) 0 _ rfl)
        simp only [Nat.add_zero] at y0
        have y0 := cell_in_class y0
        have n1 : (k : Int) - 1 < (cs.length : Int) := by omega
        have n2 : (1 : Int) ≤ (k : Int) := by omega
        have n3 : (0 : Int) ≤ (k : Int) - 1 := by omega
        have n4 : IntKind.i64.wrap ((k : Int) - 1) = (k : Int) - 1 := IntWalk.i64_in _ (by omega)
        have n5 : ((k : Int) - 1).toNat = k - 1 := by omega
        refine wp_region_quiet_below mixed (by kernel_rfl) ?_
        repeat (first | go_big_quiet_step (fail) | quiet_step (fail))
        refine wpQuiet_nil ?_
        intro _ hw'
        obtain ⟨⟨dq, osq⟩, hw''⟩ := hw'
        subst hw''
        clear z0 y0
        go_wp2
        go_meet
        exact ⟨congrArg Value.bool (by rw [← HSM.out, HD.out]; rfl), (Ext.refl w5).regrown dq osq⟩
      case rest =>
      obtain ⟨rfl, E6⟩ := hcut
      have E56 := Ext.trans E5 E6
      have hE6 := Ext.trans hE E56
      have hE6' := Ext.trans hE' E56
      have x0 := E6.cell x0
      have ho6 := E56.owns ho
      clear ho
      cases sm
      case true =>
        have HK : Hid (lostK (lostP l cs day) cs (k + 1) = lostK (lostP l cs day) cs k) := Lib.hid (by
          have h := HSM.out
          simp only [Bool.and_eq_true, decide_eq_true_eq, beq_iff_eq] at h
          exact HSAME.out h.1 h.2)
        go_wp2
        go_roundw
        case rel => exact ⟨k + 1, by omega, by go_num, by rw [HK.out]; exact ho6, hE6⟩
        case measure => simp [intOf]; omega
      have HCN : Hid ((lostK (lostP l cs day) cs k).contains p1 = false) := Lib.hid (HNEW.out fun h => by
        have h2 := HSM.out
        rw [decide_eq_true h.1, h.2] at h2
        simp at h2)
      have k3' := hE6.cell k3
      have k5' := hE6.cell k5
      have HCF := containsFuncCopy_ok 74 #[.pointer (some ⟨wr.heap.size, 0, none⟩), .pointer (some ⟨w.heap.size, 0, none⟩), .pointer (some ⟨w.heap.size + 1, 0, none⟩)] (fun d => d.re == p1 && decide (day ≤ lastR l d.fo)) cs _ _ enters_lost1 (fun d w' hm hw' => lost1_ok l d day p1 _ _ _ _ w' (HMB.out d hm).2.1 (hv.mono (Ext.trans hE6' hw')) hl HLL.out (hw'.cell x0) (hw'.cell k3') (hw'.cell k5')) (hc.mono hE6') hcl
      obtain ⟨an, han⟩ : ∃ b, (cs.any fun d => d.re == p1 && decide (day ≤ lastR l d.fo)) = b := ⟨_, rfl⟩
      have HP : Hid (lostP l cs day p1 = !an) := Lib.hid (by rw [lostP, han])
      rw [han] at HCF
      clear han HSAME HNEW HSM
      go_wp2_with fail
      refine HCF.mono ?_
      rintro e w7 ⟨rfl, E7⟩
      have x0 := E7.cell x0
      have ho7 := E7.owns ho6
      have hE7 := Ext.trans hE6 E7
      clear HCF k3' k5'
      cases an
      case true =>
        have HK := Lib.hid (HNO.out HP.out)
        go_wp2
        go_roundw
        case rel => exact ⟨k + 1, by omega, by go_num, by rw [HK.out]; exact ho7, hE7⟩
        case measure => simp [intOf]; omega
      have HK := Lib.hid (HA.out HP.out HCN.out)
      go_wp2_with (at_builtin; refine wpl_append1 w1 _ rfl _ _ 30 rfl 3 _ 1 8 Tryd.underlying30 Tryd.infoInt rfl (by decide) (by decide) _ _ _ hE7 ho7 ?c1 [.int .i64 (p1)] rfl rfl rfl (encI_one _) ?_)
      case c1 => omega
      intro v' w8 o8 E8 _
      go_wp2
      go_roundw
      case rel => exact ⟨k + 1, by omega, by go_num, by rw [HK.out]; simpa [encI] using o8, E8⟩
      case measure => simp [intOf]; omega
    · have HE : Hid (lostK (lostP l cs day) cs k = N) := Lib.hid (by rw [show k = cs.length by omega]; exact HN.out.symm)
      rw [HE.out] at ho
      go_wp2
      go_ret2
      exact ⟨_, rfl, owns_mono ho E1'.size, hE'⟩
end Go.Proofs.YtefabcnifbnehaaDoor
