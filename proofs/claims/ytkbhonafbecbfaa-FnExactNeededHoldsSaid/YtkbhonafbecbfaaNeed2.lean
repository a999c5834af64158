/- What NeededHolds computes, the program's and the reference's; no condition beyond the lengths that are named. -/
import Derived.Test.YtkbhonafbecbfaaNeed
import Derived.Shelf.Abstract
namespace Go.Proofs.Ytkbhonafbecbfaa
open Go.RowKit Go.Sort Go.Rd
theorem enters_needed1 : ∀ args w, (callFunc 88 args).run Try.prog w = .ok (.enter 88 args) w := enters_of Try.func88 (by kernel_rfl) rfl
set_option maxHeartbeats 4000000 in
theorem specNeededHolds_ok (l : List Hld) (rs : List Rec) (day : Int) (v vr : Value) (w : World) (hv : Hld.Rd w v l) (hr : Rec.Rd w vr rs) (hl : l.length ≤ 1048576) (hll : ∀ h ∈ l, h.ss.length ≤ 1048576) (hrl : rs.length ≤ 1048576) (hrll : ∀ r ∈ rs, r.evs.length ≤ 1048576) :
    Calls Try.prog 34 #[v, vr, .int .i64 day] w (RetReadB w 1 (needRL l rs day).length ((needRL l rs day).flatMap encI) (heldOk l rs day)) := by
  have e0 : Ext w (w.alloc (.cells #[] 3)) := (Ext.refl w).alloc _
  obtain ⟨a, cap, rfl⟩ := hr.shape
  have HL := Lib.hid hll
  have HRL := Lib.hid hrll
  obtain ⟨N, hN⟩ : ∃ N, needRL l rs day = N := ⟨_, rfl⟩
  have HY := Lib.hid (fun h => hN.symm.trans (needRL_yes (l := l) (rs := rs) (day := day) h))
  have HF := Lib.hid (fun h => hN.symm.trans (needRL_no (l := l) (rs := rs) (day := day) h))
  rw [hN]
  obtain ⟨ok, hok⟩ : ∃ ok, heldOk l rs day = ok := ⟨_, rfl⟩
  have HOK := Lib.hid hok
  rw [hok] at HY HF ⊢
  clear hN hok hll hrll
  go_enter Try.func34, Try.ntmps34
  go_wp2_with fail
  refine (l9Good_ok l _ _ (hv.mono e0) hl HL.out).mono ?_
  rintro e w1 ⟨rfl, E1⟩
  have E1' := Ext.trans e0 E1
  cases h1 : goodHs l
  case false =>
    obtain rfl : ok = false := by rw [← HOK.out, heldOk, h1]; rfl
    obtain rfl := HF.out rfl
    go_wp2
    go_ret2
    exact ⟨_, rfl, (OutR.empty w w 3 1 _).reads.mono E1', E1'⟩
  go_wp2_with fail
  refine (l2Records_ok rs _ _ (hr.mono E1') hrl HRL.out).mono ?_
  rintro e w2 ⟨rfl, E2⟩
  have E2' := Ext.trans E1' E2
  cases h2 : goodRs rs
  case false =>
    obtain rfl : ok = false := by rw [← HOK.out, heldOk, h1, h2]; rfl
    obtain rfl := HF.out rfl
    go_wp2
    go_ret2
    exact ⟨_, rfl, (OutR.empty w w 3 1 _).reads.mono E2', E2'⟩
  go_wp2_with fail
  refine (l2Day_ok day _).mono ?_
  rintro e w' ⟨rfl, rfl⟩
  cases h3 : inB day 0 20000
  case false =>
    obtain rfl : ok = false := by rw [← HOK.out, heldOk, h1, h2, h3]; rfl
    obtain rfl := HF.out rfl
    go_wp2
    go_ret2
    exact ⟨_, rfl, (OutR.empty w w 3 1 _).reads.mono E2', E2'⟩
  obtain rfl : ok = true := by rw [← HOK.out, heldOk, h1, h2, h3]; rfl
  have HN := Lib.hid (HY.out rfl)
  clear HY HF HOK
  go_wp2
  go_loopw [8, 9] (fun out i wr => ∃ k : Nat, k ≤ rs.length ∧ i = .int .i64 k ∧ Reads wr 1 out (needS l (rs.take k) day).length ((needS l (rs.take k) day).flatMap encI) ∧ Room out ∧ Ext w2 wr) (fun _ i _ => rs.length - (intOf i).toNat)
  case atStart => exact ⟨0, Nat.zero_le _, rfl, (by have h0 : needS l (rs.take 0) day = [] := (by simp [needS, needB]); rw [h0]; exact (OutR.empty w2 w2 3 1 _).reads), Room.mk (Nat.le_refl _), Ext.refl _⟩
  case round =>
    obtain ⟨k, hk, rfl, ho, hrm, hE⟩ := hrel
    by_cases hlt : k < rs.length
    · have hE' := Ext.trans E2' hE
      obtain ⟨r, hx⟩ := get_of_lt hlt
      obtain ⟨b, off, rfl⟩ := Rec.Rd.addr (hr.mono hE') (by omega)
      obtain ⟨ca, cc, c0, c1, c2, c3, hat⟩ := Rec.Rd.cells (hr.mono hE') hx
      have H1 := Lib.hid (fun (x : Int) h => need_one (day := day) h1 hx (x := x) h)
      have H2 := Lib.hid (fun (x : Int) h h' => need_has (day := day) h1 hx (x := x) h h')
      have H3 := Lib.hid (fun h => need_other (l := l) (day := day) hx h)
      have hslen := needS_length l (rs.take k) day
      obtain ⟨S, hS⟩ : ∃ S, needS l (rs.take k) day = S := ⟨_, rfl⟩
      rw [hS] at H1 H2 H3 ho hslen
      clear hx hS
      go_wp2_with fail
      refine (l9On_ok l r day v _ _ (hv.mono hE') hat hl HL.out).mono ?_
      rintro e w4 ⟨v4, rfl, o4, E4⟩
      obtain ⟨a4, cap4, rfl⟩ := o4.shape
      have hE3 := Ext.trans hE E4
      have ho3 := Reads.mono E4 ho
      obtain ⟨ao, co, rfl⟩ := ho3.shape
      obtain ⟨O, hO⟩ : ∃ O, onL l r day = O := ⟨_, rfl⟩
      rw [hO] at H1 H2 H3 o4 ⊢
      clear hO c0 c1 c2 c3
      by_cases hone : O.length = 1
      case neg =>
        have HK := Lib.hid (H3.out hone)
        have hz : ((O.length : Int) == 1) = false := beq_eq_false_iff_ne.2 (by omega)
        clear hone
        go_wp2
        go_roundw
        case rel => exact ⟨k + 1, by omega, by go_num, by rw [HK.out]; exact ho3, hrm, hE3⟩
        case measure => simp [intOf]; omega
      obtain ⟨x, rfl⟩ : ∃ x, O = [x] := List.length_eq_one_iff.1 hone
      clear hone
      obtain ⟨b4, off4, rfl, hc4⟩ := Reads.elems encI_len o4 (by simp)
      have d0 := hc4 0 x rfl 0 _ rfl
      simp only [Nat.add_zero, Nat.mul_one] at d0
      clear hc4
      go_wp2_with fail
      refine (l1Has_ok S x _ _ ho3 (by omega)).mono ?_
      rintro e w' ⟨rfl, rfl⟩
      cases hc : S.contains x
      case true =>
        have HK := Lib.hid (H2.out x rfl hc)
        clear hc
        go_wp2
        go_roundw
        case rel => exact ⟨k + 1, by omega, by go_num, by rw [HK.out]; exact ho3, hrm, hE3⟩
        case measure => simp [intOf]; omega
      have HK := Lib.hid (H1.out x rfl)
      clear hc
      go_wp2_with fail
      refine (l1Put_ok S x _ _ ho3 hrm (by omega)).mono ?_
      rintro e w5 ⟨v5, rfl, o5, r5, E5⟩
      go_wp2
      go_roundw
      case rel => exact ⟨k + 1, by omega, by go_num, by rw [HK.out]; exact o5, r5, Ext.trans hE3 E5⟩
      case measure => simp [intOf]; omega
    · have HF : Hid (needS l (rs.take k) day = N) := Lib.hid (by rw [List.take_of_length_le (by omega)]; exact HN.out.symm)
      rw [HF.out] at ho
      go_wp2
      go_ret2
      exact ⟨_, rfl, ho, Ext.trans E2' hE⟩
set_option maxHeartbeats 4000000 in
theorem neededHolds_ok (l : List Hld) (rs : List Rec) (day : Int) (v vr : Value) (w : World) (hv : Hld.Rd w v l) (hr : Rec.Rd w vr rs) (hl : l.length ≤ 1048576) (hll : ∀ h ∈ l, h.ss.length ≤ 1048576) (hrl : rs.length ≤ 1048576) (hrll : ∀ r ∈ rs, r.evs.length ≤ 1048576) :
    Calls Try.prog 36 #[v, vr, .int .i64 day] w (RetOwnB w 3 1 (needRL l rs day).length ((needRL l rs day).flatMap encI) (heldOk l rs day)) := by
  obtain ⟨a, cap, rfl⟩ := hr.shape
  obtain ⟨av, capv, rfl⟩ := hv.shape
  have HL := Lib.hid hll
  have HRL := Lib.hid hrll
  obtain ⟨N, hN⟩ : ∃ N, needRL l rs day = N := ⟨_, rfl⟩
  have HY := Lib.hid (fun h => hN.symm.trans (needRL_yes (l := l) (rs := rs) (day := day) h))
  have HF := Lib.hid (fun h => hN.symm.trans (needRL_no (l := l) (rs := rs) (day := day) h))
  rw [hN]
  obtain ⟨ok, hok⟩ : ∃ ok, heldOk l rs day = ok := ⟨_, rfl⟩
  have HOK := Lib.hid hok
  rw [hok] at HY HF ⊢
  clear hN hok hll hrll
  obtain ⟨w0, hw0⟩ : ∃ w0, w0 = (w.alloc (.cells #[.slice av l.length capv] 24)).alloc (.cells #[.int .i64 day] 3) := ⟨_, rfl⟩
  have E0 : Ext w w0 := by rw [hw0]; exact ((Ext.refl w).alloc _).alloc _
  have k3 : w0.cell? ⟨w.heap.size, 0, none⟩ = some (.slice av l.length capv) := by rw [hw0]; simp
  have k5 : w0.cell? ⟨w.heap.size + 1, 0, none⟩ = some (.int .i64 day) := by rw [hw0]; simp
  go_enter Try.func36, Try.ntmps36
  go_wp2_with fail
  rw [← hw0]
  clear hw0
  refine (areHolds_ok l _ _ (hv.mono E0) hl HL.out).mono ?_
  rintro e w1 ⟨rfl, E1⟩
  have E1' := Ext.trans E0 E1
  have k3 := E1.cell k3
  have k5 := E1.cell k5
  cases h1 : goodHs l
  case false =>
    obtain rfl : ok = false := by rw [← HOK.out, heldOk, h1]; rfl
    obtain rfl := HF.out rfl
    go_wp2
    go_ret2
    exact ⟨_, rfl, World.ownsRow_nil _ _ _ _, E1'⟩
  go_wp2_with fail
  refine (areRecords_ok rs _ _ (hr.mono E1') hrl HRL.out).mono ?_
  rintro e w2 ⟨rfl, E2⟩
  have E2' := Ext.trans E1' E2
  have k3 := E2.cell k3
  have k5 := E2.cell k5
  cases h2 : goodRs rs
  case false =>
    obtain rfl : ok = false := by rw [← HOK.out, heldOk, h1, h2]; rfl
    obtain rfl := HF.out rfl
    go_wp2
    go_ret2
    exact ⟨_, rfl, World.ownsRow_nil _ _ _ _, E2'⟩
  go_wp2_with fail
  refine (isDay_ok day _).mono ?_
  rintro e w' ⟨rfl, rfl⟩
  cases h3 : inB day 0 20000
  case false =>
    obtain rfl : ok = false := by rw [← HOK.out, heldOk, h1, h2, h3]; rfl
    obtain rfl := HF.out rfl
    go_wp2
    go_ret2
    exact ⟨_, rfl, World.ownsRow_nil _ _ _ _, E2'⟩
  obtain rfl : ok = true := by rw [← HOK.out, heldOk, h1, h2, h3]; rfl
  have HN := Lib.hid (HY.out rfl)
  clear HY HF HOK
  go_wp2
  go_loopw [8, 26] (fun out i wr => ∃ k : Nat, k ≤ l.length ∧ i = .int .i64 k ∧ wr.ownsRow w2.heap.size 3 1 out (fmK (needB l rs day) (·.id) l k).length ((fmK (needB l rs day) (·.id) l k).flatMap encI) ∧ Ext w2 wr) (fun _ i _ => l.length - (intOf i).toNat)
  case atStart => exact ⟨0, Nat.zero_le _, rfl, by rw [fmK_zero]; exact World.ownsRow_nil _ _ _ _, Ext.refl _⟩
  case round =>
    obtain ⟨k, hk, rfl, ho, hE⟩ := hrel
    by_cases hlt : k < l.length
    · have hE' := Ext.trans E2' hE
      obtain ⟨h, hx⟩ := get_of_lt hlt
      obtain ⟨b, off, rfl⟩ := Hld.Rd.addr (hv.mono hE') (by omega)
      obtain ⟨ca, cc, c0, c1, c2, c3, c4, c5, hat⟩ := Hld.Rd.cells (hv.mono hE') hx
      have HX := Lib.hid hx
      have hflen := fmK_len (needB l rs day) (·.id) l k
      obtain ⟨w5, hw5⟩ : ∃ w5, w5 = wr.alloc (.cells #[.int .i64 h.id, .int .i64 h.fr, .int .i64 h.un, .slice ca h.ss.length cc, .int .i64 h.fi, .int .i64 h.la] 93) := ⟨_, rfl⟩
      have E5 : Ext wr w5 := by rw [hw5]; exact (Ext.refl wr).alloc _
      have y0 : w5.cell? ⟨wr.heap.size, 0, none⟩ = some (.int .i64 h.id) := by rw [hw5]; simp
      have q3 := (Ext.trans hE E5).cell k3
      have q5 := (Ext.trans hE E5).cell k5
      have hE5 := Ext.trans hE' E5
      have HC := containsFuncRecord_ok 88 #[.pointer (some ⟨w.heap.size, 0, none⟩), .pointer (some ⟨w.heap.size + 1, 0, none⟩), .pointer (some ⟨wr.heap.size, 0, none⟩)] (aloneB l day h) rs _ w5 enters_needed1 (fun r sv w' hm ha hw' => by
        obtain ⟨sa, sc, hs⟩ := Reads.shape ha
        simp only at hs
        subst hs
        exact needed1_ok l r day h.id _ _ _ _ _ w' h1 (hv.mono (Ext.trans hE5 hw')) ha hl HL.out (hw'.cell q3) (hw'.cell q5) (hw'.cell y0)) (hr.mono hE5) hrl
      change Calls _ _ _ _ (fun e w' => e = .returned (.bool (needB l rs day h)) ∧ _) at HC
      clear hx hat
      go_wp2_with fail
      rw [← hw5]
      clear hw5 c0 c1 c2 c3 c4 c5
      refine HC.mono ?_
      rintro e w4 ⟨rfl, E4⟩
      have y0 := E4.cell y0
      have E54 := Ext.trans E5 E4
      have hE3 := Ext.trans hE E54
      have ho3 := E54.owns ho
      clear HC q3 q5
      cases hp : needB l rs day h
      case false =>
        have HK := Lib.hid (fmK_no (p := needB l rs day) (f := fun x : Hld => x.id) HX.out hp)
        clear hp
        go_wp2
        go_roundw
        case rel => exact ⟨k + 1, by omega, by go_num, by rw [HK.out]; exact ho3, hE3⟩
        case measure => simp [intOf]; omega
      have HK := Lib.hid (fmK_yes (p := needB l rs day) (f := fun x : Hld => x.id) HX.out hp)
      clear hp
      go_wp2_with (at_builtin; refine wpl_append1 w2 _ rfl _ _ 67 rfl 3 _ 1 8 Try.underlying67 Try.infoInt rfl (by decide) (by decide) _ _ _ hE3 ho3 ?c1 [.int .i64 (h.id)] rfl rfl rfl (encI_one _) ?_)
      case c1 => omega
      intro v' w6 o6 E6 _
      go_wp2
      go_roundw
      case rel => exact ⟨k + 1, by omega, by go_num, by rw [HK.out]; simpa [encI] using o6, E6⟩
      case measure => simp [intOf]; omega
    · have HF : Hid (fmK (needB l rs day) (·.id) l k = N) := Lib.hid ((fmK_all _ _ (show l.length ≤ k by omega)).trans HN.out.symm)
      rw [HF.out] at ho
      go_wp2
      go_ret2
      exact ⟨_, rfl, owns_mono ho E2'.size, Ext.trans E2' hE⟩
end Go.Proofs.Ytkbhonafbecbfaa
