/- What ExpectedDay computes, the program's and the reference's; no condition beyond the lengths that are named. -/
import Derived.Test.YteaaiiodnejmmaaDay
namespace Go.Proofs.Yteaaiiodnejmmaa
open Go.RowKit Go.Sort Go.Rd
def eDay (l : List Trig) (ev : Int) : Option Int := if (acyB l && inB ev 0 9) = true then dayM 12 l ev else none
theorem eDay_no {l : List Trig} {ev : Int} (h : (acyB l && inB ev 0 9) = false) : eDay l ev = none := if_neg (by rw [h]; exact Bool.false_ne_true)
theorem eDay_yes {l : List Trig} {ev : Int} (h : (acyB l && inB ev 0 9) = true) : eDay l ev = dayM 12 l ev := if_pos h
theorem acyB_parts {l : List Trig} (h : acyB l = true) : goodT l = true ∧ firstCyc l = none := by
  simp only [acyB, Bool.and_eq_true, Option.isNone_iff_eq_none] at h; exact h
set_option maxHeartbeats 1000000 in
theorem expectedDay_ok (l : List Trig) (ev : Int) (vl : Value) (w : World) (hvl : Reads w 3 vl l.length (l.flatMap Trig.enc)) (hl : l.length ≤ 1048576) :
    Calls Try.prog 30 #[vl, .int .i64 ev] w fun e w' => e = .returned (.tuple #[.int .i64 ((eDay l ev).getD 0), .bool (eDay l ev).isSome]) ∧ Ext w w' := by
  cases hk : inB ev 0 9
  case false =>
    have HB := Lib.hid (eDay_no (l := l) (ev := ev) (by rw [hk, Bool.and_false]))
    go_enter Try.func30, Try.ntmps30
    go_wp2_with fail
    refine (isKind_ok ev w).mono ?_
    rintro e w' ⟨rfl, rfl⟩
    rw [hk]
    go_wp2
    go_ret2
    rw [HB.out]
    exact ⟨rfl, Ext.refl _⟩
  cases ha : acyB l
  case false =>
    have HB := Lib.hid (eDay_no (l := l) (ev := ev) (by rw [ha, Bool.false_and]))
    go_enter Try.func30, Try.ntmps30
    go_wp2_with fail
    refine (isKind_ok ev w).mono ?_
    rintro e w' ⟨rfl, rfl⟩
    rw [hk]
    go_wp2_with fail
    refine (areAcyclic_ok l vl _ hvl hl).mono ?_
    rintro e w1 ⟨rfl, E1⟩
    rw [ha]
    go_wp2
    go_ret2
    rw [HB.out]
    exact ⟨rfl, E1⟩
  have HB := Lib.hid (eDay_yes (l := l) (ev := ev) (by rw [ha, hk]; rfl))
  obtain ⟨hg, hn⟩ := acyB_parts ha
  go_enter Try.func30, Try.ntmps30
  go_wp2_with fail
  refine (isKind_ok ev w).mono ?_
  rintro e w' ⟨rfl, rfl⟩
  rw [hk]
  go_wp2_with fail
  refine (areAcyclic_ok l vl _ hvl hl).mono ?_
  rintro e w1 ⟨rfl, E1⟩
  rw [ha]
  go_wp2_with fail
  refine (expected_ok l vl hl hg hn 12 [] ev _ (by omega) (.inr (start_ok l ev).1) (by omega) (start_ok l ev).2 (hvl.mono E1)).mono ?_
  rintro e w2 ⟨rfl, E2⟩
  unfold optE
  go_wp2
  go_ret2
  rw [HB.out]
  exact ⟨rfl, Ext.trans E1 E2⟩
theorem optE_none : optE none = .tuple #[.int .i64 0, .bool false] := rfl
theorem optE_some (d : Int) : optE (some d) = .tuple #[.int .i64 d, .bool true] := rfl
set_option maxHeartbeats 1000000 in
theorem specExpectedDay_ok (l : List Trig) (ev : Int) (vl : Value) (w : World) (hvl : Reads w 3 vl l.length (l.flatMap Trig.enc)) (hl : l.length ≤ 1048576) :
    Calls Try.prog 29 #[vl, .int .i64 ev] w fun e w' => e = .returned (.tuple #[.int .i64 ((eDay l ev).getD 0), .bool (eDay l ev).isSome]) ∧ Ext w w' := by
  cases ha : acyB l
  case false =>
    have HB := Lib.hid (eDay_no (l := l) (ev := ev) (by rw [ha, Bool.false_and]))
    go_enter Try.func29, Try.ntmps29
    go_wp2_with fail
    refine (l10Free_ok l vl _ hvl hl).mono ?_
    rintro e w1 ⟨rfl, E1⟩
    rw [ha]
    go_wp2
    go_ret2
    rw [HB.out]
    exact ⟨rfl, E1⟩
  obtain ⟨hg, hn⟩ := acyB_parts ha
  cases hk : inB ev 0 9
  case false =>
    have HB := Lib.hid (eDay_no (l := l) (ev := ev) (by rw [hk, Bool.and_false]))
    go_enter Try.func29, Try.ntmps29
    go_wp2_with fail
    refine (l10Free_ok l vl _ hvl hl).mono ?_
    rintro e w1 ⟨rfl, E1⟩
    rw [ha]
    go_wp2_with fail
    refine (l1In_ok ev 0 9 _).mono ?_
    rintro e w' ⟨rfl, rfl⟩
    rw [hk]
    go_wp2
    go_ret2
    rw [HB.out]
    exact ⟨rfl, E1⟩
  have HB := Lib.hid (eDay_yes (l := l) (ev := ev) (by rw [ha, hk]; rfl))
  cases hd : dayM 12 l ev with
  | none =>
    have HN := Lib.hid (HB.out.trans hd)
    go_enter Try.func29, Try.ntmps29
    go_wp2_with fail
    refine (l10Free_ok l vl _ hvl hl).mono ?_
    rintro e w1 ⟨rfl, E1⟩
    rw [ha]
    go_wp2_with fail
    refine (l1In_ok ev 0 9 _).mono ?_
    rintro e w' ⟨rfl, rfl⟩
    rw [hk]
    go_wp2_with fail
    refine (l10Day_ok l vl hl hg hn 12 [] ev _ (by omega) (.inr (start_ok l ev).1) (by omega) (start_ok l ev).2 (hvl.mono E1)).mono ?_
    rintro e w2 ⟨rfl, rfl⟩
    rw [hd]
    unfold negD
    go_wp2
    go_ret2
    rw [HN.out]
    exact ⟨rfl, E1⟩
  | some d =>
    have HN := Lib.hid (HB.out.trans hd)
    have hd0 := (dayM_bounds hg hd).1
    go_enter Try.func29, Try.ntmps29
    go_wp2_with fail
    refine (l10Free_ok l vl _ hvl hl).mono ?_
    rintro e w1 ⟨rfl, E1⟩
    rw [ha]
    go_wp2_with fail
    refine (l1In_ok ev 0 9 _).mono ?_
    rintro e w' ⟨rfl, rfl⟩
    rw [hk]
    go_wp2_with fail
    refine (l10Day_ok l vl hl hg hn 12 [] ev _ (by omega) (.inr (start_ok l ev).1) (by omega) (start_ok l ev).2 (hvl.mono E1)).mono ?_
    rintro e w2 ⟨rfl, rfl⟩
    rw [hd]
    have hneg : negD (some d) = d := rfl
    rw [hneg]
    go_wp2_with fail
    refine (l10Day_ok l vl hl hg hn 12 [] ev _ (by omega) (.inr (start_ok l ev).1) (by omega) (start_ok l ev).2 (hvl.mono E1)).mono ?_
    rintro e w3 ⟨rfl, rfl⟩
    rw [hd, hneg]
    go_wp2
    go_ret2
    rw [HN.out]
    exact ⟨rfl, E1⟩
end Go.Proofs.Yteaaiiodnejmmaa
