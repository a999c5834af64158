/- For every two integers the law FnExactNextSeed returns true, and its arguments read as they did; no condition. -/
import Derived.Test.YteaaiiodnejmmaaRows
import Derived.WalkKit
import Derived.WalkSpells
import Derived.WalkLawsBesides
import Derived.ProofKit
import Derived.OpenShut
import Derived.Lib.Hide
namespace Go.Proofs.Yteaaiiodnejmmaa.fnExactNextSeed
open Go.ChangeShapes Go.WideShapes Go.ChangeAt Go.RowKit
set_option linter.unusedVariables false

def seedN : Nat → Int → Int
  | 0, s => s
  | n + 1, s => seedN n ((5 * s + 1) % 100000)
theorem seedN_succ (n : Nat) : ∀ s, seedN (n + 1) s = (5 * seedN n s + 1) % 100000 := by
  induction n with
  | zero => intro s; rfl
  | succ n ih => intro s; rw [seedN, ih]; rfl
theorem seedN_bd (n : Nat) (s : Int) (h0 : 0 ≤ s) (h1 : s ≤ 99999) : 0 ≤ seedN n s ∧ seedN n s ≤ 99999 := by
  induction n generalizing s with
  | zero => exact ⟨h0, h1⟩
  | succ n ih => rw [seedN]; exact ih _ (by omega) (by omega)
def inRange (s t : Int) : Bool := decide (0 ≤ s ∧ s ≤ 99999 ∧ 0 ≤ t ∧ t ≤ 1000)

set_option maxHeartbeats 400000 in
theorem spec_no (s t : Int) (w : World) (h : inRange s t = false) :
    Calls Try.prog 11 #[.int .i64 s, .int .i64 t] w fun e w' => e = .returned (.tuple #[.int .i64 0, .bool false]) ∧ w = w' := by
  have h := of_decide_eq_false h
  by_cases h0 : 0 ≤ s <;> by_cases h1 : s ≤ 99999 <;> by_cases h2 : 0 ≤ t <;> by_cases h3 : t ≤ 1000 <;> first | (exfalso; omega) | skip
  all_goals
    clear h
    go_enter Try.func11, Try.ntmps11
    go_wp2
    go_ret2
    exact ⟨rfl, rfl⟩
set_option maxHeartbeats 400000 in
theorem spec_yes (s t : Int) (w : World) (h : inRange s t = true) :
    Calls Try.prog 11 #[.int .i64 s, .int .i64 t] w fun e w' => e = .returned (.tuple #[.int .i64 (seedN t.toNat s), .bool true]) ∧ w = w' := by
  obtain ⟨h0, h1, h2, h3⟩ := of_decide_eq_true h
  clear h
  go_enter Try.func11, Try.ntmps11
  go_wp2
  go_loop [0, 6] (fun a i => ∃ k : Nat, k ≤ t ∧ i = .int .i64 k ∧ a = .int .i64 (seedN k s)) (fun _ i => (t - intOf i).toNat)
  case atStart => exact ⟨0, by omega, rfl, rfl⟩
  case round =>
    obtain ⟨k, hk, rfl, rfl⟩ := hrel
    have hb := seedN_bd k s h0 h1
    by_cases hlt : (k : Int) < t
    · have HS := Lib.hid (seedN_succ k s)
      go_wp2
      go_round
      case rel => exact ⟨k + 1, by omega, by go_num, by rw [HS.out]; rfl⟩
      case measure => simp [intOf]; omega
    · have HT : Hid (t.toNat = k) := (by omega : t.toNat = k)
      go_wp2
      go_ret2
      refine ⟨?_, rfl⟩
      rw [HT.out]; rfl
set_option maxHeartbeats 400000 in
theorem impl_no (s t : Int) (w : World) (h : inRange s t = false) :
    Calls Try.prog 12 #[.int .i64 s, .int .i64 t] w fun e w' => e = .returned (.tuple #[.int .i64 0, .bool false]) ∧ w = w' := by
  have h := of_decide_eq_false h
  by_cases h0 : 0 ≤ s <;> by_cases h1 : s ≤ 99999 <;> by_cases h2 : 0 ≤ t <;> by_cases h3 : t ≤ 1000 <;> first | (exfalso; omega) | skip
  all_goals
    clear h
    go_enter Try.func12, Try.ntmps12
    go_wp2
    go_ret2
    exact ⟨rfl, rfl⟩
set_option maxHeartbeats 400000 in
theorem impl_yes (s t : Int) (w : World) (h : inRange s t = true) :
    Calls Try.prog 12 #[.int .i64 s, .int .i64 t] w fun e w' => e = .returned (.tuple #[.int .i64 (seedN t.toNat s), .bool true]) ∧ w = w' := by
  obtain ⟨h0, h1, h2, h3⟩ := of_decide_eq_true h
  clear h
  go_enter Try.func12, Try.ntmps12
  go_wp2
  go_loop [0, 15] (fun a i => ∃ k : Nat, k ≤ t ∧ i = .int .i64 k ∧ a = .int .i64 (seedN k s)) (fun _ i => (t - intOf i).toNat)
  case atStart => exact ⟨0, by omega, rfl, rfl⟩
  case round =>
    obtain ⟨k, hk, rfl, rfl⟩ := hrel
    have hb := seedN_bd k s h0 h1
    by_cases hlt : (k : Int) < t
    · have HS := Lib.hid (seedN_succ k s)
      go_wp2
      go_round
      case rel => exact ⟨k + 1, by omega, by go_num, by rw [HS.out]; rfl⟩
      case measure => simp [intOf]; omega
    · have HT : Hid (t.toNat = k) := (by omega : t.toNat = k)
      go_wp2
      go_ret2
      refine ⟨?_, rfl⟩
      rw [HT.out]; rfl

theorem own : ownKnob Try.prog.godebug = none := by kernel_rfl

set_option maxHeartbeats 400000 in
theorem walk (a0 : Int) (a1 : Int) (w0 : (Lit.int .i64 a0).wf = true) (w1 : (Lit.int .i64 a1).wf = true) (w : World) :
    Calls Try.prog 3 #[.int .i64 a0, .int .i64 a1] w fun e w' => e = .returned (.bool true) ∧ Grown w w' := by
  cases h : inRange a0 a1 with
  | false =>
    have HH := Lib.hid h
    clear h w0 w1
    go_enter Try.func3, Try.ntmps3
    go_wp2_with (first | (go_at_call 11; refine (spec_no _ _ _ HH.out).mono ?_; rintro e w' ⟨rfl, rfl⟩) | (go_at_call 12; refine (impl_no _ _ _ HH.out).mono ?_; rintro e w' ⟨rfl, rfl⟩))
    go_ret
    exact ⟨rfl, Grown.refl _⟩
  | true =>
    have HH := Lib.hid h
    clear h w0 w1
    go_enter Try.func3, Try.ntmps3
    go_wp2_with (first | (go_at_call 11; refine (spec_yes _ _ _ HH.out).mono ?_; rintro e w' ⟨rfl, rfl⟩) | (go_at_call 12; refine (impl_yes _ _ _ HH.out).mono ?_; rintro e w' ⟨rfl, rfl⟩))
    go_ret
    exact ⟨rfl, Grown.refl _⟩

set_option maxRecDepth 100000 in
theorem lifted (os : Os) (started : os.Started) (H : Type) (enc : TypeId × Value → H) :
    ReturnsInHanded {} Try.checked os 3 .any (Rows.fnExactNextSeedSpec.pre6 enc Try.prog Try.f3 Rows.fnExactNextSeedRow.domain false) (Rows.fnExactNextSeedSpec.post enc Try.prog Try.f3 false true false false) := by
  refine returnsInHanded_of_change (C := Try.checked) own started (by kernel_rfl) Try.func3
    (ChangeSpec.witness6 (enc := enc) (C := Try.checked) false ⟨#[], #[.int .i64 0, .int .i64 0], []⟩ 8 (by kernel_rfl) (by kernel_rfl) (by kernel_rfl) (by kernel_rfl)) ?_
  intro W base args ds gs before hval0 hW hcnd _
  have hval : ∀ (j : Nat) t v, Try.f3.params[j]? = some t → args[j]? = some v → Value.okWide Try.prog W .any base t v := hval0
  have hW' := hW
  obtain ⟨p, q, hA0, hV, rfl, hfz, hnd⟩ := hW
  have hA : DataW.TrodAll enc Try.prog W 0 (fun _ => true) true Try.f3.params.toList args.toList ds p := hA0
  rw [Try.params3] at hA hval
  obtain ⟨v0, vs0, d0, ds0, p0, q0, hargs, rfl, rfl, h0, r0⟩ := trodAll_cons hA
  obtain ⟨v1, vs1, d1, ds1, p1, q1, rfl, rfl, rfl, h1, r1⟩ := trodAll_cons r0
  obtain ⟨rfl, rfl, rfl⟩ := trodAll_nil r1
  obtain rfl : args = #[v0, v1] := by cases args; simp_all
  obtain ⟨rfl, rfl⟩ := trodVars_none hV
  obtain ⟨a0, rfl, rfl, rfl, w0⟩ := open_int Try.underlying3 (hval 0 3 v0 rfl rfl) h0
  obtain ⟨a1, rfl, rfl, rfl, w1⟩ := open_int Try.underlying3 (hval 1 3 v1 rfl rfl) h1
  clear hA0 hval0
  simp only [List.append_nil] at hW'
  refine (walk a0 a1 w0 w1 W).mono fun e W' ⟨he, hg⟩ => ?_
  subst he
  exact ⟨_, rfl, post_of_same (pa := []) (pv := []) hW' (fun _ _ _ => (trodAll_cons_mk (shut_bool Try.underlying4 _) trodAll_mk0)) (fun sp _ => (trodAll_cons_mk (shut_int Try.underlying3 w0) (trodAll_cons_mk (shut_int Try.underlying3 w1) trodAll_mk0))) (fun _ _ => rfl) rfl
    (hg.frame _) hg.2.1 (ok_one (by kernel_rfl) rfl (okWide_bool_mk Try.underlying4 _))⟩

theorem over : Rows.fnExactNextSeedRow.holds Try.pinned (OpenSpec.ofChange Rows.fnExactNextSeedSpec) :=
  OpenClaim.holds_of_wide 3 Try.f3 rfl rfl rfl rfl rfl rfl rfl ⟨rfl, rfl, rfl, rfl, rfl⟩ rfl rfl rfl rfl rfl (by kernel_rfl) Try.func3 (by kernel_rfl)
    (of_decide_eq_true (by kernel_rfl)) (by unfold Func.isWrapper; first | (rw [if_pos (by decide +kernel)]; kernel_rfl) | (rw [if_neg (by decide +kernel)]; exact ⟨rfl, rfl⟩))
    (fun os started H enc _ => lifted os started H enc)

theorem proved : Rows.FnExactNextSeedSaid :=
  over
#print axioms proved
end Go.Proofs.Yteaaiiodnejmmaa.fnExactNextSeed
