/- What the program's DropTriggers computes; no condition beyond the lengths that are named. -/
import Derived.Test.YteaaiiodnejmmaaTrigsC
import Derived.Test.YteaaiiodnejmmaaSlTrigger
import Derived.Shelf.Abstract
namespace Go.Proofs.Yteaaiiodnejmmaa
open Go.RowKit Go.Sort Go.Rd

set_option maxHeartbeats 400000 in
theorem dropT1_ok (x : Trig) (ev : Int) (b : Nat) (w : World) (hc : w.cell? ⟨b, 0, none⟩ = some (.int .i64 ev)) :
    Calls Try.prog 53 #[.agg #[.int .i64 x.ev, .int .i64 x.af, .int .i64 x.dy], .pointer (some ⟨b, 0, none⟩)] w fun e w' => e = .returned (.bool (!keepT ev x)) ∧ Ext w w' := by
  obtain ⟨p1, p2, p3⟩ := x
  have hb := block_lt_of_cell hc
  have hne : b ≠ w.heap.size := by have : b < w.heap.size := hb; omega
  have hc2 := cell_alloc hc
  cases h1 : (p1 == ev) <;> cases h2 : (p2 == ev)
  all_goals
    have HR := Lib.hid (show (!keepT ev ⟨p1, p2, p3⟩) = (((p1 == ev)) || (p2 == ev)) by simp [keepT, bne])
    go_enter Try.func53, Try.ntmps53
    go_wp2
    go_ret
    exact ⟨ret_bool (by rw [HR.out, h1, h2]; rfl), (Ext.refl _).alloc _⟩
theorem enters_dropT1 : ∀ args w, (callFunc 53 args).run Try.prog w = .ok (.enter 53 args) w := enters_of Try.func53 (by kernel_rfl) rfl

set_option maxHeartbeats 1000000 in
theorem dropTriggers_ok (l : List Trig) (ev : Int) (v : Value) (w : World) (hv : Reads w 3 v l.length (l.flatMap Trig.enc)) (hl : l.length ≤ 1048576) :
    Calls Try.prog 19 #[v, .int .i64 ev] w (RetOwnB w 58 3 (dropL l ev).length ((dropL l ev).flatMap Trig.enc) (dropOk l ev)) := by
  have hv0 := hv.mono ((Ext.refl w).alloc (.cells #[.int .i64 ev] 3))
  have hbox : (w.alloc (.cells #[.int .i64 ev] 3)).cell? ⟨w.heap.size, 0, none⟩ = some (.int .i64 ev) := by simp
  cases hok : dropOk l ev
  case false =>
    have HN := Lib.hid (dropL_no hok)
    cases hg : goodT l
    case false =>
      clear hok
      go_enter Try.func19, Try.ntmps19
      go_wp2_with fail
      refine (areTriggers_ok l _ _ hv0 hl).mono ?_
      rintro e w1 ⟨rfl, E1⟩
      have E1' := Ext.trans ((Ext.refl w).alloc _) E1
      go_wp2
      go_ret2
      rw [HN.out]
      exact ⟨_, rfl, World.ownsRow_nil _ _ _ _, E1'⟩
    case true =>
      have hb : inB ev 0 9 = false := by simpa [dropOk, hg] using hok
      clear hok
      go_enter Try.func19, Try.ntmps19
      go_wp2_with fail
      refine (areTriggers_ok l _ _ hv0 hl).mono ?_
      rintro e w1 ⟨rfl, E1⟩
      have E1' := Ext.trans ((Ext.refl w).alloc _) E1
      have c1 := E1.cell hbox
      go_wp2_with (go_at_call 47; refine (isKind_ok _ _).mono ?_; rintro e w' ⟨rfl, rfl⟩)
      go_ret2
      rw [HN.out]
      exact ⟨_, rfl, World.ownsRow_nil _ _ _ _, E1'⟩
  have HN := Lib.hid (dropL_yes hok)
  have hg : goodT l = true := by simp only [dropOk, Bool.and_eq_true] at hok; exact hok.1
  have hb : inB ev 0 9 = true := by simp only [dropOk, Bool.and_eq_true] at hok; exact hok.2
  clear hok
  go_enter Try.func19, Try.ntmps19
  go_wp2_with fail
  refine (areTriggers_ok l _ _ hv0 hl).mono ?_
  rintro e w1 ⟨rfl, E1⟩
  have E1' := Ext.trans ((Ext.refl w).alloc _) E1
  have c1 := E1.cell hbox
  go_wp2_with (go_at_call 47; refine (isKind_ok _ _).mono ?_; rintro e w' ⟨rfl, rfl⟩)
  refine (cloneTrigger_ok l _ _ (hv.mono E1') hl).mono ?_
  rintro e w2 ⟨v2, rfl, o2, E2⟩
  have c2 := E2.cell c1
  have hbs : w.heap.size < w1.heap.size := block_lt_of_cell c1
  go_wp2_with fail
  have HD := deleteFuncTrigger_ok w1.heap.size 53 #[.pointer (some ⟨w.heap.size, 0, none⟩)] (fun x => !keepT ev x) l v2 w2 enters_dropT1 (fun x w' h => dropT1_ok x ev w.heap.size w' ((Below.cell (p := ⟨w.heap.size, 0, none⟩) h hbs).trans c2)) o2 hl E2.size
  refine HD.mono ?_
  rintro e w3 ⟨v3, rfl, o3, B3⟩
  have E3 : Ext w w3 := Below.trans (Ext.trans E1' E2) (Below.mono B3 (by omega))
  go_wp2
  go_ret2
  rw [HN.out]
  simp only [Bool.not_not] at o3
  exact ⟨_, rfl, owns_mono o3 (by omega), E3⟩
end Go.Proofs.Yteaaiiodnejmmaa
