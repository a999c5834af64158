/- What days of events and ends of periods compute; no condition beyond the lengths and lists that are named. -/
import Derived.Test.YtkbhonafbecbfaaRecsL
import Derived.Test.YtkbhonafbecbfaaRules2
import Derived.Test.YtkbhonafbecbfaaSlEvent
import Derived.Shelf.Abstract
namespace Go.Proofs.Ytkbhonafbecbfaa
open Go.RowKit Go.Sort Go.Rd
set_option maxHeartbeats 1000000 in
theorem l2DayOf_ok (r : Rec) (sv : Value) (kind : Int) (w : World) (hv : Rec.At w (r, sv)) (hl : r.evs.length ≤ 1048576) :
    Calls Try.prog 128 #[.agg #[.int .i64 r.id, .int .i64 r.se, .int .i64 r.ma, sv], .int .i64 kind] w fun e w' => e = .returned (.int .i64 (negO (dayOf r kind))) ∧ Ext w w' := by
  rcases r with ⟨id, se, ma, l⟩
  obtain ⟨a, cap, hs⟩ := Reads.shape hv
  have hv : Reads w 2 sv l.length (l.flatMap Evt.enc) := hv
  simp only at hs hl ⊢
  subst hs
  obtain ⟨res, hres⟩ : ∃ b, dayOf ⟨id, se, ma, l⟩ kind = b := ⟨_, rfl⟩
  rw [hres]
  cases hk0 : (kind == 0)
  case true =>
    have HF : Hid (res = some ma) := (hres.symm.trans (dayOf_zero hk0) : res = some ma)
    clear hres
    go_enter Try.func128, Try.ntmps128
    go_wp2
    go_ret
    rw [HF.out]
    exact ⟨rfl, (Ext.refl _).alloc _⟩
  have HF : Hid (res = (l.find? fun e => e.ki == kind).map (·.dy)) := (hres.symm.trans (dayOf_pos hk0) : res = (l.find? fun e => e.ki == kind).map (·.dy))
  clear hres
  obtain ⟨wB, hwB⟩ : ∃ wB, wB = w.alloc (.cells #[.int .i64 id, .int .i64 se, .int .i64 ma, .slice a l.length cap] 45) := ⟨_, rfl⟩
  have EB : Ext w wB := by rw [hwB]; exact (Ext.refl w).alloc _
  have b3 : wB.cell? ⟨w.heap.size, 3, none⟩ = some (.slice a l.length cap) := by rw [hwB]; simp
  have hvB := hv.mono EB
  go_enter Try.func128, Try.ntmps128
  go_wp2
  rw [← hwB]
  clear hwB hv
  go_loop [5] (fun i => ∃ k : Nat, k ≤ l.length ∧ i = .int .i64 k ∧ Hid (∀ j y, j < k → l[j]? = some y → (y.ki == kind) = false)) (fun i => l.length - (intOf i).toNat)
  case atStart => exact ⟨0, Nat.zero_le _, rfl, Lib.hid fun j x h => by omega⟩
  case round =>
    obtain ⟨k, hk, rfl, HALL⟩ := hrel
    by_cases hlt : k < l.length
    · obtain ⟨b, off, rfl, hc⟩ := Reads.elems Evt.enc_len hvB (by omega)
      obtain ⟨⟨p1, p2⟩, hx⟩ := get_of_lt hlt
      have c0 := hc k _ hx 0 _ rfl
      have c1 := hc k _ hx 1 _ rfl
      simp only [Nat.add_zero] at c0
      have HX := Lib.hid hx
      clear hc hx hvB
      cases hp : (p1 == kind)
      case false =>
        go_wp2
        go_round
        case rel =>
          refine ⟨k + 1, by omega, by go_num, Lib.hid fun j y hj hy => ?_⟩
          by_cases hjk : j < k
          · exact HALL.out j y hjk hy
          · have : j = k := by omega
            subst this
            have := hy.symm.trans HX.out
            simp only [Option.some.injEq] at this
            rw [this]; exact hp
        case measure => simp [intOf]; omega
      case true =>
        have HR : Hid (res = some p2) := (by rw [HF.out, find_first (p := fun e : Evt => e.ki == kind) HX.out hp HALL.out]; rfl : res = some p2)
        go_wp2
        go_ret
        rw [HR.out]
        exact ⟨rfl, EB⟩
    · have HR : Hid (res = none) := (by rw [HF.out, find_none (p := fun e : Evt => e.ki == kind) (l := l) fun j y hy => HALL.out j y (by have := (List.getElem?_eq_some_iff.1 hy).1; omega) hy]; rfl : res = none)
      go_wp2
      go_ret
      rw [HR.out]
      exact ⟨rfl, EB⟩
set_option maxHeartbeats 400000 in
theorem eventAt1_ok (x : Evt) (kind : Int) (b : Nat) (w : World) (hc : w.cell? ⟨b, 0, none⟩ = some (.int .i64 kind)) :
    Calls Try.prog 172 #[.agg #[.int .i64 x.ki, .int .i64 x.dy], .pointer (some ⟨b, 0, none⟩)] w fun e w' => e = .returned (.bool (x.ki == kind)) ∧ Ext w w' := by
  obtain ⟨p1, p2⟩ := x
  have hb := block_lt_of_cell hc
  have hne : b ≠ w.heap.size := by have : b < w.heap.size := hb; omega
  have hc2 := cell_alloc hc
  go_enter Try.func172, Try.ntmps172
  go_wp2
  go_ret
  exact ⟨rfl, (Ext.refl _).alloc _⟩
theorem enters_eventAt1 : ∀ args w, (callFunc 172 args).run Try.prog w = .ok (.enter 172 args) w := enters_of Try.func172 (by kernel_rfl) rfl
set_option maxHeartbeats 1000000 in
theorem eventAt_ok (r : Rec) (sv : Value) (kind : Int) (w : World) (hv : Rec.At w (r, sv)) (hl : r.evs.length ≤ 1048576) :
    Calls Try.prog 161 #[.agg #[.int .i64 r.id, .int .i64 r.se, .int .i64 r.ma, sv], .int .i64 kind] w fun e w' => e = .returned (.int .i64 (idxOf (fun e => e.ki == kind) r.evs)) ∧ Ext w w' := by
  obtain ⟨a, cap, hs⟩ := Reads.shape hv
  simp only at hs
  subst hs
  obtain ⟨w2, hw2⟩ : ∃ w2, w2 = (w.alloc (.cells #[.int .i64 r.id, .int .i64 r.se, .int .i64 r.ma, .slice a r.evs.length cap] 45)).alloc (.cells #[.int .i64 kind] 3) := ⟨_, rfl⟩
  have E2 : Ext w w2 := by rw [hw2]; exact ((Ext.refl w).alloc _).alloc _
  have k1 : w2.cell? ⟨w.heap.size + 1, 0, none⟩ = some (.int .i64 kind) := by rw [hw2]; simp
  have HC := indexFuncEvent_ok 172 #[.pointer (some ⟨w.heap.size + 1, 0, none⟩)] (fun e => e.ki == kind) r.evs (.slice a r.evs.length cap) w2 enters_eventAt1 (fun x w' h => eventAt1_ok x kind _ w' (h.cell k1)) (Reads.mono E2 hv) hl
  go_enter Try.func161, Try.ntmps161
  go_wp2_with fail
  rw [← hw2]
  refine HC.mono ?_
  rintro e w3 ⟨rfl, E3⟩
  go_wp2
  go_ret
  exact ⟨rfl, Ext.trans E2 E3⟩
set_option maxHeartbeats 1000000 in
theorem dayOf_ok (r : Rec) (sv : Value) (kind : Int) (w : World) (hv : Rec.At w (r, sv)) (hl : r.evs.length ≤ 1048576) :
    Calls Try.prog 143 #[.agg #[.int .i64 r.id, .int .i64 r.se, .int .i64 r.ma, sv], .int .i64 kind] w fun e w' => e = .returned (.tuple #[.int .i64 ((dayOf r kind).getD 0), .bool (dayOf r kind).isSome]) ∧ Ext w w' := by
  obtain ⟨res, hres⟩ : ∃ b, dayOf r kind = b := ⟨_, rfl⟩
  rw [hres]
  obtain ⟨a, cap, hs⟩ := Reads.shape hv
  simp only at hs
  subst hs
  cases hk0 : (kind == 0)
  case true =>
    have HF : Hid (res = some r.ma) := (hres.symm.trans (dayOf_zero hk0) : res = some r.ma)
    clear hres
    go_enter Try.func143, Try.ntmps143
    go_wp2
    go_ret2
    rw [HF.out]
    exact ⟨rfl, (Ext.refl _).alloc _⟩
  have HF : Hid (res = (r.evs.find? fun e => e.ki == kind).map (·.dy)) := (hres.symm.trans (dayOf_pos hk0) : res = (r.evs.find? fun e => e.ki == kind).map (·.dy))
  clear hres
  obtain ⟨wB, hwB⟩ : ∃ wB, wB = w.alloc (.cells #[.int .i64 r.id, .int .i64 r.se, .int .i64 r.ma, .slice a r.evs.length cap] 45) := ⟨_, rfl⟩
  have EB : Ext w wB := by rw [hwB]; exact (Ext.refl w).alloc _
  have b3 : wB.cell? ⟨w.heap.size, 3, none⟩ = some (.slice a r.evs.length cap) := by rw [hwB]; simp
  have hvB : Rec.At wB (r, .slice a r.evs.length cap) := Reads.mono EB hv
  have HC := eventAt_ok r _ kind wB hvB hl
  go_enter Try.func143, Try.ntmps143
  go_wp2_with fail
  rw [← hwB]
  refine HC.mono ?_
  rintro e w2 ⟨rfl, E2⟩
  have c3 := E2.cell b3
  have E2' := Ext.trans EB E2
  cases hany : r.evs.any (fun e => e.ki == kind)
  case false =>
    have hall : ∀ (j : Nat) (y : Evt), r.evs[j]? = some y → (y.ki == kind) = false := fun j y hy => by
      have := List.any_eq_false.1 hany y (List.mem_of_getElem? hy)
      simpa using this
    have HN : Hid (res = none) := (by rw [HF.out, find_none (p := fun e : Evt => e.ki == kind) hall]; rfl : res = none)
    have hi : idxOf (fun e : Evt => e.ki == kind) r.evs = -1 := idxOf_none hall
    rw [hi]
    clear hall hi hany
    go_wp2
    go_ret2
    rw [HN.out]
    exact ⟨rfl, E2'⟩
  obtain ⟨i0, ⟨x1, x2⟩, hx0, hpx0, hall0⟩ := first_of_any hany
  have HN : Hid (res = some x2) := (by rw [HF.out, find_first (p := fun e : Evt => e.ki == kind) hx0 hpx0 hall0]; rfl : res = some x2)
  have hi : idxOf (fun e : Evt => e.ki == kind) r.evs = (i0 : Int) := idxOf_at hx0 hpx0 hall0
  have hlt : i0 < r.evs.length := (List.getElem?_eq_some_iff.1 hx0).1
  rw [hi]
  have hv2 : Reads w2 2 (.slice a r.evs.length cap) r.evs.length (r.evs.flatMap Evt.enc) := Reads.mono E2 hvB
  obtain ⟨b, off, rfl, hc⟩ := Reads.elems Evt.enc_len hv2 (by omega)
  have d1 := hc i0 _ hx0 1 _ rfl
  clear hall0 hi hany hx0 hpx0 hc hv2 hvB hv HC
  go_wp2
  go_ret2
  rw [HN.out]
  exact ⟨rfl, E2'⟩
end Go.Proofs.Ytkbhonafbecbfaa
