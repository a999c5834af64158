/- What slices.Insert leaves, told of the list of events; without a program; no condition beyond what is named. -/
import Derived.Test.YtkbhonafbecbfaaCopyS
namespace Go.Rd
open Go.Sort Go.RowKit
theorem flat_takeC {α : Type} (enc : α → List Value) (sz : Nat) (henc : ∀ x, (enc x).length = sz) (l : List α) (k : Nat) (hk : k ≤ l.length) : (l.flatMap enc).take (k * sz) = (l.take k).flatMap enc := by
  have hl : ((l.take k).flatMap enc).length = k * sz := flat_take_length enc sz henc l k hk
  conv => lhs; rw [← List.take_append_drop k l, List.flatMap_append]
  rw [List.take_append_of_le_length (by omega), List.take_of_length_le (by omega)]
theorem flat_dropC {α : Type} (enc : α → List Value) (sz : Nat) (henc : ∀ x, (enc x).length = sz) (l : List α) (k : Nat) (hk : k ≤ l.length) : (l.flatMap enc).drop (k * sz) = (l.drop k).flatMap enc := by
  have hl : ((l.take k).flatMap enc).length = k * sz := flat_take_length enc sz henc l k hk
  conv => lhs; rw [← List.take_append_drop k l, List.flatMap_append]
  rw [List.drop_append_of_le_length (by omega), List.drop_of_length_le (by omega), List.nil_append]
theorem addEL_owns2 {w : World} {v : Value} {l : List Evt} {k b N : Nat} {E : TypeId} {e : Evt} (hk : k ≤ l.length) (hL : lessE l e.ki = k) (h : w.ownsRow b E 2 v N ((l.flatMap Evt.enc).take (k * 2) ++ (Evt.enc e ++ (l.flatMap Evt.enc).drop (k * 2)))) :
    w.ownsRow b E 2 v N ((addEL l e).flatMap Evt.enc) := by
  have e2 : (addEL l e).flatMap Evt.enc = (l.flatMap Evt.enc).take (k * 2) ++ (Evt.enc e ++ (l.flatMap Evt.enc).drop (k * 2)) := by
    rw [flat_takeC _ _ Evt.enc_len _ _ hk, flat_dropC _ _ Evt.enc_len _ _ hk]
    unfold addEL; rw [hL]; simp [List.flatMap_append]
  rw [e2]; exact h
end Go.Rd
