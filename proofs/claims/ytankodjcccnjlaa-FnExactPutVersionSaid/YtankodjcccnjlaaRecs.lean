/- What the tests of days, events and records compute; no condition beyond the lengths that are named. -/
import Derived.Test.YtankodjcccnjlaaRecData
import Derived.Test.YtankodjcccnjlaaNestBase
import Derived.Test.YtankodjcccnjlaaCore
import Derived.Test.YtankodjcccnjlaaRules
namespace Go.Proofs.Ytankodjcccnjlaa
open Go.RowKit Go.Sort Go.Rd

set_option maxHeartbeats 400000 in
theorem l2Day_ok (x : Int) (w : World) : Calls Try.prog 29 #[.int .i64 x] w fun e w' => e = .returned (.bool (inB x 0 20000)) ∧ w = w' := by
  go_enter Try.func29, Try.ntmps29
  go_wp2_with fail
  refine (l1In_ok x 0 20000 _).mono ?_
  rintro e w' ⟨rfl, rfl⟩
  go_wp2
  go_ret
  exact ⟨rfl, rfl⟩
set_option maxHeartbeats 400000 in
theorem isDay_ok (x : Int) (w : World) : Calls Try.prog 32 #[.int .i64 x] w fun e w' => e = .returned (.bool (inB x 0 20000)) ∧ w = w' := by
  go_enter Try.func32, Try.ntmps32
  go_wp2_with fail
  refine (within_ok x 0 20000 _).mono ?_
  rintro e w' ⟨rfl, rfl⟩
  go_wp2
  go_ret
  exact ⟨rfl, rfl⟩
theorem geE_not (a b : Evt) : decide (b.ki ≤ a.ki) = !ltE a b := by
  unfold ltE; rw [Bool.eq_iff_iff]; simp
theorem okEv_or (ma : Int) (e : Evt) : (!okE e || decide (e.dy < ma)) = !okEv ma e := by
  unfold okEv; cases okE e <;> simp
theorem okRec_all (r : Rec) : okRec r = (inB r.id 1 999 && inB r.se 1 99 && inB r.ma 0 20000 && decide (r.evs.length ≤ 6) && goodE r.ma r.evs) := rfl

end Go.Proofs.Ytankodjcccnjlaa
