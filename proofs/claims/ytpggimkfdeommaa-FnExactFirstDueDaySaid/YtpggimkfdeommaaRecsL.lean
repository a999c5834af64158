/- What the tests of lists of records compute; no condition beyond the lengths that are named. -/
import Derived.Test.YtpggimkfdeommaaRecs
namespace Go.Proofs.Ytpggimkfdeommaa
open Go.RowKit Go.Sort Go.Rd
theorem geRec_not (a b : Rec) : decide (b.id ≤ a.id) = !ltRec a b := by
  unfold ltRec; rw [Bool.eq_iff_iff]; simp
end Go.Proofs.Ytpggimkfdeommaa
