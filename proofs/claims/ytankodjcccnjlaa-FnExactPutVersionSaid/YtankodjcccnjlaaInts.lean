/- What the law's own helpers for slices of integers compute; no condition beyond the lengths that are named. -/
import Derived.Test.YtankodjcccnjlaaRows
import Derived.Test.YtankodjcccnjlaaData
namespace Go.Proofs.Ytankodjcccnjlaa
open Go.RowKit Go.Sort Go.Rd

theorem Try.infoInt : (Try.prog.info? 3).map (fun i => (i.zero, i.size, i.bytes)) = some (some (.int .i64 0), 1, 8) := by kernel_rfl





end Go.Proofs.Ytankodjcccnjlaa
