/- What DueRecords and NextDue compute; no condition beyond the lengths that are named. -/
import Derived.Test.YtkbhonafbecbfaaDueR
namespace Go.Proofs.Ytkbhonafbecbfaa
open Go.RowKit Go.Sort Go.Rd
end Go.Proofs.Ytkbhonafbecbfaa
