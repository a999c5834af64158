/- What DueRecords, NextDue and NotScheduled compute; no condition beyond the lengths that are named. -/
import Derived.Test.YtkbhonafbecbfaaDecide
import Derived.Test.YtkbhonafbecbfaaDueRData
import Derived.Test.YtkbhonafbecbfaaRecsL
import Derived.Test.YtkbhonafbecbfaaNestEl
import Derived.Test.YtkbhonafbecbfaaAppR
namespace Go.Proofs.Ytkbhonafbecbfaa
open Go.RowKit Go.Sort Go.Rd
end Go.Proofs.Ytkbhonafbecbfaa
