/- What DueRecords, NextDue and NotScheduled compute; no condition beyond the lengths that are named. -/
import Derived.Test.YtnmkkamphlleiaaDecide
import Derived.Test.YtnmkkamphlleiaaDueRData
import Derived.Test.YtnmkkamphlleiaaRecsL
import Derived.Test.YtnmkkamphlleiaaNestEl
import Derived.Test.YtnmkkamphlleiaaAppR
namespace Go.Proofs.Ytnmkkamphlleiaa
open Go.RowKit Go.Sort Go.Rd
end Go.Proofs.Ytnmkkamphlleiaa
