/- What DueRecords, NextDue and NotScheduled compute; no condition beyond the lengths that are named. -/
import Derived.Test.YtpggimkfdeommaaDecide
import Derived.Test.YtpggimkfdeommaaDueRData
import Derived.Test.YtpggimkfdeommaaRecsL
import Derived.Test.YtpggimkfdeommaaNestEl
import Derived.Test.YtpggimkfdeommaaAppR
namespace Go.Proofs.Ytpggimkfdeommaa
open Go.RowKit Go.Sort Go.Rd
end Go.Proofs.Ytpggimkfdeommaa
