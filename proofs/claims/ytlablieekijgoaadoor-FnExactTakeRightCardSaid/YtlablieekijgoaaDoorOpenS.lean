/- How the arguments of the laws of this seat are opened; no condition. -/
import Derived.Test.YtlablieekijgoaaDoorRows
import Derived.Test.YtlablieekijgoaaDoorOpen
namespace Go.Proofs.YtlablieekijgoaaDoor
open Go.RowKit Go.Sort Go.Rd Go.ChangeShapes Go.WideShapes
theorem Tryd.cellsInt : Tryd.prog.cellsOf 3 = 1 := by kernel_rfl










end Go.Proofs.YtlablieekijgoaaDoor
