/- Chapter 16: what the rows' base asks. -/
import Derived.Test.YtelddmkdclhpoaaPartK
import Derived.Test.YtelddmkdclhpoaaVcR
import Derived.Test.YtelddmkdclhpoaaRows
import Derived.Deep.DeepHandedRow
namespace Go.Proofs.Ytelddmkdclhpoaa
open Go.ChangeShapes Go.WideShapes Go.ChangeAt Go.RowKit Go.Vc
set_option maxRecDepth 100000
theorem own : ownKnob Try.prog.godebug = none := by kernel_rfl
theorem laidOut : laidOutB Try.prog = true := by kernel_rfl
end Go.Proofs.Ytelddmkdclhpoaa
