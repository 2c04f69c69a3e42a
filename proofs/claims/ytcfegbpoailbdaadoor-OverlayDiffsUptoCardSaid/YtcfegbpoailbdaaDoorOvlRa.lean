import Derived.Test.YtcfegbpoailbdaaDoorOvlL
import Derived.Test.YtcfegbpoailbdaaDoorVcR
import Derived.Test.YtcfegbpoailbdaaDoorCards
import Derived.Test.YtcfegbpoailbdaaDoorTie
import Derived.Deep.DeepHandedRow

namespace Go.Proofs.YtcfegbpoailbdaaDoor
open Go.ChangeShapes Go.WideShapes Go.ChangeAt Go.RowKit Go.Vc
set_option linter.unusedVariables false
set_option maxRecDepth 100000

theorem own : ownKnob Tryd.prog.godebug = none := by kernel_rfl
theorem laidOut : laidOutB Tryd.prog = true := by kernel_rfl
def ranges : List Nat := [128, 191, 160, 191, 128, 159, 144, 191, 128, 143] ++ List.replicate 22 0
def layCells (cs : Array Value) : Obj → Obj
  | .cells _ t frozen => .cells cs t frozen
  | o => o
noncomputable def laidWorld (os : Os) : World :=
  { World.holding Tryd.prog os ⟨#[], #[], []⟩ with heap := ((World.holding Tryd.prog os ⟨#[], #[], []⟩).heap.modify ((Tryd.prog.globalNamed "unicode/utf8.acceptRanges").getD 0) (layCells (ranges.map fun n : Nat => Value.int .u8 n).toArray)).modify ((Tryd.prog.globalNamed "unicode/utf8.first").getD 0) (layCells (Pinned.utf8FirstZ.map fun n : Nat => Value.int .u8 n).toArray) }
theorem laid_met (os : Os) (args : Array Value) : laidMet Tryd.prog [("unicode/utf8.acceptRanges", Rows.laid_unicode_utf8_acceptRanges), ("unicode/utf8.first", Rows.laid_unicode_utf8_first)] ((laidWorld os).forCall (fun _ _ => 0) ⟨#[], args, []⟩).memory :=
  laidMet_of_run' 8 (by kernel_rfl) (by kernel_rfl)
theorem maxAt {W : World} (h : W.ShapedOpen Tryd.prog) : MaxAt W.heap := Tryd.laysM146.s1_3 W h
end Go.Proofs.YtcfegbpoailbdaaDoor
