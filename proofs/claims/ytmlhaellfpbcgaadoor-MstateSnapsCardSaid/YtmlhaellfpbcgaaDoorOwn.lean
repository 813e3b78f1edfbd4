/-
  Two facts of the program that each law's end asks.
-/
import Derived.Test.YtmlhaellfpbcgaaDoorLawKit
import Derived.Test.YtmlhaellfpbcgaaDoorRows
namespace Go.Proofs.YtmlhaellfpbcgaaDoor
open Go.ChangeShapes Go.WideShapes Go.ChangeAt Go.RowKit
theorem own : ownKnob Tryd.prog.godebug = none := by kernel_rfl
theorem laidOut : laidOutB Tryd.prog = true := by kernel_rfl
end Go.Proofs.YtmlhaellfpbcgaaDoor
