/-
  Two facts of the program that each law's end asks.
-/
import Derived.Test.YtgfkepebfaiepaaGreatDoorLawKit
import Derived.Test.YtgfkepebfaiepaaGreatDoorRows
namespace Go.Proofs.YtgfkepebfaiepaaGreatDoor
open Go.ChangeShapes Go.WideShapes Go.ChangeAt Go.RowKit
theorem own : ownKnob Tryz.prog.godebug = none := by kernel_rfl
theorem laidOut : laidOutB Tryz.prog = true := by kernel_rfl
end Go.Proofs.YtgfkepebfaiepaaGreatDoor
