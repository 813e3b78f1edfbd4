/-
  Two facts of the program that each law's end asks.
-/
import Derived.Test.YteeifedpabcehaaLawKit
import Derived.Test.YteeifedpabcehaaRows
namespace Go.Proofs.Yteeifedpabcehaa
open Go.ChangeShapes Go.WideShapes Go.ChangeAt Go.RowKit
theorem own : ownKnob Try.prog.godebug = none := by kernel_rfl
theorem laidOut : laidOutB Try.prog = true := by kernel_rfl
end Go.Proofs.Yteeifedpabcehaa
