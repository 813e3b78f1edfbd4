/-
  Two facts of the program that each law's end asks.
-/
import Derived.Test.YtoofmkkcaoojiaaLawKit
import Derived.Test.YtoofmkkcaoojiaaRows
namespace Go.Proofs.Ytoofmkkcaoojiaa
open Go.ChangeShapes Go.WideShapes Go.ChangeAt Go.RowKit
theorem own : ownKnob Try.prog.godebug = none := by kernel_rfl
theorem laidOut : laidOutB Try.prog = true := by kernel_rfl
end Go.Proofs.Ytoofmkkcaoojiaa
