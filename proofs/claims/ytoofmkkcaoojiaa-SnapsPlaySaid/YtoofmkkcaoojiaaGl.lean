/-
  Memory that start-up lays and nobody writes: none that is named here.
-/
import Derived.Test.YtoofmkkcaoojiaaBxAa
namespace Go.Proofs.Ytoofmkkcaoojiaa.Ax
def globs : List (Nat × List IV) := []
end Go.Proofs.Ytoofmkkcaoojiaa.Ax
