/-
  Memory that start-up lays and nobody writes: none that is named here.
-/
import Derived.Test.YteeifedpabcehaaBxAa
namespace Go.Proofs.Yteeifedpabcehaa.Ax
def globs : List (Nat × List IV) := []
end Go.Proofs.Yteeifedpabcehaa.Ax
