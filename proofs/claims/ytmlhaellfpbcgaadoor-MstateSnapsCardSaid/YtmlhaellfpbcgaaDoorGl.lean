/-
  Memory that start-up lays and nobody writes: none that is named here.
-/
import Derived.Test.YtmlhaellfpbcgaaDoorBxAa
namespace Go.Proofs.YtmlhaellfpbcgaaDoor.Ax
def globs : List (Nat × List IV) := []
end Go.Proofs.YtmlhaellfpbcgaaDoor.Ax
