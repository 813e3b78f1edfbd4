/-
  Memory that start-up lays and nobody writes: none that is named here.
-/
import Derived.Test.YtpgdbeacmlojcaaGreatBxAa
namespace Go.Proofs.YtpgdbeacmlojcaaGreat.Ax
def globs : List (Nat × List IV) := []
/-- Methods that are called through interfaces: dynamic type, name, function. -/
def meths : List (Nat × String × Nat) := [(98, "hourbook/file.units", 150), (98, "hourbook/file.does", 149),
  (120, "hourbook/file.units", 152), (120, "hourbook/file.does", 151)]
end Go.Proofs.YtpgdbeacmlojcaaGreat.Ax
