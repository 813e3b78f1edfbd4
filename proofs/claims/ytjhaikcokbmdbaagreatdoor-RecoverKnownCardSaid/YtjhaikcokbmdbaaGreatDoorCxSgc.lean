/-
  Pieces of the run of RecoverKnown.
-/
import Derived.Test.YtjhaikcokbmdbaaGreatDoorCxSt
namespace Go.Proofs.YtjhaikcokbmdbaaGreatDoor.Cx
open Go.RowKit Go.Proofs.YtjhaikcokbmdbaaGreatDoor.Ax
theorem c3fi : dedup (Nat.ble C0.S 996) c3HA.next (run c3X 1000000 c3S0 c3D0 c3E0 c3H0) = c3An := by kernel_rfl
end Go.Proofs.YtjhaikcokbmdbaaGreatDoor.Cx
