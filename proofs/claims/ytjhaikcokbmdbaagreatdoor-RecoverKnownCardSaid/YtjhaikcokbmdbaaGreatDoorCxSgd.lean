/-
  Pieces of the run of RecoverKnown.
-/
import Derived.Test.YtjhaikcokbmdbaaGreatDoorCxSt
namespace Go.Proofs.YtjhaikcokbmdbaaGreatDoor.Cx
open Go.RowKit Go.Proofs.YtjhaikcokbmdbaaGreatDoor.Ax
theorem c4fi : dedup (Nat.ble C0.S 996) c4HA.next (run c4X 1000000 c4S0 c4D0 c4E0 c4H0) = c4An := by kernel_rfl
theorem c2fi : dedup (Nat.ble C0.S 997) c2HA.next (run c2X0 1000000 c2S0 c2D0 c2E0 c2H0) = c2An := by kernel_rfl
end Go.Proofs.YtjhaikcokbmdbaaGreatDoor.Cx
