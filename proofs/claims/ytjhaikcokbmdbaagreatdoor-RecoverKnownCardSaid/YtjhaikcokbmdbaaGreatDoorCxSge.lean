/-
  Pieces of the run of RecoverKnown.
-/
import Derived.Test.YtjhaikcokbmdbaaGreatDoorCxSt
namespace Go.Proofs.YtjhaikcokbmdbaaGreatDoor.Cx
open Go.RowKit Go.Proofs.YtjhaikcokbmdbaaGreatDoor.Ax
theorem c1fi : dedup (Nat.ble C0.S 998) c1HA.next (run c1X0 999988 c1S1 c1D1 c1E1 c1H1) = c1An := by kernel_rfl
theorem sfi : goodA (dedup (Nat.ble C0.S 999) (len gmaps) (run sX0 999970 sS1 sD1 sE1 sH1)) = true := by kernel_rfl
end Go.Proofs.YtjhaikcokbmdbaaGreatDoor.Cx
