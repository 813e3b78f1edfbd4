/-
  Pieces of the run of MergeKnown.
-/
import Derived.Test.YtjhaikcokbmdbaaGreatDoorMxSta
namespace Go.Proofs.YtjhaikcokbmdbaaGreatDoor.Cx
open Go.RowKit Go.Proofs.YtjhaikcokbmdbaaGreatDoor.Ax
theorem c15fi : dedup (Nat.ble C0.S 996) c15HA.next (run c15X 999970 c15S1 c15D1 c15E1 c15H1) = c15An := by kernel_rfl
theorem c16fi : dedup (Nat.ble C0.S 996) c16HA.next (run c16X 1000000 c16S0 c16D0 c16E0 c16H0) = c16An := by kernel_rfl
theorem c17fi : dedup (Nat.ble C0.S 996) c17HA.next (run c17X 1000000 c17S0 c17D0 c17E0 c17H0) = c17An := by kernel_rfl
theorem c14fi : dedup (Nat.ble C0.S 997) c14HA.next (run c14X0 999982 c14S1 c14D1 c14E1 c14H1) = c14An := by kernel_rfl
theorem c12fi : dedup (Nat.ble C0.S 998) c12HA.next (run c12X0 1000000 c12S0 c12D0 c12E0 c12H0) = c12An := by kernel_rfl
theorem sfi : goodA (dedup (Nat.ble C0.S 999) (len gmaps) (run sX0 1000000 sS0 sD0 sE0 sH0)) = true := by kernel_rfl
end Go.Proofs.YtjhaikcokbmdbaaGreatDoor.Cx
