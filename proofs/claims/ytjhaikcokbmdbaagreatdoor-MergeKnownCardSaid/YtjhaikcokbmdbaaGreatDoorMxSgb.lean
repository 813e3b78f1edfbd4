/-
  Pieces of the run of MergeKnown.
-/
import Derived.Test.YtjhaikcokbmdbaaGreatDoorMxSta
namespace Go.Proofs.YtjhaikcokbmdbaaGreatDoor.Cx
open Go.RowKit Go.Proofs.YtjhaikcokbmdbaaGreatDoor.Ax
theorem c5sg1 : (fun K => runK c5X K 54 c5S0 c5D0 c5E0 c5H0) = fun K => K c5S1 c5D1 c5E1 c5H1 := by kernel_rfl
theorem c5fi : dedup (Nat.ble C0.S 994) c5HA.next (run c5X 999946 c5S1 c5D1 c5E1 c5H1) = c5An := by kernel_rfl
theorem c4fi : dedup (Nat.ble C0.S 995) c4HA.next (run c4X0 1000000 c4S0 c4D0 c4E0 c4H0) = c4An := by kernel_rfl
theorem c3fi : dedup (Nat.ble C0.S 996) c3HA.next (run c3X0 1000000 c3S0 c3D0 c3E0 c3H0) = c3An := by kernel_rfl
theorem c2fi : dedup (Nat.ble C0.S 997) c2HA.next (run c2X0 1000000 c2S0 c2D0 c2E0 c2H0) = c2An := by kernel_rfl
theorem c1fi : dedup (Nat.ble C0.S 998) c1HA.next (run c1X0 999916 c1S2 c1D2 c1E2 c1H2) = c1An := by kernel_rfl
theorem c6fi : dedup (Nat.ble C0.S 998) c6HA.next (run c6X 1000000 c6S0 c6D0 c6E0 c6H0) = c6An := by kernel_rfl
theorem c7fi : dedup (Nat.ble C0.S 998) c7HA.next (run c7X 1000000 c7S0 c7D0 c7E0 c7H0) = c7An := by kernel_rfl
theorem c8fi : dedup (Nat.ble C0.S 998) c8HA.next (run c8X 1000000 c8S0 c8D0 c8E0 c8H0) = c8An := by kernel_rfl
theorem c9fi : dedup (Nat.ble C0.S 998) c9HA.next (run c9X 1000000 c9S0 c9D0 c9E0 c9H0) = c9An := by kernel_rfl
theorem c10sg1 : (fun K => runK c10X K 12 c10S0 c10D0 c10E0 c10H0) = fun K => K c10S1 c10D1 c10E1 c10H1 := by kernel_rfl
end Go.Proofs.YtjhaikcokbmdbaaGreatDoor.Cx
