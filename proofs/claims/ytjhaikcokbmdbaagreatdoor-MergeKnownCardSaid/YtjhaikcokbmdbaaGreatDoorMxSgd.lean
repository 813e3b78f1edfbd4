/-
  Pieces of the run of MergeKnown.
-/
import Derived.Test.YtjhaikcokbmdbaaGreatDoorMxSta
namespace Go.Proofs.YtjhaikcokbmdbaaGreatDoor.Cx
open Go.RowKit Go.Proofs.YtjhaikcokbmdbaaGreatDoor.Ax
theorem c13fi : dedup (Nat.ble C0.S 997) c13HA.next (run c13X 999892 c13S2 c13D2 c13E2 c13H2) = c13An := by kernel_rfl
theorem c14sg1 : (fun K => runK c14X K 18 c14S0 c14D0 c14E0 c14H0) = fun K => K c14S1 c14D1 c14E1 c14H1 := by kernel_rfl
theorem c15sg1 : (fun K => runK c15X K 30 c15S0 c15D0 c15E0 c15H0) = fun K => K c15S1 c15D1 c15E1 c15H1 := by kernel_rfl
end Go.Proofs.YtjhaikcokbmdbaaGreatDoor.Cx
