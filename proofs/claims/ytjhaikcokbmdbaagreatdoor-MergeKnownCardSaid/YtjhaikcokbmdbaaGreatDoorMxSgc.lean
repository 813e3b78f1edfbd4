/-
  Pieces of the run of MergeKnown.
-/
import Derived.Test.YtjhaikcokbmdbaaGreatDoorMxSta
namespace Go.Proofs.YtjhaikcokbmdbaaGreatDoor.Cx
open Go.RowKit Go.Proofs.YtjhaikcokbmdbaaGreatDoor.Ax
theorem c10fi : dedup (Nat.ble C0.S 998) c10HA.next (run c10X 999988 c10S1 c10D1 c10E1 c10H1) = c10An := by kernel_rfl
theorem c11fi : dedup (Nat.ble C0.S 998) c11HA.next (run c11X 1000000 c11S0 c11D0 c11E0 c11H0) = c11An := by kernel_rfl
theorem c13sg1 : (fun K => runK c13X K 54 c13S0 c13D0 c13E0 c13H0) = fun K => K c13S1 c13D1 c13E1 c13H1 := by kernel_rfl
theorem c13sg2 : (fun K => runK c13X K 54 c13S1 c13D1 c13E1 c13H1) = fun K => K c13S2 c13D2 c13E2 c13H2 := by kernel_rfl
end Go.Proofs.YtjhaikcokbmdbaaGreatDoor.Cx
