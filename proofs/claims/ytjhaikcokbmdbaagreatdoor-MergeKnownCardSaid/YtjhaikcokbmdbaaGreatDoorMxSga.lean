/-
  Pieces of the run of MergeKnown.
-/
import Derived.Test.YtjhaikcokbmdbaaGreatDoorMxSta
namespace Go.Proofs.YtjhaikcokbmdbaaGreatDoor.Cx
open Go.RowKit Go.Proofs.YtjhaikcokbmdbaaGreatDoor.Ax
theorem c1sg1 : (fun K => runK c1X K 54 c1S0 c1D0 c1E0 c1H0) = fun K => K c1S1 c1D1 c1E1 c1H1 := by kernel_rfl
theorem c1sg2 : (fun K => runK c1X K 30 c1S1 c1D1 c1E1 c1H1) = fun K => K c1S2 c1D2 c1E2 c1H2 := by kernel_rfl
end Go.Proofs.YtjhaikcokbmdbaaGreatDoor.Cx
