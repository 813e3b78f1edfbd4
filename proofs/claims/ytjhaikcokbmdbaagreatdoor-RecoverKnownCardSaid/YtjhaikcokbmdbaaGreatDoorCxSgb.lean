/-
  Pieces of the run of RecoverKnown.
-/
import Derived.Test.YtjhaikcokbmdbaaGreatDoorCxSt
namespace Go.Proofs.YtjhaikcokbmdbaaGreatDoor.Cx
open Go.RowKit Go.Proofs.YtjhaikcokbmdbaaGreatDoor.Ax
theorem c1sg1 : (fun K => runK c1X K 12 c1S0 c1D0 c1E0 c1H0) = fun K => K c1S1 c1D1 c1E1 c1H1 := by kernel_rfl
end Go.Proofs.YtjhaikcokbmdbaaGreatDoor.Cx
