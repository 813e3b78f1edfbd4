/-
  Pieces of the run of RecoverKnown.
-/
import Derived.Test.YtjhaikcokbmdbaaGreatDoorCxSt
namespace Go.Proofs.YtjhaikcokbmdbaaGreatDoor.Cx
open Go.RowKit Go.Proofs.YtjhaikcokbmdbaaGreatDoor.Ax
theorem ssg1 : (fun K => runK sX K 30 sS0 sD0 sE0 sH0) = fun K => K sS1 sD1 sE1 sH1 := by kernel_rfl
end Go.Proofs.YtjhaikcokbmdbaaGreatDoor.Cx
