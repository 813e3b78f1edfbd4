/-
  Pieces of the run of SegKnown.
-/
import Derived.Test.YtjekhemcbnddkaaGreatDoorCxSt
namespace Go.Proofs.YtjekhemcbnddkaaGreatDoor.Cx
open Go.RowKit Go.Proofs.YtjekhemcbnddkaaGreatDoor.Ax
theorem sseg1 : (fun K => runK sX K 60 S0 D0 E0 H0) = fun K => K sS1 sD1 sE1 sH1 := by kernel_rfl
end Go.Proofs.YtjekhemcbnddkaaGreatDoor.Cx
