/-
  Pieces of the run of CkptKnown.
-/
import Derived.Test.YtacmeiclljbppaaGreatDoorCxSt
namespace Go.Proofs.YtacmeiclljbppaaGreatDoor.Cx
open Go.RowKit Go.Proofs.YtacmeiclljbppaaGreatDoor.Ax
theorem sseg1 : (fun K => runK sX K 40 sS0 sD0 sE0 sH0) = fun K => K sS1 sD1 sE1 sH1 := by kernel_rfl
end Go.Proofs.YtacmeiclljbppaaGreatDoor.Cx
