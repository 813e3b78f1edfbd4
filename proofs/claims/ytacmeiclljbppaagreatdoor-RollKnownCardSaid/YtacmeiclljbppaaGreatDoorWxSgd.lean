/-
  Pieces of the run of wakes.
-/
import Derived.Test.YtacmeiclljbppaaGreatDoorWxSt
namespace Go.Proofs.YtacmeiclljbppaaGreatDoor.Cx
open Go.RowKit Go.Proofs.YtacmeiclljbppaaGreatDoor.Ax
theorem wseg4 : (fun K => runK wX K 18 wS3 wD3 wE3 wH3) = fun K => K wS4 wD4 wE4 wH4 := by kernel_rfl
end Go.Proofs.YtacmeiclljbppaaGreatDoor.Cx
