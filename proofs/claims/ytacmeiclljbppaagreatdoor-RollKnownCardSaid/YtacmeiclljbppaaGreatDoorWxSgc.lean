/-
  Pieces of the run of wakes.
-/
import Derived.Test.YtacmeiclljbppaaGreatDoorWxSt
namespace Go.Proofs.YtacmeiclljbppaaGreatDoor.Cx
open Go.RowKit Go.Proofs.YtacmeiclljbppaaGreatDoor.Ax
theorem wseg3 : (fun K => runK wX K 18 wS2 wD2 wE2 wH2) = fun K => K wS3 wD3 wE3 wH3 := by kernel_rfl
end Go.Proofs.YtacmeiclljbppaaGreatDoor.Cx
