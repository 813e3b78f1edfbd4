/-
  Pieces of the run of wakes.
-/
import Derived.Test.YtacmeiclljbppaaGreatDoorWxSt
namespace Go.Proofs.YtacmeiclljbppaaGreatDoor.Cx
open Go.RowKit Go.Proofs.YtacmeiclljbppaaGreatDoor.Ax
theorem wseg5 : (fun K => runK wX K 18 wS4 wD4 wE4 wH4) = fun K => K wS5 wD5 wE5 wH5 := by kernel_rfl
end Go.Proofs.YtacmeiclljbppaaGreatDoor.Cx
