/-
  Pieces of the run of wakes.
-/
import Derived.Test.YtacmeiclljbppaaGreatDoorWxSt
namespace Go.Proofs.YtacmeiclljbppaaGreatDoor.Cx
open Go.RowKit Go.Proofs.YtacmeiclljbppaaGreatDoor.Ax
theorem wseg1 : (fun K => runK wX K 30 wS0 wD0 wE0 wH0) = fun K => K wS1 wD1 wE1 wH1 := by kernel_rfl
end Go.Proofs.YtacmeiclljbppaaGreatDoor.Cx
