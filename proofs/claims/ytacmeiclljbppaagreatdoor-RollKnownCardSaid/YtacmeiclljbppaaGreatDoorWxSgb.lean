/-
  Pieces of the run of wakes.
-/
import Derived.Test.YtacmeiclljbppaaGreatDoorWxSt
namespace Go.Proofs.YtacmeiclljbppaaGreatDoor.Cx
open Go.RowKit Go.Proofs.YtacmeiclljbppaaGreatDoor.Ax
theorem wseg2 : (fun K => runK wX K 18 wS1 wD1 wE1 wH1) = fun K => K wS2 wD2 wE2 wH2 := by kernel_rfl
end Go.Proofs.YtacmeiclljbppaaGreatDoor.Cx
