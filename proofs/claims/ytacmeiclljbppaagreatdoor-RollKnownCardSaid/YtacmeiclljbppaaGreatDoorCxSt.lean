/-
  States of the run of RollKnown.
-/
import Derived.Test.YtacmeiclljbppaaGreatDoorCxL2
namespace Go.Proofs.YtacmeiclljbppaaGreatDoor.Cx
open Go.RowKit Go.Proofs.YtacmeiclljbppaaGreatDoor.Ax
noncomputable def sX : Cx := topX C1 999 3 Tryz.f3
noncomputable def sS0 : List Td := [.seq (cdF C0 3 0)]
noncomputable def sD0 : List Df := []
noncomputable def sE0 : Tr CV := .lf
noncomputable def sH0 : CH := ⟨0, .lf⟩
set_option maxRecDepth 100000

end Go.Proofs.YtacmeiclljbppaaGreatDoor.Cx
