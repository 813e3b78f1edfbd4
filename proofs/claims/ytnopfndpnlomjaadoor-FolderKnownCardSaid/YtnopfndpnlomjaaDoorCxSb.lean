/-
  Pieces of the run of FolderKnown.
-/
import Derived.Test.YtnopfndpnlomjaaDoorCxSt
namespace Go.Proofs.YtnopfndpnlomjaaDoor.Cx
open Go.RowKit Go.Proofs.YtnopfndpnlomjaaDoor.Ax
theorem sseg2 : (fun K => runK sX K 760 sS1 sD1 sE1 sH1) = fun K => K sS2 sD2 sE2 sH2 := by kernel_rfl
end Go.Proofs.YtnopfndpnlomjaaDoor.Cx
