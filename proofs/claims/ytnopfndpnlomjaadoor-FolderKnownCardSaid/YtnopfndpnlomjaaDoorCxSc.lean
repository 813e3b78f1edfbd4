/-
  Pieces of the run of FolderKnown.
-/
import Derived.Test.YtnopfndpnlomjaaDoorCxSt
namespace Go.Proofs.YtnopfndpnlomjaaDoor.Cx
open Go.RowKit Go.Proofs.YtnopfndpnlomjaaDoor.Ax
theorem sseg3 : (fun K => runK sX K 680 sS2 sD2 sE2 sH2) = fun K => K sS3 sD3 sE3 sH3 := by kernel_rfl
end Go.Proofs.YtnopfndpnlomjaaDoor.Cx
