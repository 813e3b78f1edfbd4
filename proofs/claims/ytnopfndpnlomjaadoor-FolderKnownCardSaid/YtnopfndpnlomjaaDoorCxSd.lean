/-
  Pieces of the run of FolderKnown.
-/
import Derived.Test.YtnopfndpnlomjaaDoorCxSt
namespace Go.Proofs.YtnopfndpnlomjaaDoor.Cx
open Go.RowKit Go.Proofs.YtnopfndpnlomjaaDoor.Ax
theorem sseg4 : (fun K => runK sX K 640 sS3 sD3 sE3 sH3) = fun K => K sS4 sD4 sE4 sH4 := by kernel_rfl
end Go.Proofs.YtnopfndpnlomjaaDoor.Cx
