/-
  Pieces of the run of FolderKnown.
-/
import Derived.Test.YtnopfndpnlomjaaDoorCxSt
namespace Go.Proofs.YtnopfndpnlomjaaDoor.Cx
open Go.RowKit Go.Proofs.YtnopfndpnlomjaaDoor.Ax
theorem sseg1 : (fun K => runK sX K 1680 S0 D0 E0 H0) = fun K => K sS1 sD1 sE1 sH1 := by kernel_rfl
end Go.Proofs.YtnopfndpnlomjaaDoor.Cx
