/-
  Chapter 23: MstateBack, the walk and what is handed in.
-/
import Derived.Test.YtmlhaellfpbcgaaDoorMi
import Derived.Test.YtmlhaellfpbcgaaDoorLaws23
namespace Go.Proofs.YtmlhaellfpbcgaaDoor.Ax
open Go.RowKit
theorem back_law' (t : Tb) (l : List Edt) (hl : ∀ e ∈ l, e.In) (m : List Edt) (hm : ∀ e ∈ m, e.In) : LawT t 3 [rowE l, rowE m] := back_law t l m hl hm
end Go.Proofs.YtmlhaellfpbcgaaDoor.Ax
