/-
  The law SnapsKnown, reckoned.
-/
import Derived.Test.YthafpikanjjbcaaCxK
namespace Go.Proofs.Ythafpikanjjbcaa.Cx
open Go.RowKit Go.Proofs.Ythafpikanjjbcaa.Ax
theorem snaps_true : goodA (mainC C0 3) = true := by kernel_rfl
theorem snaps_calls (W : World) : Calls Try.prog 3 #[] W fun e W' => e = .returned (.bool true) ∧ Below W.heap.size W W' :=
  calls_of_run (C := C0) (GOk.none W) (by kernel_rfl) (xok0 W) (f := 3) (fd := Try.f3) (by kernel_rfl) (by kernel_rfl) (by kernel_rfl) (by kernel_rfl) snaps_true
end Go.Proofs.Ythafpikanjjbcaa.Cx
