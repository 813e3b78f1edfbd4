/-
  RollKnown returns true and leaves what was there as it was: a closed run, reckoned piece by piece.
-/
import Derived.Test.YtacmeiclljbppaaGreatDoorCxSt
namespace Go.Proofs.YtacmeiclljbppaaGreatDoor.Cx
open Go.RowKit Go.Proofs.YtacmeiclljbppaaGreatDoor.Ax
theorem sfin : goodA (dedup (Nat.ble C1.S 999) 0 (run sX 1000000 sS0 sD0 sE0 sH0)) = true := by kernel_rfl
theorem strue : goodA (mainC C1 3) = true := by
  have e0 : mainC C1 3 = dedup (Nat.ble C1.S 999) 0 (run sX 1000000 sS0 sD0 sE0 sH0) := callN_top (n := 999) (fd := Tryz.f3) (c := cdF C0 3 0) (by kernel_rfl) (by kernel_rfl) (by kernel_rfl) (by kernel_rfl)
  rw [e0]
  exact sfin
theorem law_calls (W : World) (hG : GOk C0.G W) : Calls Tryz.prog 3 #[] W fun e W' => e = .returned (.bool true) ∧ Below W.heap.size W W' :=
  calls_of_run (C := C1) hG (by kernel_rfl) (xok1 W hG) (f := 3) (fd := Tryz.f3) (by kernel_rfl) (by kernel_rfl) (by kernel_rfl) (by kernel_rfl) strue
end Go.Proofs.YtacmeiclljbppaaGreatDoor.Cx
