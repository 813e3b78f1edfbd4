/-
  CkptKnown returns true and leaves what was there as it was: a closed run, reckoned piece by piece.
-/
import Derived.Test.YtacmeiclljbppaaGreatDoorCxSga
namespace Go.Proofs.YtacmeiclljbppaaGreatDoor.Cx
open Go.RowKit Go.Proofs.YtacmeiclljbppaaGreatDoor.Ax
theorem sfin : goodA (dedup (Nat.ble C0.S 999) (len gmaps) (run sX 999960 sS1 sD1 sE1 sH1)) = true := by kernel_rfl
theorem strue : goodA (mainC C0 4) = true := by
  have e0 : mainC C0 4 = dedup (Nat.ble C0.S 999) (len gmaps) (run sX 1000000 sS0 sD0 sE0 sH0) := callN_top (n := 999) (fd := Tryz.f4) (c := cdF C0 4 0) (by kernel_rfl) (by kernel_rfl) (by kernel_rfl) (by kernel_rfl)
  have e1 : run sX 1000000 sS0 sD0 sE0 sH0 = run sX 999960 sS1 sD1 sE1 sH1 := cut sseg1 999960
  rw [e1] at e0
  rw [e0]
  exact sfin
theorem law_calls (W : World) (hG : GOk C0.G W) : Calls Tryz.prog 4 #[] W fun e W' => e = .returned (.bool true) ∧ Below W.heap.size W W' :=
  calls_of_run (C := C0) hG (by kernel_rfl) (xok0 W hG) (f := 4) (fd := Tryz.f4) (by kernel_rfl) (by kernel_rfl) (by kernel_rfl) (by kernel_rfl) strue
end Go.Proofs.YtacmeiclljbppaaGreatDoor.Cx
