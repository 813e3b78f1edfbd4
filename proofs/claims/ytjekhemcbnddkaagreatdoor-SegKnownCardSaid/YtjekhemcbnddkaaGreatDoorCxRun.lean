/-
  SegKnown returns true and leaves what was there as it was: a closed run, reckoned piece by piece.
-/
import Derived.Test.YtjekhemcbnddkaaGreatDoorCxSa
namespace Go.Proofs.YtjekhemcbnddkaaGreatDoor.Cx
open Go.RowKit Go.Proofs.YtjekhemcbnddkaaGreatDoor.Ax
theorem sfin : goodA (dedup (Nat.ble C0.S 999) 0 (run sX 999940 sS1 sD1 sE1 sH1)) = true := by kernel_rfl
theorem law_true : goodA (mainC C0 3) = true := by
  have e0 : mainC C0 3 = dedup (Nat.ble C0.S 999) 0 (run sX 1000000 S0 D0 E0 H0) := callN_top (n := 999) (fd := Tryz.f3) (c := cdF C0 3 0) (by kernel_rfl) (by kernel_rfl) (by kernel_rfl) (by kernel_rfl)
  have e1 : run sX 1000000 S0 D0 E0 H0 = run sX 999940 sS1 sD1 sE1 sH1 := cut sseg1 999940
  rw [e1] at e0
  rw [e0]
  exact sfin
theorem law_calls (W : World) (hG : GOk C0.G W) : Calls Tryz.prog 3 #[] W fun e W' => e = .returned (.bool true) ∧ Below W.heap.size W W' :=
  calls_of_run (C := C0) hG (by kernel_rfl) (xok0 W) (f := 3) (fd := Tryz.f3) (by kernel_rfl) (by kernel_rfl) (by kernel_rfl) (by kernel_rfl) law_true
end Go.Proofs.YtjekhemcbnddkaaGreatDoor.Cx
