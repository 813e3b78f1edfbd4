/-
  wakes returns true and leaves what was there as it was: a closed run, reckoned piece by piece.
-/
import Derived.Test.YtacmeiclljbppaaGreatDoorWxSga
import Derived.Test.YtacmeiclljbppaaGreatDoorWxSgb
import Derived.Test.YtacmeiclljbppaaGreatDoorWxSgc
import Derived.Test.YtacmeiclljbppaaGreatDoorWxSgd
import Derived.Test.YtacmeiclljbppaaGreatDoorWxSge
namespace Go.Proofs.YtacmeiclljbppaaGreatDoor.Cx
open Go.RowKit Go.Proofs.YtacmeiclljbppaaGreatDoor.Ax
theorem wfin : goodA (dedup (Nat.ble C0.S 999) 0 (run wX 999898 wS5 wD5 wE5 wH5)) = true := by kernel_rfl
theorem wtrue : goodA (mainC C0 17) = true := by
  have e0 : mainC C0 17 = dedup (Nat.ble C0.S 999) 0 (run wX 1000000 wS0 wD0 wE0 wH0) := callN_top (n := 999) (fd := Tryz.f17) (c := cdF C0 17 0) (by kernel_rfl) (by kernel_rfl) (by kernel_rfl) (by kernel_rfl)
  have e1 : run wX 1000000 wS0 wD0 wE0 wH0 = run wX 999970 wS1 wD1 wE1 wH1 := cut wseg1 999970
  have e2 : run wX 999970 wS1 wD1 wE1 wH1 = run wX 999952 wS2 wD2 wE2 wH2 := cut wseg2 999952
  have e3 : run wX 999952 wS2 wD2 wE2 wH2 = run wX 999934 wS3 wD3 wE3 wH3 := cut wseg3 999934
  have e4 : run wX 999934 wS3 wD3 wE3 wH3 = run wX 999916 wS4 wD4 wE4 wH4 := cut wseg4 999916
  have e5 : run wX 999916 wS4 wD4 wE4 wH4 = run wX 999898 wS5 wD5 wE5 wH5 := cut wseg5 999898
  rw [e1] at e0
  rw [e2] at e0
  rw [e3] at e0
  rw [e4] at e0
  rw [e5] at e0
  rw [e0]
  exact wfin
theorem w_calls (W : World) (hG : GOk C0.G W) : Calls Tryz.prog 17 #[] W fun e W' => e = .returned (.bool true) ∧ Below W.heap.size W W' :=
  calls_of_run (C := C0) hG (by kernel_rfl) (xok0 W hG) (f := 17) (fd := Tryz.f17) (by kernel_rfl) (by kernel_rfl) (by kernel_rfl) (by kernel_rfl) wtrue
end Go.Proofs.YtacmeiclljbppaaGreatDoor.Cx
