/-
  FolderKnown returns true and leaves what was there as it was: a closed run, reckoned piece by piece.
-/
import Derived.Test.YtnopfndpnlomjaaDoorCxSa
import Derived.Test.YtnopfndpnlomjaaDoorCxSb
import Derived.Test.YtnopfndpnlomjaaDoorCxSc
import Derived.Test.YtnopfndpnlomjaaDoorCxSd
namespace Go.Proofs.YtnopfndpnlomjaaDoor.Cx
open Go.RowKit Go.Proofs.YtnopfndpnlomjaaDoor.Ax
theorem sfin : goodA (dedup (Nat.ble C0.S 999) 0 (run sX 996240 sS4 sD4 sE4 sH4)) = true := by kernel_rfl
theorem law_true : goodA (mainC C0 3) = true := by
  have e0 : mainC C0 3 = dedup (Nat.ble C0.S 999) 0 (run sX 1000000 S0 D0 E0 H0) := callN_top (n := 999) (fd := Tryd.f3) (c := cdF C0 3 0) (by kernel_rfl) (by kernel_rfl) (by kernel_rfl) (by kernel_rfl)
  have e1 : run sX 1000000 S0 D0 E0 H0 = run sX 998320 sS1 sD1 sE1 sH1 := cut sseg1 998320
  have e2 : run sX 998320 sS1 sD1 sE1 sH1 = run sX 997560 sS2 sD2 sE2 sH2 := cut sseg2 997560
  have e3 : run sX 997560 sS2 sD2 sE2 sH2 = run sX 996880 sS3 sD3 sE3 sH3 := cut sseg3 996880
  have e4 : run sX 996880 sS3 sD3 sE3 sH3 = run sX 996240 sS4 sD4 sE4 sH4 := cut sseg4 996240
  rw [e1] at e0
  rw [e2] at e0
  rw [e3] at e0
  rw [e4] at e0
  rw [e0]
  exact sfin
theorem law_calls (W : World) (hG : GOk C0.G W) : Calls Tryd.prog 3 #[] W fun e W' => e = .returned (.bool true) ∧ Below W.heap.size W W' :=
  calls_of_run (C := C0) hG (by kernel_rfl) (xok0 W) (f := 3) (fd := Tryd.f3) (by kernel_rfl) (by kernel_rfl) (by kernel_rfl) (by kernel_rfl) law_true
end Go.Proofs.YtnopfndpnlomjaaDoor.Cx
