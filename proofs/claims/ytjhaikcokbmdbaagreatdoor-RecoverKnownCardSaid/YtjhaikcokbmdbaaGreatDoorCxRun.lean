/-
  RecoverKnown returns true and leaves what was there as it was: a closed run, reckoned piece by piece.
-/
import Derived.Test.YtjhaikcokbmdbaaGreatDoorCxSga
import Derived.Test.YtjhaikcokbmdbaaGreatDoorCxSgb
import Derived.Test.YtjhaikcokbmdbaaGreatDoorCxSgc
import Derived.Test.YtjhaikcokbmdbaaGreatDoorCxSgd
import Derived.Test.YtjhaikcokbmdbaaGreatDoorCxSge
namespace Go.Proofs.YtjhaikcokbmdbaaGreatDoor.Cx
open Go.RowKit Go.Proofs.YtjhaikcokbmdbaaGreatDoor.Ax
theorem sseg1 : (fun K => runK sX K 30 sS0 sD0 sE0 sH0) = fun K => K sS1 sD1 sE1 sH1 := ssg1
theorem c1seg1 : (fun K => runK c1X K 12 c1S0 c1D0 c1E0 c1H0) = fun K => K c1S1 c1D1 c1E1 c1H1 := c1sg1
theorem c3fin : dedup (Nat.ble C0.S 996) c3HA.next (run c3X 1000000 c3S0 c3D0 c3E0 c3H0) = c3An := c3fi
theorem c3call : callN C0 997 (.fn 169) c3A c3HA = c3An := by
  have e0 : callN C0 997 (.fn 169) c3A c3HA = dedup (Nat.ble C0.S 996) c3HA.next (run c3X 1000000 c3S0 c3D0 c3E0 c3H0) := callN_in (n := 996) (fd := Tryz.f169) (c := cdF C0 169 0) (by kernel_rfl) (by kernel_rfl) (by kernel_rfl) (by kernel_rfl)
  rw [e0]
  exact c3fin
theorem c4fin : dedup (Nat.ble C0.S 996) c4HA.next (run c4X 1000000 c4S0 c4D0 c4E0 c4H0) = c4An := c4fi
theorem c4call : callN C0 997 (.fn 170) c4A c4HA = c4An := by
  have e0 : callN C0 997 (.fn 170) c4A c4HA = dedup (Nat.ble C0.S 996) c4HA.next (run c4X 1000000 c4S0 c4D0 c4E0 c4H0) := callN_in (n := 996) (fd := Tryz.f170) (c := cdF C0 170 0) (by kernel_rfl) (by kernel_rfl) (by kernel_rfl) (by kernel_rfl)
  rw [e0]
  exact c4fin
theorem c2X0_eq : c2X0 = c2X := by
  unfold c2X0
  rw [callK_eq c3call, callK_eq c4call]
  rfl
theorem c2fin : dedup (Nat.ble C0.S 997) c2HA.next (run c2X 1000000 c2S0 c2D0 c2E0 c2H0) = c2An := by
  rw [← c2X0_eq]
  exact c2fi
theorem c2call : callN C0 998 (.fn 75) c2A c2HA = c2An := by
  have e0 : callN C0 998 (.fn 75) c2A c2HA = dedup (Nat.ble C0.S 997) c2HA.next (run c2X 1000000 c2S0 c2D0 c2E0 c2H0) := callN_in (n := 997) (fd := Tryz.f75) (c := cdF C0 75 0) (by kernel_rfl) (by kernel_rfl) (by kernel_rfl) (by kernel_rfl)
  rw [e0]
  exact c2fin
theorem c1X0_eq : c1X0 = c1X := by
  unfold c1X0
  rw [callK_eq c2call]
  rfl
theorem c1fin : dedup (Nat.ble C0.S 998) c1HA.next (run c1X 999988 c1S1 c1D1 c1E1 c1H1) = c1An := by
  rw [← c1X0_eq]
  exact c1fi
theorem c1call : callN C0 999 (.fn 20) c1A c1HA = c1An := by
  have e0 : callN C0 999 (.fn 20) c1A c1HA = dedup (Nat.ble C0.S 998) c1HA.next (run c1X 1000000 c1S0 c1D0 c1E0 c1H0) := callN_in (n := 998) (fd := Tryz.f20) (c := cdF C0 20 0) (by kernel_rfl) (by kernel_rfl) (by kernel_rfl) (by kernel_rfl)
  have e1 : run c1X 1000000 c1S0 c1D0 c1E0 c1H0 = run c1X 999988 c1S1 c1D1 c1E1 c1H1 := cut c1seg1 999988
  rw [e1] at e0
  rw [e0]
  exact c1fin
theorem sX0_eq : sX0 = sX := by
  unfold sX0
  rw [callK_eq c1call]
  rfl
theorem sfin : goodA (dedup (Nat.ble C0.S 999) (len gmaps) (run sX 999970 sS1 sD1 sE1 sH1)) = true := by
  rw [← sX0_eq]
  exact sfi
theorem strue : goodA (mainC C0 4) = true := by
  have e0 : mainC C0 4 = dedup (Nat.ble C0.S 999) (len gmaps) (run sX 1000000 sS0 sD0 sE0 sH0) := callN_top (n := 999) (fd := Tryz.f4) (c := cdF C0 4 0) (by kernel_rfl) (by kernel_rfl) (by kernel_rfl) (by kernel_rfl)
  have e1 : run sX 1000000 sS0 sD0 sE0 sH0 = run sX 999970 sS1 sD1 sE1 sH1 := cut sseg1 999970
  rw [e1] at e0
  rw [e0]
  exact sfin
theorem law_calls (W : World) (hG : GOk C0.G W) : Calls Tryz.prog 4 #[] W fun e W' => e = .returned (.bool true) ∧ Below W.heap.size W W' :=
  calls_of_run (C := C0) hG (by kernel_rfl) (xok0 W hG) (f := 4) (fd := Tryz.f4) (by kernel_rfl) (by kernel_rfl) (by kernel_rfl) (by kernel_rfl) strue
end Go.Proofs.YtjhaikcokbmdbaaGreatDoor.Cx
