/-
  MergeKnown returns true and leaves what was there as it was: a closed run, reckoned piece by piece.
-/
import Derived.Test.YtjhaikcokbmdbaaGreatDoorMxSga
import Derived.Test.YtjhaikcokbmdbaaGreatDoorMxSgb
import Derived.Test.YtjhaikcokbmdbaaGreatDoorMxSgc
import Derived.Test.YtjhaikcokbmdbaaGreatDoorMxSgd
import Derived.Test.YtjhaikcokbmdbaaGreatDoorMxSge
namespace Go.Proofs.YtjhaikcokbmdbaaGreatDoor.Cx
open Go.RowKit Go.Proofs.YtjhaikcokbmdbaaGreatDoor.Ax
theorem c1seg1 : (fun K => runK c1X K 54 c1S0 c1D0 c1E0 c1H0) = fun K => K c1S1 c1D1 c1E1 c1H1 := c1sg1
theorem c1seg2 : (fun K => runK c1X K 30 c1S1 c1D1 c1E1 c1H1) = fun K => K c1S2 c1D2 c1E2 c1H2 := c1sg2
theorem c5seg1 : (fun K => runK c5X K 54 c5S0 c5D0 c5E0 c5H0) = fun K => K c5S1 c5D1 c5E1 c5H1 := c5sg1
theorem c5fin : dedup (Nat.ble C0.S 994) c5HA.next (run c5X 999946 c5S1 c5D1 c5E1 c5H1) = c5An := c5fi
theorem c5call : callN C0 995 (.fn 192) c5A c5HA = c5An := by
  have e0 : callN C0 995 (.fn 192) c5A c5HA = dedup (Nat.ble C0.S 994) c5HA.next (run c5X 1000000 c5S0 c5D0 c5E0 c5H0) := callN_in (n := 994) (fd := Tryz.f192) (c := cdF C0 192 0) (by kernel_rfl) (by kernel_rfl) (by kernel_rfl) (by kernel_rfl)
  have e1 : run c5X 1000000 c5S0 c5D0 c5E0 c5H0 = run c5X 999946 c5S1 c5D1 c5E1 c5H1 := cut c5seg1 999946
  rw [e1] at e0
  rw [e0]
  exact c5fin
theorem c4X0_eq : c4X0 = c4X := by
  unfold c4X0
  rw [callK_eq c5call]
  rfl
theorem c4fin : dedup (Nat.ble C0.S 995) c4HA.next (run c4X 1000000 c4S0 c4D0 c4E0 c4H0) = c4An := by
  rw [← c4X0_eq]
  exact c4fi
theorem c4call : callN C0 996 (.fn 103) c4A c4HA = c4An := by
  have e0 : callN C0 996 (.fn 103) c4A c4HA = dedup (Nat.ble C0.S 995) c4HA.next (run c4X 1000000 c4S0 c4D0 c4E0 c4H0) := callN_in (n := 995) (fd := Tryz.f103) (c := cdF C0 103 0) (by kernel_rfl) (by kernel_rfl) (by kernel_rfl) (by kernel_rfl)
  rw [e0]
  exact c4fin
theorem c3X0_eq : c3X0 = c3X := by
  unfold c3X0
  rw [callK_eq c4call]
  rfl
theorem c3fin : dedup (Nat.ble C0.S 996) c3HA.next (run c3X 1000000 c3S0 c3D0 c3E0 c3H0) = c3An := by
  rw [← c3X0_eq]
  exact c3fi
theorem c3call : callN C0 997 (.fn 102) c3A c3HA = c3An := by
  have e0 : callN C0 997 (.fn 102) c3A c3HA = dedup (Nat.ble C0.S 996) c3HA.next (run c3X 1000000 c3S0 c3D0 c3E0 c3H0) := callN_in (n := 996) (fd := Tryz.f102) (c := cdF C0 102 0) (by kernel_rfl) (by kernel_rfl) (by kernel_rfl) (by kernel_rfl)
  rw [e0]
  exact c3fin
theorem c2X0_eq : c2X0 = c2X := by
  unfold c2X0
  rw [callK_eq c3call]
  rfl
theorem c2fin : dedup (Nat.ble C0.S 997) c2HA.next (run c2X 1000000 c2S0 c2D0 c2E0 c2H0) = c2An := by
  rw [← c2X0_eq]
  exact c2fi
theorem c2call : callN C0 998 (.fn 27) c2A c2HA = c2An := by
  have e0 : callN C0 998 (.fn 27) c2A c2HA = dedup (Nat.ble C0.S 997) c2HA.next (run c2X 1000000 c2S0 c2D0 c2E0 c2H0) := callN_in (n := 997) (fd := Tryz.f27) (c := cdF C0 27 0) (by kernel_rfl) (by kernel_rfl) (by kernel_rfl) (by kernel_rfl)
  rw [e0]
  exact c2fin
theorem c1X0_eq : c1X0 = c1X := by
  unfold c1X0
  rw [callK_eq c2call]
  rfl
theorem c1fin : dedup (Nat.ble C0.S 998) c1HA.next (run c1X 999916 c1S2 c1D2 c1E2 c1H2) = c1An := by
  rw [← c1X0_eq]
  exact c1fi
theorem c1call : callN C0 999 (.fn 5) c1A c1HA = c1An := by
  have e0 : callN C0 999 (.fn 5) c1A c1HA = dedup (Nat.ble C0.S 998) c1HA.next (run c1X 1000000 c1S0 c1D0 c1E0 c1H0) := callN_in (n := 998) (fd := Tryz.f5) (c := cdF C0 5 0) (by kernel_rfl) (by kernel_rfl) (by kernel_rfl) (by kernel_rfl)
  have e1 : run c1X 1000000 c1S0 c1D0 c1E0 c1H0 = run c1X 999946 c1S1 c1D1 c1E1 c1H1 := cut c1seg1 999946
  rw [e1] at e0
  have e2 : run c1X 999946 c1S1 c1D1 c1E1 c1H1 = run c1X 999916 c1S2 c1D2 c1E2 c1H2 := cut c1seg2 999916
  rw [e2] at e0
  rw [e0]
  exact c1fin
theorem c6fin : dedup (Nat.ble C0.S 998) c6HA.next (run c6X 1000000 c6S0 c6D0 c6E0 c6H0) = c6An := c6fi
theorem c6call : callN C0 999 (.fn 7) c6A c6HA = c6An := by
  have e0 : callN C0 999 (.fn 7) c6A c6HA = dedup (Nat.ble C0.S 998) c6HA.next (run c6X 1000000 c6S0 c6D0 c6E0 c6H0) := callN_in (n := 998) (fd := Tryz.f7) (c := cdF C0 7 0) (by kernel_rfl) (by kernel_rfl) (by kernel_rfl) (by kernel_rfl)
  rw [e0]
  exact c6fin
theorem c7fin : dedup (Nat.ble C0.S 998) c7HA.next (run c7X 1000000 c7S0 c7D0 c7E0 c7H0) = c7An := c7fi
theorem c7call : callN C0 999 (.fn 7) c7A c7HA = c7An := by
  have e0 : callN C0 999 (.fn 7) c7A c7HA = dedup (Nat.ble C0.S 998) c7HA.next (run c7X 1000000 c7S0 c7D0 c7E0 c7H0) := callN_in (n := 998) (fd := Tryz.f7) (c := cdF C0 7 0) (by kernel_rfl) (by kernel_rfl) (by kernel_rfl) (by kernel_rfl)
  rw [e0]
  exact c7fin
theorem c8fin : dedup (Nat.ble C0.S 998) c8HA.next (run c8X 1000000 c8S0 c8D0 c8E0 c8H0) = c8An := c8fi
theorem c8call : callN C0 999 (.fn 7) c8A c8HA = c8An := by
  have e0 : callN C0 999 (.fn 7) c8A c8HA = dedup (Nat.ble C0.S 998) c8HA.next (run c8X 1000000 c8S0 c8D0 c8E0 c8H0) := callN_in (n := 998) (fd := Tryz.f7) (c := cdF C0 7 0) (by kernel_rfl) (by kernel_rfl) (by kernel_rfl) (by kernel_rfl)
  rw [e0]
  exact c8fin
theorem c9fin : dedup (Nat.ble C0.S 998) c9HA.next (run c9X 1000000 c9S0 c9D0 c9E0 c9H0) = c9An := c9fi
theorem c9call : callN C0 999 (.fn 7) c9A c9HA = c9An := by
  have e0 : callN C0 999 (.fn 7) c9A c9HA = dedup (Nat.ble C0.S 998) c9HA.next (run c9X 1000000 c9S0 c9D0 c9E0 c9H0) := callN_in (n := 998) (fd := Tryz.f7) (c := cdF C0 7 0) (by kernel_rfl) (by kernel_rfl) (by kernel_rfl) (by kernel_rfl)
  rw [e0]
  exact c9fin
theorem c10seg1 : (fun K => runK c10X K 12 c10S0 c10D0 c10E0 c10H0) = fun K => K c10S1 c10D1 c10E1 c10H1 := c10sg1
theorem c10fin : dedup (Nat.ble C0.S 998) c10HA.next (run c10X 999988 c10S1 c10D1 c10E1 c10H1) = c10An := c10fi
theorem c10call : callN C0 999 (.fn 7) c10A c10HA = c10An := by
  have e0 : callN C0 999 (.fn 7) c10A c10HA = dedup (Nat.ble C0.S 998) c10HA.next (run c10X 1000000 c10S0 c10D0 c10E0 c10H0) := callN_in (n := 998) (fd := Tryz.f7) (c := cdF C0 7 0) (by kernel_rfl) (by kernel_rfl) (by kernel_rfl) (by kernel_rfl)
  have e1 : run c10X 1000000 c10S0 c10D0 c10E0 c10H0 = run c10X 999988 c10S1 c10D1 c10E1 c10H1 := cut c10seg1 999988
  rw [e1] at e0
  rw [e0]
  exact c10fin
theorem c11fin : dedup (Nat.ble C0.S 998) c11HA.next (run c11X 1000000 c11S0 c11D0 c11E0 c11H0) = c11An := c11fi
theorem c11call : callN C0 999 (.fn 7) c11A c11HA = c11An := by
  have e0 : callN C0 999 (.fn 7) c11A c11HA = dedup (Nat.ble C0.S 998) c11HA.next (run c11X 1000000 c11S0 c11D0 c11E0 c11H0) := callN_in (n := 998) (fd := Tryz.f7) (c := cdF C0 7 0) (by kernel_rfl) (by kernel_rfl) (by kernel_rfl) (by kernel_rfl)
  rw [e0]
  exact c11fin
theorem c13seg1 : (fun K => runK c13X K 54 c13S0 c13D0 c13E0 c13H0) = fun K => K c13S1 c13D1 c13E1 c13H1 := c13sg1
theorem c13seg2 : (fun K => runK c13X K 54 c13S1 c13D1 c13E1 c13H1) = fun K => K c13S2 c13D2 c13E2 c13H2 := c13sg2
theorem c13fin : dedup (Nat.ble C0.S 997) c13HA.next (run c13X 999892 c13S2 c13D2 c13E2 c13H2) = c13An := c13fi
theorem c13call : callN C0 998 (.fn 5) c13A c13HA = c13An := by
  have e0 : callN C0 998 (.fn 5) c13A c13HA = dedup (Nat.ble C0.S 997) c13HA.next (run c13X 1000000 c13S0 c13D0 c13E0 c13H0) := callN_in (n := 997) (fd := Tryz.f5) (c := cdF C0 5 0) (by kernel_rfl) (by kernel_rfl) (by kernel_rfl) (by kernel_rfl)
  have e1 : run c13X 1000000 c13S0 c13D0 c13E0 c13H0 = run c13X 999946 c13S1 c13D1 c13E1 c13H1 := cut c13seg1 999946
  rw [e1] at e0
  have e2 : run c13X 999946 c13S1 c13D1 c13E1 c13H1 = run c13X 999892 c13S2 c13D2 c13E2 c13H2 := cut c13seg2 999892
  rw [e2] at e0
  rw [e0]
  exact c13fin
theorem c14seg1 : (fun K => runK c14X K 18 c14S0 c14D0 c14E0 c14H0) = fun K => K c14S1 c14D1 c14E1 c14H1 := c14sg1
theorem c15seg1 : (fun K => runK c15X K 30 c15S0 c15D0 c15E0 c15H0) = fun K => K c15S1 c15D1 c15E1 c15H1 := c15sg1
theorem c15fin : dedup (Nat.ble C0.S 996) c15HA.next (run c15X 999970 c15S1 c15D1 c15E1 c15H1) = c15An := c15fi
theorem c15call : callN C0 997 (.fn 33) c15A c15HA = c15An := by
  have e0 : callN C0 997 (.fn 33) c15A c15HA = dedup (Nat.ble C0.S 996) c15HA.next (run c15X 1000000 c15S0 c15D0 c15E0 c15H0) := callN_in (n := 996) (fd := Tryz.f33) (c := cdF C0 33 0) (by kernel_rfl) (by kernel_rfl) (by kernel_rfl) (by kernel_rfl)
  have e1 : run c15X 1000000 c15S0 c15D0 c15E0 c15H0 = run c15X 999970 c15S1 c15D1 c15E1 c15H1 := cut c15seg1 999970
  rw [e1] at e0
  rw [e0]
  exact c15fin
theorem c16fin : dedup (Nat.ble C0.S 996) c16HA.next (run c16X 1000000 c16S0 c16D0 c16E0 c16H0) = c16An := c16fi
theorem c16call : callN C0 997 (.fn 34) c16A c16HA = c16An := by
  have e0 : callN C0 997 (.fn 34) c16A c16HA = dedup (Nat.ble C0.S 996) c16HA.next (run c16X 1000000 c16S0 c16D0 c16E0 c16H0) := callN_in (n := 996) (fd := Tryz.f34) (c := cdF C0 34 0) (by kernel_rfl) (by kernel_rfl) (by kernel_rfl) (by kernel_rfl)
  rw [e0]
  exact c16fin
theorem c17fin : dedup (Nat.ble C0.S 996) c17HA.next (run c17X 1000000 c17S0 c17D0 c17E0 c17H0) = c17An := c17fi
theorem c17call : callN C0 997 (.fn 35) c17A c17HA = c17An := by
  have e0 : callN C0 997 (.fn 35) c17A c17HA = dedup (Nat.ble C0.S 996) c17HA.next (run c17X 1000000 c17S0 c17D0 c17E0 c17H0) := callN_in (n := 996) (fd := Tryz.f35) (c := cdF C0 35 0) (by kernel_rfl) (by kernel_rfl) (by kernel_rfl) (by kernel_rfl)
  rw [e0]
  exact c17fin
theorem c14X0_eq : c14X0 = c14X := by
  unfold c14X0
  rw [callK_eq c15call, callK_eq c16call, callK_eq c17call]
  rfl
theorem c14fin : dedup (Nat.ble C0.S 997) c14HA.next (run c14X 999982 c14S1 c14D1 c14E1 c14H1) = c14An := by
  rw [← c14X0_eq]
  exact c14fi
theorem c14call : callN C0 998 (.fn 7) c14A c14HA = c14An := by
  have e0 : callN C0 998 (.fn 7) c14A c14HA = dedup (Nat.ble C0.S 997) c14HA.next (run c14X 1000000 c14S0 c14D0 c14E0 c14H0) := callN_in (n := 997) (fd := Tryz.f7) (c := cdF C0 7 0) (by kernel_rfl) (by kernel_rfl) (by kernel_rfl) (by kernel_rfl)
  have e1 : run c14X 1000000 c14S0 c14D0 c14E0 c14H0 = run c14X 999982 c14S1 c14D1 c14E1 c14H1 := cut c14seg1 999982
  rw [e1] at e0
  rw [e0]
  exact c14fin
theorem c12X0_eq : c12X0 = c12X := by
  unfold c12X0
  rw [callK_eq c13call, callK_eq c14call]
  rfl
theorem c12fin : dedup (Nat.ble C0.S 998) c12HA.next (run c12X 1000000 c12S0 c12D0 c12E0 c12H0) = c12An := by
  rw [← c12X0_eq]
  exact c12fi
theorem c12call : callN C0 999 (.fn 13) c12A c12HA = c12An := by
  have e0 : callN C0 999 (.fn 13) c12A c12HA = dedup (Nat.ble C0.S 998) c12HA.next (run c12X 1000000 c12S0 c12D0 c12E0 c12H0) := callN_in (n := 998) (fd := Tryz.f13) (c := cdF C0 13 0) (by kernel_rfl) (by kernel_rfl) (by kernel_rfl) (by kernel_rfl)
  rw [e0]
  exact c12fin
theorem sX0_eq : sX0 = sX := by
  unfold sX0
  rw [callK_eq c1call, callK_eq c6call, callK_eq c7call, callK_eq c8call, callK_eq c9call, callK_eq c10call, callK_eq c11call, callK_eq c12call]
  rfl
theorem sfin : goodA (dedup (Nat.ble C0.S 999) (len gmaps) (run sX 1000000 sS0 sD0 sE0 sH0)) = true := by
  rw [← sX0_eq]
  exact sfi
theorem strue : goodA (mainC C0 3) = true := by
  have e0 : mainC C0 3 = dedup (Nat.ble C0.S 999) (len gmaps) (run sX 1000000 sS0 sD0 sE0 sH0) := callN_top (n := 999) (fd := Tryz.f3) (c := cdF C0 3 0) (by kernel_rfl) (by kernel_rfl) (by kernel_rfl) (by kernel_rfl)
  rw [e0]
  exact sfin
theorem law_calls (W : World) (hG : GOk C0.G W) : Calls Tryz.prog 3 #[] W fun e W' => e = .returned (.bool true) ∧ Below W.heap.size W W' :=
  calls_of_run (C := C0) hG (by kernel_rfl) (xok0 W hG) (f := 3) (fd := Tryz.f3) (by kernel_rfl) (by kernel_rfl) (by kernel_rfl) (by kernel_rfl) strue
end Go.Proofs.YtjhaikcokbmdbaaGreatDoor.Cx
