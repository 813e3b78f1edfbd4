/-
  Closed runs: this program.
-/
import Derived.Test.YtacmeiclljbppaaGreatDoorCxCrc
import Derived.Test.YtacmeiclljbppaaGreatDoorCxZh
import Derived.Test.YtacmeiclljbppaaGreatDoorRows
import Derived.Test.YtacmeiclljbppaaGreatDoorChecked
namespace Go.Proofs.YtacmeiclljbppaaGreatDoor.Cx
open Go.RowKit Go.Proofs.YtacmeiclljbppaaGreatDoor.Ax

def tab0 : List Int := [0, 274646895, 549293790, 820201905, 1098587580, 1361435347, 1640403810, 1905808397, 2197175160, 2460548119, 2722870694, 2987750089, 3280807620, 3553878443, 3811616794, 4084100981]
noncomputable def XX : Tr Nat := ((((Tr.lf : Tr Nat).set 199 (some 0)).set 219 (some 1)).set 202 (some 3))
noncomputable def GG : Tr (List CV) := (((Tr.lf : Tr (List CV)).set 3 (some (mapL (CV.int .u32) tab0))).set 0 (some [CV.mp 0]))
noncomputable def C0 : Cf := ⟨Tryz.prog, XX, GG, 998⟩
theorem ext0 : IsExt Tryz.prog 199 Extern.MapsClone.clone := ⟨Tryz.f199, by kernel_rfl, by kernel_rfl, by kernel_rfl, by kernel_rfl, by kernel_rfl⟩
theorem ext1 : IsExt Tryz.prog 219 Extern.BytealgCompare.compare := ⟨Tryz.f219, by kernel_rfl, by kernel_rfl, by kernel_rfl, by kernel_rfl, by kernel_rfl⟩
theorem half_at : GG.get 3 = some (mapL (CV.int .u32) tab0) := by kernel_rfl
theorem tab_half : tab0 = (Cm.half.map fun x => (x.toNat : Int)) := by kernel_rfl
theorem xok0 (W : World) (_hG : GOk C0.G W) : XOk C0 W := XOk.of fun f x h => by
  have h : XX.get f = some x := h
  unfold XX at h
  rw [Tr.get_set] at h
  split at h
  · rename_i e
    subst e
    injection h with h
    exact .inr (.inr (.inl ⟨h.symm, x3 rfl _hG half_at tab_half⟩))
  rw [Tr.get_set] at h
  split at h
  · rename_i e
    subst e
    injection h with h
    exact .inr (.inl ⟨h.symm, ext1⟩)
  rw [Tr.get_set] at h
  split at h
  · rename_i e
    subst e
    injection h with h
    exact .inl ⟨h.symm, ext0⟩
  rw [Tr.get_lf] at h
  cases h
noncomputable def dat0 : DataW Unit := .map [(.int .i64 1, .iface "func" (.lit (.string [104, 111, 117, 114, 98, 111, 111, 107, 47, 109, 115, 116, 97, 116, 101, 46, 100, 111, 101, 115, 36, 49]))), (.int .i64 2, .iface "func" (.lit (.string [104, 111, 117, 114, 98, 111, 111, 107, 47, 109, 115, 116, 97, 116, 101, 46, 100, 111, 101, 115, 36, 50]))), (.int .i64 3, .iface "func" (.lit (.string [104, 111, 117, 114, 98, 111, 111, 107, 47, 109, 115, 116, 97, 116, 101, 46, 100, 111, 101, 115, 36, 51]))), (.int .i64 4, .iface "func" (.lit (.string [104, 111, 117, 114, 98, 111, 111, 107, 47, 109, 115, 116, 97, 116, 101, 46, 100, 111, 101, 115, 36, 52]))), (.int .i64 5, .iface "func" (.lit (.string [104, 111, 117, 114, 98, 111, 111, 107, 47, 109, 115, 116, 97, 116, 101, 46, 100, 111, 101, 115, 36, 53]))), (.int .i64 6, .iface "func" (.lit (.string [104, 111, 117, 114, 98, 111, 111, 107, 47, 109, 115, 116, 97, 116, 101, 46, 100, 111, 101, 115, 36, 54])))]
def ents0 : List Ent := [(1, [104, 111, 117, 114, 98, 111, 111, 107, 47, 109, 115, 116, 97, 116, 101, 46, 100, 111, 101, 115, 36, 49], 307), (2, [104, 111, 117, 114, 98, 111, 111, 107, 47, 109, 115, 116, 97, 116, 101, 46, 100, 111, 101, 115, 36, 50], 308), (3, [104, 111, 117, 114, 98, 111, 111, 107, 47, 109, 115, 116, 97, 116, 101, 46, 100, 111, 101, 115, 36, 51], 310), (4, [104, 111, 117, 114, 98, 111, 111, 107, 47, 109, 115, 116, 97, 116, 101, 46, 100, 111, 101, 115, 36, 52], 312), (5, [104, 111, 117, 114, 98, 111, 111, 107, 47, 109, 115, 116, 97, 116, 101, 46, 100, 111, 101, 115, 36, 53], 314), (6, [104, 111, 117, 114, 98, 111, 111, 107, 47, 109, 115, 116, 97, 116, 101, 46, 100, 111, 101, 115, 36, 54], 315)]
theorem laidE (W : World) : laidMetH Tryz.prog Rows.ckptKnownRow.laid W = (laidMet Tryz.prog [("hourbook/crc.half", Rows.laid_hourbook_crc_half)] W ∧ handlesMet Tryz.prog [("hourbook/mstate.does", Rows.laid_hourbook_mstate_does)] W) := by kernel_rfl
theorem gmw {W : World} (h : laidMetH Tryz.prog Rows.ckptKnownRow.laid W) : GmW W := by
  intro i x hx
  cases i with
  | zero =>
    injection hx with hx
    subst hx
    exact gm_of_laid (n := "hourbook/mstate.does") (d := dat0) (g := 0) (t := 167) (k := 3) (e := 166) ents0 (by kernel_rfl) (by kernel_rfl) (by kernel_rfl) (by kernel_rfl) Tryz.underlying166 (by kernel_rfl) (by kernel_rfl) (by decide +kernel) (h.funcs (show ("hourbook/mstate.does", DataW.iface "func table" dat0) ∈ Rows.ckptKnownRow.laid from List.Mem.tail _ (List.Mem.head _)))
  | succ i =>
    simp [gmaps] at hx
theorem gok {W : World} (h : laidMetH Tryz.prog Rows.ckptKnownRow.laid W) : GOk C0.G W := by
  have h0 : laidMet Tryz.prog [("hourbook/crc.half", Rows.laid_hourbook_crc_half)] W := ((laidE W) ▸ h : _ ∧ _).1
  have t0 : Lib.TabIs Tryz.prog W "hourbook/crc.half" .u32 tab0 := Lib.tabIs_of_head (zs := tab0) (g := 3) (t := 288) (e := 27) (n := 16) (by kernel_rfl) (by kernel_rfl) (by kernel_rfl) (by kernel_rfl) (by kernel_rfl) (by kernel_rfl) h0
  exact (((GOk.none (gmw h)).set (g := 3) t0 (by kernel_rfl)).setMap (g := 0) (i := 0) rfl)
end Go.Proofs.YtacmeiclljbppaaGreatDoor.Cx
