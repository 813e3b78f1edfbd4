/-
  Closed runs: this program.
-/
import Derived.Test.YtacmeiclljbppaaGreatDoorCxCrc
import Derived.Test.YtacmeiclljbppaaGreatDoorRows
import Derived.Test.YtacmeiclljbppaaGreatDoorChecked
namespace Go.Proofs.YtacmeiclljbppaaGreatDoor.Cx
open Go.RowKit Go.Proofs.YtacmeiclljbppaaGreatDoor.Ax

def tab0 : List Int := [0, 274646895, 549293790, 820201905, 1098587580, 1361435347, 1640403810, 1905808397, 2197175160, 2460548119, 2722870694, 2987750089, 3280807620, 3553878443, 3811616794, 4084100981]
def tab1 : List Int := [0, 1, 28, 2, 29, 14, 24, 3, 30, 22, 20, 15, 25, 17, 4, 8, 31, 27, 13, 23, 21, 19, 16, 7, 26, 12, 18, 6, 11, 5, 10, 9]
def tab2 : List Int := [0, 1, 56, 2, 57, 49, 28, 3, 61, 58, 42, 50, 38, 29, 17, 4, 62, 47, 59, 36, 45, 43, 51, 22, 53, 39, 33, 30, 24, 18, 12, 5, 63, 55, 48, 27, 60, 41, 37, 16, 46, 35, 44, 21, 52, 32, 23, 11, 54, 26, 40, 15, 34, 20, 31, 10, 25, 14, 19, 9, 13, 8, 7, 6]
def tab3 : List Int := [1, 10, 100, 1000, 10000, 100000, 1000000, 10000000, 100000000, 1000000000, 10000000000, 100000000000, 1000000000000, 10000000000000, 100000000000000, 1000000000000000, 10000000000000000, 100000000000000000, 1000000000000000000, 10000000000000000000]
def tab4 : List Int := [1, 1, 2, 6, 3, 4]
noncomputable def XX : Tr Nat := ((((Tr.lf : Tr Nat).set 199 (some 0)).set 219 (some 1)).set 202 (some 3))
noncomputable def GG : Tr (List CV) := ((((((Tr.lf : Tr (List CV)).set 3 (some (mapL (CV.int .u32) tab0))).set 5 (some (mapL (CV.int .u8) tab1))).set 6 (some (mapL (CV.int .u8) tab2))).set 4 (some (mapL (CV.int .u64) tab3))).set 1 (some (mapL (CV.int .i64) tab4)))
noncomputable def C0 : Cf := ⟨Tryz.prog, XX, GG, 998⟩
theorem ext0 : IsExt Tryz.prog 199 Extern.MapsClone.clone := ⟨Tryz.f199, by kernel_rfl, by kernel_rfl, by kernel_rfl, by kernel_rfl, by kernel_rfl⟩
theorem ext1 : IsExt Tryz.prog 219 Extern.BytealgCompare.compare := ⟨Tryz.f219, by kernel_rfl, by kernel_rfl, by kernel_rfl, by kernel_rfl, by kernel_rfl⟩
theorem half_at : GG.get 3 = some (mapL (CV.int .u32) tab0) := by kernel_rfl
theorem tab_half : tab0 = (Cm.half.map fun x => (x.toNat : Int)) := by kernel_rfl
theorem xok0 (W : World) (_hG : GOk C0.G W) : XOk C0 W := XOk.of fun f x h => by
  have h : XX.get f = some x := h
  unfold XX at h
  rw [Tr.get_set] at h
  split at h
  · rename_i e
    subst e
    injection h with h
    exact .inr (.inr (.inl ⟨h.symm, x3 rfl _hG half_at tab_half⟩))
  rw [Tr.get_set] at h
  split at h
  · rename_i e
    subst e
    injection h with h
    exact .inr (.inl ⟨h.symm, ext1⟩)
  rw [Tr.get_set] at h
  split at h
  · rename_i e
    subst e
    injection h with h
    exact .inl ⟨h.symm, ext0⟩
  rw [Tr.get_lf] at h
  cases h
theorem gok {W : World} (h : laidMetH Tryz.prog Rows.rollKnownRow.laid W) : GOk C0.G W := by
  have h0 : laidMet Tryz.prog [("hourbook/crc.half", Rows.laid_hourbook_crc_half), ("math/bits.deBruijn32tab", Rows.laid_math_bits_deBruijn32tab), ("math/bits.deBruijn64tab", Rows.laid_math_bits_deBruijn64tab), ("internal/strconv.uint64pow10", Rows.laid_internal_strconv_uint64pow10), ("hourbook/record.sizes", Rows.laid_hourbook_record_sizes)] W := h
  have t0 : Lib.TabIs Tryz.prog W "hourbook/crc.half" .u32 tab0 := Lib.tabIs_of_head (zs := tab0) (g := 3) (t := 288) (e := 27) (n := 16) (by kernel_rfl) (by kernel_rfl) (by kernel_rfl) (by kernel_rfl) (by kernel_rfl) (by kernel_rfl) h0
  have h1 := laid_tail h0
  have t1 : Lib.TabIs Tryz.prog W "math/bits.deBruijn32tab" .u8 tab1 := Lib.tabIs_of_head (zs := tab1) (g := 5) (t := 324) (e := 5) (n := 32) (by kernel_rfl) (by kernel_rfl) (by kernel_rfl) (by kernel_rfl) (by kernel_rfl) (by kernel_rfl) h1
  have h2 := laid_tail h1
  have t2 : Lib.TabIs Tryz.prog W "math/bits.deBruijn64tab" .u8 tab2 := Lib.tabIs_of_head (zs := tab2) (g := 6) (t := 325) (e := 5) (n := 64) (by kernel_rfl) (by kernel_rfl) (by kernel_rfl) (by kernel_rfl) (by kernel_rfl) (by kernel_rfl) h2
  have h3 := laid_tail h2
  have t3 : Lib.TabIs Tryz.prog W "internal/strconv.uint64pow10" .u64 tab3 := Lib.tabIs_of_head (zs := tab3) (g := 4) (t := 298) (e := 33) (n := 20) (by kernel_rfl) (by kernel_rfl) (by kernel_rfl) (by kernel_rfl) (by kernel_rfl) (by kernel_rfl) h3
  have h4 := laid_tail h3
  have t4 : Lib.TabIs Tryz.prog W "hourbook/record.sizes" .i64 tab4 := Lib.tabIs_of_head (zs := tab4) (g := 1) (t := 190) (e := 3) (n := 6) (by kernel_rfl) (by kernel_rfl) (by kernel_rfl) (by kernel_rfl) (by kernel_rfl) (by kernel_rfl) h4
  exact ((((((GOk.none W).set (g := 3) t0 (by kernel_rfl)).set (g := 5) t1 (by kernel_rfl)).set (g := 6) t2 (by kernel_rfl)).set (g := 4) t3 (by kernel_rfl)).set (g := 1) t4 (by kernel_rfl))
end Go.Proofs.YtacmeiclljbppaaGreatDoor.Cx
