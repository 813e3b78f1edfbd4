/-
  Closed runs: this program.
-/
import Derived.Test.YtnopfndpnlomjaaDoorCxZg
import Derived.Test.YtnopfndpnlomjaaDoorRows
import Derived.Test.YtnopfndpnlomjaaDoorChecked
namespace Go.Proofs.YtnopfndpnlomjaaDoor.Cx
open Go.RowKit Go.Proofs.YtnopfndpnlomjaaDoor.Ax

def tab0 : List Int := [0, 1, 28, 2, 29, 14, 24, 3, 30, 22, 20, 15, 25, 17, 4, 8, 31, 27, 13, 23, 21, 19, 16, 7, 26, 12, 18, 6, 11, 5, 10, 9]
def tab1 : List Int := [0, 1, 56, 2, 57, 49, 28, 3, 61, 58, 42, 50, 38, 29, 17, 4, 62, 47, 59, 36, 45, 43, 51, 22, 53, 39, 33, 30, 24, 18, 12, 5, 63, 55, 48, 27, 60, 41, 37, 16, 46, 35, 44, 21, 52, 32, 23, 11, 54, 26, 40, 15, 34, 20, 31, 10, 25, 14, 19, 9, 13, 8, 7, 6]
def tab2 : List Int := [1, 10, 100, 1000, 10000, 100000, 1000000, 10000000, 100000000, 1000000000, 10000000000, 100000000000, 1000000000000, 10000000000000, 100000000000000, 1000000000000000, 10000000000000000, 100000000000000000, 1000000000000000000, 10000000000000000000]
noncomputable def XX : Tr Nat := ((Tr.lf : Tr Nat).set 35 (some 0))
noncomputable def GG : Tr (List CV) := ((((Tr.lf : Tr (List CV)).set 1 (some (mapL (CV.int .u8) tab0))).set 2 (some (mapL (CV.int .u8) tab1))).set 0 (some (mapL (CV.int .u64) tab2)))
noncomputable def C0 : Cf := ⟨Tryd.prog, XX, GG, 998⟩
theorem ext0 : IsExt Tryd.prog 35 Extern.MapsClone.clone := ⟨Tryd.f35, by kernel_rfl, by kernel_rfl, by kernel_rfl, by kernel_rfl, by kernel_rfl⟩
theorem xok0 (W : World) : XOk C0 W := XOk.of fun f x h => by
  have h : XX.get f = some x := h
  unfold XX at h
  rw [Tr.get_set] at h
  split at h
  · rename_i e
    subst e
    injection h with h
    exact .inl ⟨h.symm, ext0⟩
  rw [Tr.get_lf] at h
  cases h
theorem gok {W : World} (h : laidMetH Tryd.prog Rows.folderKnownRow.laid W) : GOk C0.G W := by
  have h0 : laidMet Tryd.prog [("math/bits.deBruijn32tab", Rows.laid_math_bits_deBruijn32tab), ("math/bits.deBruijn64tab", Rows.laid_math_bits_deBruijn64tab), ("internal/strconv.uint64pow10", Rows.laid_internal_strconv_uint64pow10)] W := h
  have t0 : Lib.TabIs Tryd.prog W "math/bits.deBruijn32tab" .u8 tab0 := Lib.tabIs_of_head (zs := tab0) (g := 1) (t := 118) (e := 5) (n := 32) (by kernel_rfl) (by kernel_rfl) (by kernel_rfl) (by kernel_rfl) (by kernel_rfl) (by kernel_rfl) h0
  have h1 := laid_tail h0
  have t1 : Lib.TabIs Tryd.prog W "math/bits.deBruijn64tab" .u8 tab1 := Lib.tabIs_of_head (zs := tab1) (g := 2) (t := 119) (e := 5) (n := 64) (by kernel_rfl) (by kernel_rfl) (by kernel_rfl) (by kernel_rfl) (by kernel_rfl) (by kernel_rfl) h1
  have h2 := laid_tail h1
  have t2 : Lib.TabIs Tryd.prog W "internal/strconv.uint64pow10" .u64 tab2 := Lib.tabIs_of_head (zs := tab2) (g := 0) (t := 109) (e := 26) (n := 20) (by kernel_rfl) (by kernel_rfl) (by kernel_rfl) (by kernel_rfl) (by kernel_rfl) (by kernel_rfl) h2
  exact ((((GOk.none W).set (g := 1) t0 (by kernel_rfl)).set (g := 2) t1 (by kernel_rfl)).set (g := 0) t2 (by kernel_rfl))
end Go.Proofs.YtnopfndpnlomjaaDoor.Cx
