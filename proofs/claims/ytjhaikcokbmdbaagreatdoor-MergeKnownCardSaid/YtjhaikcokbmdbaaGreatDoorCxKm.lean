/-
  Closed runs: this program.
-/
import Derived.Test.YtjhaikcokbmdbaaGreatDoorCxCrc
import Derived.Test.YtjhaikcokbmdbaaGreatDoorCxZh
import Derived.Test.YtjhaikcokbmdbaaGreatDoorRows
import Derived.Test.YtjhaikcokbmdbaaGreatDoorChecked
import Derived.Test.YtjhaikcokbmdbaaGreatDoorOwn
namespace Go.Proofs.YtjhaikcokbmdbaaGreatDoor.Cx
open Go.RowKit Go.Proofs.YtjhaikcokbmdbaaGreatDoor.Ax

def tab0 : List Int := [0, 274646895, 549293790, 820201905, 1098587580, 1361435347, 1640403810, 1905808397, 2197175160, 2460548119, 2722870694, 2987750089, 3280807620, 3553878443, 3811616794, 4084100981]
def tab1 : List Int := [0, 1, 28, 2, 29, 14, 24, 3, 30, 22, 20, 15, 25, 17, 4, 8, 31, 27, 13, 23, 21, 19, 16, 7, 26, 12, 18, 6, 11, 5, 10, 9]
def tab2 : List Int := [0, 1, 56, 2, 57, 49, 28, 3, 61, 58, 42, 50, 38, 29, 17, 4, 62, 47, 59, 36, 45, 43, 51, 22, 53, 39, 33, 30, 24, 18, 12, 5, 63, 55, 48, 27, 60, 41, 37, 16, 46, 35, 44, 21, 52, 32, 23, 11, 54, 26, 40, 15, 34, 20, 31, 10, 25, 14, 19, 9, 13, 8, 7, 6]
def tab3 : List Int := [1, 10, 100, 1000, 10000, 100000, 1000000, 10000000, 100000000, 1000000000, 10000000000, 100000000000, 1000000000000, 10000000000000, 100000000000000, 1000000000000000, 10000000000000000, 100000000000000000, 1000000000000000000, 10000000000000000000]
def tab4 : List Int := [1, 1, 2, 6, 3, 4]
noncomputable def XX : Tr Nat := (((((Tr.lf : Tr Nat).set 319 (some 0)).set 402 (some 1)).set 311 (some 4)).set 321 (some 3))
noncomputable def GG : Tr (List CV) := (((((((Tr.lf : Tr (List CV)).set 6 (some (mapL (CV.int .u32) tab0))).set 7 (some (mapL (CV.int .u8) tab1))).set 8 (some (mapL (CV.int .u8) tab2))).set 2 (some (mapL (CV.int .u64) tab3))).set 1 (some (mapL (CV.int .i64) tab4))).set 0 (some [CV.mp 0]))
noncomputable def C0 : Cf := ⟨Tryz.prog, XX, GG, 994, laidOut⟩
theorem ext0 : IsExt Tryz.prog 319 Extern.MapsClone.clone := ⟨Tryz.f319, by kernel_rfl, by kernel_rfl, by kernel_rfl, by kernel_rfl, by kernel_rfl⟩
theorem ext1 : IsExt Tryz.prog 402 Extern.BytealgCompare.compare := ⟨Tryz.f402, by kernel_rfl, by kernel_rfl, by kernel_rfl, by kernel_rfl, by kernel_rfl⟩
theorem ext4 : IsExt Tryz.prog 311 Extern.BytealgCompare.compare := ⟨Tryz.f311, by kernel_rfl, by kernel_rfl, by kernel_rfl, by kernel_rfl, by kernel_rfl⟩
theorem half_at : GG.get 6 = some (mapL (CV.int .u32) tab0) := by kernel_rfl
theorem tab_half : tab0 = (Cm.half.map fun x => (x.toNat : Int)) := by kernel_rfl
theorem xok0 (W : World) (_hG : GOk C0.G W) : XOk C0 W := XOk.of fun f x h => by
  have h : XX.get f = some x := h
  unfold XX at h
  rw [Tr.get_set] at h
  split at h
  · rename_i e
    subst e
    injection h with h
    exact .inr (.inr (.inl ⟨h.symm, x3 rfl _hG half_at tab_half⟩))
  rw [Tr.get_set] at h
  split at h
  · rename_i e
    subst e
    injection h with h
    exact .inr (.inr (.inr (.inr ⟨h.symm, ext4⟩)))
  rw [Tr.get_set] at h
  split at h
  · rename_i e
    subst e
    injection h with h
    exact .inr (.inl ⟨h.symm, ext1⟩)
  rw [Tr.get_set] at h
  split at h
  · rename_i e
    subst e
    injection h with h
    exact .inl ⟨h.symm, ext0⟩
  rw [Tr.get_lf] at h
  cases h
noncomputable def dat0 : DataW Unit := .map [(.int .i64 1, .iface "func" (.lit (.string [104, 111, 117, 114, 98, 111, 111, 107, 47, 109, 115, 116, 97, 116, 101, 46, 100, 111, 101, 115, 36, 49]))), (.int .i64 2, .iface "func" (.lit (.string [104, 111, 117, 114, 98, 111, 111, 107, 47, 109, 115, 116, 97, 116, 101, 46, 100, 111, 101, 115, 36, 50]))), (.int .i64 3, .iface "func" (.lit (.string [104, 111, 117, 114, 98, 111, 111, 107, 47, 109, 115, 116, 97, 116, 101, 46, 100, 111, 101, 115, 36, 51]))), (.int .i64 4, .iface "func" (.lit (.string [104, 111, 117, 114, 98, 111, 111, 107, 47, 109, 115, 116, 97, 116, 101, 46, 100, 111, 101, 115, 36, 52]))), (.int .i64 5, .iface "func" (.lit (.string [104, 111, 117, 114, 98, 111, 111, 107, 47, 109, 115, 116, 97, 116, 101, 46, 100, 111, 101, 115, 36, 53]))), (.int .i64 6, .iface "func" (.lit (.string [104, 111, 117, 114, 98, 111, 111, 107, 47, 109, 115, 116, 97, 116, 101, 46, 100, 111, 101, 115, 36, 54])))]
def ents0 : List Ent := [(1, [104, 111, 117, 114, 98, 111, 111, 107, 47, 109, 115, 116, 97, 116, 101, 46, 100, 111, 101, 115, 36, 49], 456), (2, [104, 111, 117, 114, 98, 111, 111, 107, 47, 109, 115, 116, 97, 116, 101, 46, 100, 111, 101, 115, 36, 50], 457), (3, [104, 111, 117, 114, 98, 111, 111, 107, 47, 109, 115, 116, 97, 116, 101, 46, 100, 111, 101, 115, 36, 51], 459), (4, [104, 111, 117, 114, 98, 111, 111, 107, 47, 109, 115, 116, 97, 116, 101, 46, 100, 111, 101, 115, 36, 52], 461), (5, [104, 111, 117, 114, 98, 111, 111, 107, 47, 109, 115, 116, 97, 116, 101, 46, 100, 111, 101, 115, 36, 53], 462), (6, [104, 111, 117, 114, 98, 111, 111, 107, 47, 109, 115, 116, 97, 116, 101, 46, 100, 111, 101, 115, 36, 54], 463)]
theorem laidE (W : World) : laidMetH Tryz.prog Rows.mergeKnownRow.laid W = (laidMet Tryz.prog [("hourbook/crc.half", Rows.laid_hourbook_crc_half), ("math/bits.deBruijn32tab", Rows.laid_math_bits_deBruijn32tab), ("math/bits.deBruijn64tab", Rows.laid_math_bits_deBruijn64tab), ("internal/strconv.uint64pow10", Rows.laid_internal_strconv_uint64pow10), ("hourbook/record.sizes", Rows.laid_hourbook_record_sizes)] W ∧ handlesMet Tryz.prog [("hourbook/mstate.does", Rows.laid_hourbook_mstate_does)] W) := by kernel_rfl
theorem gmw {W : World} (h : laidMetH Tryz.prog Rows.mergeKnownRow.laid W) : GmW W := by
  intro i x hx
  cases i with
  | zero =>
    injection hx with hx
    subst hx
    exact gm_of_laid (n := "hourbook/mstate.does") (d := dat0) (g := 0) (t := 274) (k := 3) (e := 273) ents0 (by kernel_rfl) (by kernel_rfl) (by kernel_rfl) (by kernel_rfl) Tryz.underlying273 (by kernel_rfl) (by kernel_rfl) (by decide +kernel) (h.funcs (show ("hourbook/mstate.does", DataW.iface "func table" dat0) ∈ Rows.mergeKnownRow.laid from List.Mem.tail _ (List.Mem.tail _ (List.Mem.tail _ (List.Mem.tail _ (List.Mem.tail _ (List.Mem.head _)))))))
  | succ i =>
    simp [gmaps] at hx
theorem gok {W : World} (h : laidMetH Tryz.prog Rows.mergeKnownRow.laid W) : GOk C0.G W := by
  have h0 : laidMet Tryz.prog [("hourbook/crc.half", Rows.laid_hourbook_crc_half), ("math/bits.deBruijn32tab", Rows.laid_math_bits_deBruijn32tab), ("math/bits.deBruijn64tab", Rows.laid_math_bits_deBruijn64tab), ("internal/strconv.uint64pow10", Rows.laid_internal_strconv_uint64pow10), ("hourbook/record.sizes", Rows.laid_hourbook_record_sizes)] W := ((laidE W) ▸ h : _ ∧ _).1
  have t0 : Lib.TabIs Tryz.prog W "hourbook/crc.half" .u32 tab0 := Lib.tabIs_of_head (zs := tab0) (g := 6) (t := 463) (e := 40) (n := 16) (by kernel_rfl) (by kernel_rfl) (by kernel_rfl) (by kernel_rfl) (by kernel_rfl) (by kernel_rfl) h0
  have h1 := laid_tail h0
  have t1 : Lib.TabIs Tryz.prog W "math/bits.deBruijn32tab" .u8 tab1 := Lib.tabIs_of_head (zs := tab1) (g := 7) (t := 474) (e := 5) (n := 32) (by kernel_rfl) (by kernel_rfl) (by kernel_rfl) (by kernel_rfl) (by kernel_rfl) (by kernel_rfl) h1
  have h2 := laid_tail h1
  have t2 : Lib.TabIs Tryz.prog W "math/bits.deBruijn64tab" .u8 tab2 := Lib.tabIs_of_head (zs := tab2) (g := 8) (t := 348) (e := 5) (n := 64) (by kernel_rfl) (by kernel_rfl) (by kernel_rfl) (by kernel_rfl) (by kernel_rfl) (by kernel_rfl) h2
  have h3 := laid_tail h2
  have t3 : Lib.TabIs Tryz.prog W "internal/strconv.uint64pow10" .u64 tab3 := Lib.tabIs_of_head (zs := tab3) (g := 2) (t := 390) (e := 41) (n := 20) (by kernel_rfl) (by kernel_rfl) (by kernel_rfl) (by kernel_rfl) (by kernel_rfl) (by kernel_rfl) h3
  have h4 := laid_tail h3
  have t4 : Lib.TabIs Tryz.prog W "hourbook/record.sizes" .i64 tab4 := Lib.tabIs_of_head (zs := tab4) (g := 1) (t := 376) (e := 3) (n := 6) (by kernel_rfl) (by kernel_rfl) (by kernel_rfl) (by kernel_rfl) (by kernel_rfl) (by kernel_rfl) h4
  exact (((((((GOk.none (gmw h)).set (g := 6) t0 (by kernel_rfl)).set (g := 7) t1 (by kernel_rfl)).set (g := 8) t2 (by kernel_rfl)).set (g := 2) t3 (by kernel_rfl)).set (g := 1) t4 (by kernel_rfl)).setMap (g := 0) (i := 0) rfl)
end Go.Proofs.YtjhaikcokbmdbaaGreatDoor.Cx
