/-
  Closed runs: this program.
-/
import Derived.Test.YtoofmkkcaoojiaaWe
import Derived.Test.YtoofmkkcaoojiaaChecked
namespace Go.Proofs.Ytoofmkkcaoojiaa.Cx
open Go.RowKit Go.Proofs.Ytoofmkkcaoojiaa.Bm
noncomputable def C0 : Cf := ⟨Try.prog, Tr.lf.set 51 (some 1), .lf⟩
theorem ext0 : IsExt Try.prog 51 Extern.BytealgCompare.compare := ⟨Try.f51, by kernel_rfl, by kernel_rfl, by kernel_rfl, by kernel_rfl, by kernel_rfl⟩
theorem xok0 (W : World) : XOk C0 W := XOk.of fun f x h => by
  have h : (Tr.lf.set 51 (some 1)).get f = some x := h
  rw [Tr.get_set] at h
  split at h
  · rename_i e
    subst e
    injection h with h
    exact .inr ⟨h.symm, ext0⟩
  · rw [Tr.get_lf] at h; cases h
end Go.Proofs.Ytoofmkkcaoojiaa.Cx
