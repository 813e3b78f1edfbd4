/-
  Closed runs: this program.
-/
import Derived.Test.YteeifedpabcehaaWe
import Derived.Test.YteeifedpabcehaaChecked
namespace Go.Proofs.Yteeifedpabcehaa.Cx
open Go.RowKit Go.Proofs.Yteeifedpabcehaa.Bm
noncomputable def C0 : Cf := ⟨Try.prog, Tr.lf.set 52 (some 0), .lf⟩
theorem ext0 : IsExt Try.prog 52 Extern.MapsClone.clone := ⟨Try.f52, by kernel_rfl, by kernel_rfl, by kernel_rfl, by kernel_rfl, by kernel_rfl⟩
theorem xok0 (W : World) : XOk C0 W := XOk.of fun f x h => by
  have h : (Tr.lf.set 52 (some 0)).get f = some x := h
  rw [Tr.get_set] at h
  split at h
  · rename_i e
    subst e
    injection h with h
    exact .inl ⟨h.symm, ext0⟩
  · rw [Tr.get_lf] at h; cases h
end Go.Proofs.Yteeifedpabcehaa.Cx
