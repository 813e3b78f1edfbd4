/-
  Closed runs: this program, closed functions that are proved ahead taken as a whole.
-/
import Derived.Test.YtacmeiclljbppaaGreatDoorWxRun
namespace Go.Proofs.YtacmeiclljbppaaGreatDoor.Cx
open Go.RowKit Go.Proofs.YtacmeiclljbppaaGreatDoor.Ax

noncomputable def XY : Tr Nat := (XX.set 17 (some 5))
noncomputable def C1 : Cf := ⟨Tryz.prog, XY, GG, 998⟩
theorem xok1 (W : World) (hG : GOk C0.G W) : XOk C1 W := XOk.of fun f x h => by
  have h : XY.get f = some x := h
  unfold XY at h
  rw [Tr.get_set] at h
  split at h
  · rename_i e
    subst e
    injection h with h
    exact .inr (.inr (.inr ⟨h.symm, ⟨Tryz.f17, by kernel_rfl, by kernel_rfl, by kernel_rfl⟩, fun w hb => w_calls w (hG.later hb)⟩))
  unfold XX at h
  rw [Tr.get_set] at h
  split at h
  · rename_i e
    subst e
    injection h with h
    exact .inr (.inr (.inl ⟨h.symm, x3 rfl hG half_at tab_half⟩))
  rw [Tr.get_set] at h
  split at h
  · rename_i e
    subst e
    injection h with h
    exact .inr (.inl ⟨h.symm, ext1⟩)
  rw [Tr.get_set] at h
  split at h
  · rename_i e
    subst e
    injection h with h
    exact .inl ⟨h.symm, ext0⟩
  rw [Tr.get_lf] at h
  cases h
end Go.Proofs.YtacmeiclljbppaaGreatDoor.Cx
