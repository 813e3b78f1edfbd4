/-
  Chapter 23: MstatePlays, the walk and what is handed in.
-/
import Derived.Test.YtmlhaellfpbcgaaDoorMr
import Derived.Test.YtmlhaellfpbcgaaDoorLaws23
namespace Go.Proofs.YtmlhaellfpbcgaaDoor.Ax
open Go.ChangeShapes Go.WideShapes Go.RowKit
theorem sh_u8 {ι : Imm} {x : IV} {v : Value} (h : (AT.int .u8).Sh x) (hr : IV.R ι x v) : ∃ n : Nat, n ≤ 255 ∧ IV.R ι (.v (.int .u8 (n : Int))) v := by
  simp only [AT.Sh] at h
  obtain ⟨z, rfl, hz⟩ := h
  have hb := bounds_u8 hz
  refine ⟨z.toNat, by omega, ?_⟩
  rw [Int.toNat_of_nonneg (by omega)]
  exact hr
end Go.Proofs.YtmlhaellfpbcgaaDoor.Ax
