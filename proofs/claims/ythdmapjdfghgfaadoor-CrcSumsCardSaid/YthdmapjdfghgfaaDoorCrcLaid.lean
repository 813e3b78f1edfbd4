/-
  What the listed table gives; a world for the witness.
-/
import Derived.Test.YthdmapjdfghgfaaDoorCrcU
import Derived.Test.YthdmapjdfghgfaaDoorLawKit
import Derived.Test.YthdmapjdfghgfaaDoorCards
import Derived.Test.YthdmapjdfghgfaaDoorTie
namespace Go.Proofs.YthdmapjdfghgfaaDoor
open Go.ChangeShapes Go.WideShapes Go.ChangeAt Go.RowKit

def halfInts : List Int := [0, 274646895, 549293790, 820201905, 1098587580, 1361435347, 1640403810, 1905808397, 2197175160, 2460548119, 2722870694, 2987750089, 3280807620, 3553878443, 3811616794, 4084100981]
theorem own : ownKnob Tryd.prog.godebug = none := by kernel_rfl
theorem laidOut : laidOutB Tryd.prog = true := by kernel_rfl
theorem gHalf : Tryd.prog.globalNamed "hourbook/crc.half" = some 0 := by kernel_rfl
theorem gHalfType : (Tryd.prog.globals[0]?).map (·.type) = some 52 := by kernel_rfl
theorem cellsHalf : Tryd.prog.cellsOf 52 = 16 := by kernel_rfl
theorem cellsU32 : Tryd.prog.cellsOf 23 = 1 := by kernel_rfl
theorem cellsU8 : Tryd.prog.cellsOf 5 = 1 := by kernel_rfl
theorem half_ints (i : Nat) (hi : i < 16) : halfInts.getD i 0 = U (Cm.half.getD i 0#32) := by
  have h : ∀ j : Fin 16, halfInts.getD j.1 0 = ((Cm.half.getD j.1 0#32).toNat : Int) := by decide
  exact h ⟨i, hi⟩
theorem tab_of_laid {W : World} (h : laidMetH Tryd.prog [("hourbook/crc.half", Rows.laid_hourbook_crc_half)] W) : Tab W := by
  have hT : Lib.TabIs Tryd.prog W "hourbook/crc.half" .u32 halfInts :=
    Lib.tabIs_of_head (rest := []) gHalf gHalfType Tryd.underlying52 Tryd.underlying23 cellsU32 cellsHalf h
  have hc : ∀ i, i < 16 → W.cell? ⟨0, i, none⟩ = some (.int .u32 (U (Cm.half.getD i 0#32))) := fun i hi => by
    rw [← half_ints i hi]
    exact hT.cell gHalf i hi
  exact ⟨Lk.block_lt (hc 0 (by omega)), hc⟩

/-- A world for the witness: the settled one, the table holding what its initialiser lays. -/
noncomputable def laidWorld (os : Os) : World :=
  { World.holding Tryd.prog os ⟨#[], #[], []⟩ with heap := (World.holding Tryd.prog os ⟨#[], #[], []⟩).heap.modify 0 fun
      | .cells _ t frozen => .cells (halfInts.map (Value.int .u32)).toArray t frozen
      | o => o }
end Go.Proofs.YthdmapjdfghgfaaDoor
