/-
  Walks of package crc: step, Times, product, Power.
-/
import Derived.Test.YthdmapjdfghgfaaDoorChecked
import Derived.Test.YthdmapjdfghgfaaDoorCrcU
import Derived.WalkKit
import Derived.WalkLawsBesides
import Derived.WalkSpells
import Derived.Outline
import Derived.Deep.LoopGhost
import Derived.Lib.Hide
namespace Go.Proofs.YthdmapjdfghgfaaDoor
open Go.RowKit
attribute [local go_sem] U_xor U_and U_and_1 U_and_15 U_and_M U_not U_shr_1 U_shr_4 U_shr_31 U_shl_1 U_neg U_byte U_toNat U_nonneg

theorem step_any (a : BitVec 32) (w : World) : Calls Tryd.prog 25 #[.int .u32 (U a)] w fun e w' => e = .returned (.int .u32 (U (Cm.step a))) ∧ w = w' := by
  go_enter Tryd.func25, Tryd.ntmps25
  go_wp2
  go_ret
  exact ⟨by rw [mask_step]; rfl, rfl⟩

theorem times_any (a b : BitVec 32) (w : World) : Calls Tryd.prog 13 #[.int .u32 (U a), .int .u32 (U b)] w fun e w' => e = .returned (.int .u32 (U (Cm.times a b))) ∧ w = w' := by
  go_enter Tryd.func13, Tryd.ntmps13
  go_wp2
  go_loopg [0, 1, 5] 32 (fun n x y p (wr : World) => w = wr ∧ ∃ k : Nat, k + n = 32 ∧ x = .int .u32 (U (a <<< k)) ∧ y = .int .u32 (U (Cm.steps k b)) ∧ p = .int .u32 (U (Cm.S k a b)))
  case atStart => exact ⟨rfl, 0, rfl, by simp, rfl, rfl⟩
  case round =>
    obtain ⟨rfl, k, hk, rfl, rfl, rfl⟩ := hrel
    by_cases hz : a <<< k = 0#32
    · have hb : (U (a <<< k) == 0) = true := by rw [hz]; rfl
      have hb' : (U (a <<< k) != 0) = false := by rw [hz]; rfl
      have hs := Lib.hid (Cm.S_done a b k (by omega) hz)
      clear hz
      go_wp2
      go_ret
      exact ⟨by rw [← hs.out]; rfl, rfl⟩
    · have hk32 : k < 32 := by
        rcases Nat.lt_or_ge k 32 with h | h
        · exact h
        · exact absurd (BitVec.shiftLeft_eq_zero h) hz
      have hb : (U (a <<< k) == 0) = false := by rw [U_eq_zero]; simpa using hz
      have hb' : (U (a <<< k) != 0) = true := by simp [bne, hb]
      clear hz
      go_wp2_with (go_at_call 25; refine (step_any _ _).mono ?_; rintro e w' ⟨rfl, rfl⟩)
      go_roundg (gk - 1)
      case measure => omega
      case rel =>
        refine ⟨rfl, k + 1, by omega, ?_, ?_, ?_⟩
        · simp only [U_shl_1, BitVec.shiftLeft_add]
        · rw [Cm.steps_succ]
        · simp only [mask_neg, Cm.S, BitVec.getMsbD_shiftLeft, Nat.zero_add]
end Go.Proofs.YthdmapjdfghgfaaDoor
