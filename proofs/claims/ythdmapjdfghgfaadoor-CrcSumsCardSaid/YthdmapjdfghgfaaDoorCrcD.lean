/-
  Walks: knows (the chapter's rows).
-/
import Derived.Test.YthdmapjdfghgfaaDoorCrcC
import Derived.WalkKit
import Derived.WalkLawsBesides
import Derived.WalkSpells
import Derived.Outline
import Derived.Deep.LoopGhost
import Derived.Lib.Hide
import Derived.Lib.SlBytesConst
namespace Go.Proofs.YthdmapjdfghgfaaDoor
open Go.RowKit
attribute [local go_sem] U_xor U_and U_and_1 U_and_15 U_and_M U_not U_not' U_xor_shr U_shr_1 U_shr_4 U_shr_31 U_shl_1 U_neg U_byte U_toNat U_nonneg

theorem sum_nine : Cm.sum [49, 50, 51, 52, 53, 54, 55, 56, 57] = 0xe3069283#32 := by decide +kernel
theorem sum_zeros : Cm.sum (List.replicate 32 0) = 0x8a9136aa#32 := by decide +kernel
theorem sum_nil : Cm.sum [] = 0#32 := by decide +kernel

theorem Below.size_lt {B n : Nat} {w w' : World} (h : Below B w w') (hn : n < w.heap.size) : n < w'.heap.size := Nat.lt_of_lt_of_le hn h.size

theorem knows_any (w : World) (hT : Tab w) : Calls Tryd.prog 11 #[] w fun e w' => e = .returned (.bool true) ∧ Below w.heap.size w w' := by
  have hmk : ∀ w, (Instr.makeSlice 22 (.int .i64 32) (.int .i64 32)).run Tryd.prog w = .ok (.slice (some ⟨w.heap.size, 0, none⟩) 32 32) (w.alloc (.cells (Array.replicate 32 (.int .u8 0)) 5)) := fun _ => by kernel_rfl
  have kc := fun (w : World) (C : Array Value) (n c : Nat) => Lib.run_convert_bytes_const (P := Tryd.prog) w 22 5 C n c Tryd.underlying22 Tryd.underlying5
  have HT := Lib.hid hT
  clear hT
  go_enter Tryd.func11, Tryd.ntmps11
  go_wp2_with fail
  refine (power_any 0 (by omega) _).mono ?_
  rintro e w1 ⟨rfl, hb1⟩
  rw [show U (Cm.pw 0) = 2147483648 from rfl]
  go_wp2_with fail
  refine (power_any 1 (by omega) _).mono ?_
  rintro e w2 ⟨rfl, hb2⟩
  rw [show U (Cm.pw 1) = 8388608 from by rw [Cm.pw_one]; rfl]
  have HT2 := Lib.hid ((HT.out.below hb1).below hb2)
  have HB2 := Lib.hid (hb1.trans (hb2.mono hb1.size))
  clear hb1 hb2 HT
  go_wp2_with fail
  refine (sum_any _ [49, 50, 51, 52, 53, 54, 55, 56, 57] _ (w2.heap.size + 1) _ (by decide) (HT2.out.alloc _) ?_).mono ?_
  · exact Bs.new _ _ _ _ _ _ _ rfl (by omega) rfl
  rintro e w3 ⟨rfl, rfl⟩
  rw [show U (Cm.sum [49, 50, 51, 52, 53, 54, 55, 56, 57]) = 3808858755 from by rw [sum_nine]; rfl]
  go_wp2_with fail
  refine (sum_any none [] _ 0 _ (by decide) (HT2.out.alloc _) Rd.nil).mono ?_
  rintro e w3 ⟨rfl, rfl⟩
  rw [show U (Cm.sum []) = 0 from by rw [sum_nil]; rfl]
  go_wp2_with fail
  refine (sum_any _ (List.replicate 32 0) _ (w2.heap.size + 2) _ (by decide) ((HT2.out.alloc _).alloc _) ?_).mono ?_
  · exact Bs.new _ _ _ _ _ _ _ (by simp) (by omega) rfl
  rintro e w3 ⟨rfl, rfl⟩
  rw [show U (Cm.sum (List.replicate 32 0)) = 2324772522 from by rw [sum_zeros]; rfl]
  go_wp2_with fail
  go_ret
  exact ⟨rfl, (HB2.out.alloc (by have := HB2.out.size; omega) _).alloc (by have := HB2.out.size; simp; omega) _⟩
end Go.Proofs.YthdmapjdfghgfaaDoor
