/-
  The walk of the law CrcField: it returns true for any three polynomials and any two numbers.
-/
import Derived.Test.YthdmapjdfghgfaaDoorCrcD
namespace Go.Proofs.YthdmapjdfghgfaaDoor
open Go.RowKit
attribute [local go_sem] U_xor U_and U_and_1 U_and_15 U_and_M U_not U_not' U_xor_shr U_shr_1 U_shr_4 U_shr_31 U_shl_1 U_neg U_byte U_toNat U_nonneg

theorem power_U (x : BitVec 32) (w : World) : Calls Tryd.prog 12 #[.int .i64 (U x)] w fun e w' => e = .returned (.tuple #[.int .u32 (U (Cm.pw x.toNat)), .int .i64 0]) ∧ Below w.heap.size w w' :=
  power_any x.toNat (by have := x.isLt; omega) w
theorem power_U2 (x y : BitVec 32) (w : World) : Calls Tryd.prog 12 #[.int .i64 (U x + U y)] w fun e w' => e = .returned (.tuple #[.int .u32 (U (Cm.pw (x.toNat + y.toNat))), .int .i64 0]) ∧ Below w.heap.size w w' := by
  have e : U x + U y = ((x.toNat + y.toNat : Nat) : Int) := by unfold U; omega
  rw [e]
  exact power_any _ (by have := x.isLt; have := y.isLt; omega) w

theorem field_walk (a b c m n : BitVec 32) (w : World) (hT : Tab w) :
    Calls Tryd.prog 4 #[.int .u32 (U a), .int .u32 (U b), .int .u32 (U c), .int .u32 (U m), .int .u32 (U n)] w fun e w' => e = .returned (.bool true) ∧ Below w.heap.size w w' := by
  have hm := U_lt m
  have hn := U_lt n
  have hm0 := U_nonneg m
  have hn0 := U_nonneg n
  have HT := Lib.hid hT
  clear hT
  go_enter Tryd.func4, Tryd.ntmps4
  go_wp2_with fail
  refine (power_U m _).mono ?_
  rintro e w1 ⟨rfl, hb1⟩
  go_wp2_with fail
  refine (power_U n _).mono ?_
  rintro e w2 ⟨rfl, hb2⟩
  go_wp2_with fail
  refine (power_U2 m n _).mono ?_
  rintro e w3 ⟨rfl, hb3⟩
  have hz := Cm.pw_ne m.toNat
  have hz1 : (U (Cm.pw m.toNat) == 0) = false := by rw [U_eq_zero]; simpa using hz
  clear hz
  have HB := Lib.hid (hb1.trans ((hb2.trans (hb3.mono hb2.size)).mono hb1.size))
  have HT3 := Lib.hid (HT.out.below HB.out)
  clear hb1 hb2 hb3 HT
  go_wp2_with fail
  refine (times_any _ _ _).mono ?_
  rintro e w' ⟨rfl, rfl⟩
  rw [Cm.times_pw]
  go_wp2_with fail
  refine (times_any a b _).mono ?_
  rintro e w' ⟨rfl, rfl⟩
  go_wp2_with fail
  refine (times_any b a _).mono ?_
  rintro e w' ⟨rfl, rfl⟩
  rw [Cm.times_comm b a]
  go_wp2_with fail
  refine (times_any (Cm.times a b) c _).mono ?_
  rintro e w' ⟨rfl, rfl⟩
  rw [Cm.times_assoc]
  go_wp2_with fail
  refine (times_any b c _).mono ?_
  rintro e w' ⟨rfl, rfl⟩
  go_wp2_with fail
  refine (times_any a (Cm.times b c) _).mono ?_
  rintro e w' ⟨rfl, rfl⟩
  go_wp2_with fail
  refine (times_any a (b ^^^ c) _).mono ?_
  rintro e w' ⟨rfl, rfl⟩
  rw [Cm.times_xor]
  go_wp2_with fail
  refine (times_any a c _).mono ?_
  rintro e w' ⟨rfl, rfl⟩
  go_wp2_with fail
  refine (times_any a Cm.one _).mono ?_
  rintro e w' ⟨rfl, rfl⟩
  rw [Cm.times_one]
  go_wp2_with fail
  refine (times_any a 0#32 _).mono ?_
  rintro e w' ⟨rfl, rfl⟩
  rw [Cm.times_zero, show U 0#32 = 0 from rfl]
  go_wp2_with fail
  refine (knows_any _ HT3.out).mono ?_
  rintro e w4 ⟨rfl, hb4⟩
  go_wp2_with fail
  go_ret
  exact ⟨rfl, HB.out.trans (hb4.mono HB.out.size)⟩
end Go.Proofs.YthdmapjdfghgfaaDoor
