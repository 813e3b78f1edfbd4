/-
  The walk of the law CrcProducts: it returns true for any two polynomials and any number.
-/
import Derived.Test.YthdmapjdfghgfaaDoorCrcK
import Derived.Test.YthdmapjdfghgfaaDoorCrcField
namespace Go.Proofs.YthdmapjdfghgfaaDoor
open Go.RowKit
attribute [local go_sem] U_xor U_and U_not U_not' U_byte U_toNat U_nonneg

set_option maxRecDepth 100000 in
theorem products_walk (a b : BitVec 32) (n : Int) (hn : n ≤ 9223372036854775807) (w : World) (hT : Tab w) :
    Calls Tryd.prog 5 #[.int .u32 (U a), .int .u32 (U b), .int .i64 n] w fun e w' => e = .returned (.bool true) ∧ Below w.heap.size w w' := by
  have HT := Lib.hid hT
  clear hT
  by_cases hneg : n < 0
  · go_enter Tryd.func5, Tryd.ntmps5
    go_wp2_with fail
    refine (power_neg n hneg _).mono ?_
    rintro e w' ⟨rfl, rfl⟩
    go_wp2_with fail
    refine (refpower_neg n hneg _).mono ?_
    rintro e w' ⟨rfl, rfl⟩
    go_wp2_with fail
    refine (join_neg a b n hneg _).mono ?_
    rintro e w' ⟨rfl, rfl⟩
    go_wp2_with fail
    refine (refjoin_neg a b n hneg _).mono ?_
    rintro e w' ⟨rfl, rfl⟩
    go_wp2_with fail
    refine (times_any a b _).mono ?_
    rintro e w' ⟨rfl, rfl⟩
    go_wp2_with fail
    refine (reftimes_any a b _).mono ?_
    rintro e w1 ⟨rfl, hb1⟩
    have HB := Lib.hid hb1
    have HT1 := Lib.hid (HT.out.below hb1)
    have hbs := hb1.size
    clear hb1 HT
    go_wp2_with fail
    refine (knows_any _ HT1.out).mono ?_
    rintro e w4 ⟨rfl, hb4⟩
    go_wp2_with fail
    go_ret
    exact ⟨rfl, HB.out.trans (hb4.mono hbs)⟩
  · obtain ⟨m, rfl⟩ : ∃ m : Nat, n = (m : Int) := ⟨n.toNat, by omega⟩
    have hm : m ≤ 9223372036854775807 := by omega
    clear hneg
    go_enter Tryd.func5, Tryd.ntmps5
    go_wp2_with fail
    refine (power_any m hm _).mono ?_
    rintro e w1 ⟨rfl, hb1⟩
    go_wp2_with fail
    refine (refpower_any m hm _).mono ?_
    rintro e w2 ⟨rfl, hb2⟩
    have h2 := hb1.trans (hb2.mono hb1.size)
    clear hb1 hb2
    go_wp2_with fail
    refine (join_any a b m hm _).mono ?_
    rintro e w3 ⟨rfl, hb3⟩
    have h3 := h2.trans (hb3.mono h2.size)
    clear h2 hb3
    go_wp2_with fail
    refine (refjoin_any a b m hm _).mono ?_
    rintro e w4 ⟨rfl, hb4⟩
    have h4 := h3.trans (hb4.mono h3.size)
    clear h3 hb4
    go_wp2_with fail
    refine (times_any a b _).mono ?_
    rintro e w' ⟨rfl, rfl⟩
    go_wp2_with fail
    refine (reftimes_any a b _).mono ?_
    rintro e w5 ⟨rfl, hb5⟩
    have h5 := h4.trans (hb5.mono h4.size)
    clear h4 hb5
    have HT1 := Lib.hid (HT.out.below h5)
    have HB := Lib.hid h5
    have hbs := h5.size
    clear h5 HT
    go_wp2_with fail
    refine (knows_any _ HT1.out).mono ?_
    rintro e w6 ⟨rfl, hb6⟩
    go_wp2_with fail
    go_ret
    exact ⟨rfl, HB.out.trans (hb6.mono hbs)⟩

theorem products_raw (W : World) (x : Int) (h0 : 0 ≤ x) (h1 : x ≤ 4294967295) (y : Int) (k0 : 0 ≤ y) (k1 : y ≤ 4294967295) (n : Int) (_ : -9223372036854775808 ≤ n) (n1 : n ≤ 9223372036854775807) (hT : Tab W) :
    Calls Tryd.prog 5 #[.int .u32 x, .int .u32 y, .int .i64 n] W fun e w' => e = .returned (.bool true) ∧ Below W.heap.size W w' := by
  have walk := products_walk (BitVec.ofNat 32 x.toNat) (BitVec.ofNat 32 y.toNat) n n1 W hT
  rw [← U_of x h0 (by omega), ← U_of y k0 (by omega)] at walk
  exact walk
end Go.Proofs.YthdmapjdfghgfaaDoor
