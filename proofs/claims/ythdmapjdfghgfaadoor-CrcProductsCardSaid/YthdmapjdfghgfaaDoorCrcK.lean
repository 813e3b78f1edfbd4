/-
  Walks of the document's powers and joined sums.
-/
import Derived.Test.YthdmapjdfghgfaaDoorCrcJ
namespace Go.Proofs.YthdmapjdfghgfaaDoor
open Go.RowKit
attribute [local go_sem] U_xor U_and U_not U_not' U_byte U_toNat U_nonneg

theorem refpower_neg (n : Int) (hn : n < 0) (w : World) : Calls Tryd.prog 14 #[.int .i64 n] w fun e w' => e = .returned (.tuple #[.int .u32 0, .int .i64 1]) ∧ w = w' := by
  go_enter Tryd.func14, Tryd.ntmps14
  go_wp2
  go_ret2
  exact ⟨rfl, rfl⟩

theorem refpower_any (n : Nat) : n ≤ 9223372036854775807 → ∀ (w : World), Calls Tryd.prog 14 #[.int .i64 n] w fun e w' => e = .returned (.tuple #[.int .u32 (U (Cm.pw n)), .int .i64 0]) ∧ Below w.heap.size w w' := by
  induction n using Nat.strongRecOn with
  | ind n ih =>
    intro hn w
    by_cases h0 : n = 0
    · subst h0
      clear ih
      go_enter Tryd.func14, Tryd.ntmps14
      go_wp2
      go_ret2
      exact ⟨rfl, Below.refl _ _⟩
    · obtain ⟨q, hq0⟩ : ∃ q, q = n / 2 := ⟨_, rfl⟩
      have hih := Lib.hid (ih q (by omega) (by omega))
      clear ih
      have hn0 : (n : Int) ≠ 0 := by omega
      have hq : (n : Int) / 2 = (q : Int) := by omega
      have HQ := Lib.hid hq0
      clear hq0
      have hpw : Hid (Cm.times (Cm.pw q) (Cm.pw q) = Cm.pw (q + q)) := Cm.times_pw _ _
      go_enter Tryd.func14, Tryd.ntmps14
      go_wp2_with fail
      refine (hih.out _).mono ?_
      rintro e w1 ⟨rfl, hb1⟩
      go_wp2_with fail
      refine (reftimes_any _ _ _).mono ?_
      rintro e w2 ⟨rfl, hb2⟩
      rw [hpw.out]
      have HB := Lib.hid (hb1.trans (hb2.mono hb1.size))
      have hbs := HB.out.size
      clear hb1 hb2
      by_cases hodd : n % 2 = 1
      · have he : Hid (Cm.times (Cm.pw (q + q)) 0x00800000#32 = Cm.pw n) := by
          show _ = _
          rw [← Cm.pw_one, Cm.times_pw]
          congr 1
          have := HQ.out
          omega
        have hm : (n : Int) % 2 = 1 := by omega
        go_wp2_with fail
        refine (reftimes_any (Cm.pw (q + q)) 0x00800000#32 _).mono ?_
        rintro e w3 ⟨rfl, hb3⟩
        rw [he.out]
        go_wp2
        go_ret2
        exact ⟨rfl, HB.out.trans (hb3.mono hbs)⟩
      · have he : q + q = n := by have := HQ.out; omega
        have hm : (n : Int) % 2 = 0 := by omega
        rw [he]
        go_wp2
        go_ret2
        exact ⟨rfl, HB.out⟩

theorem refjoin_neg (a b : BitVec 32) (n : Int) (hn : n < 0) (w : World) : Calls Tryd.prog 16 #[.int .u32 (U a), .int .u32 (U b), .int .i64 n] w fun e w' => e = .returned (.tuple #[.int .u32 0, .int .i64 1]) ∧ w = w' := by
  go_enter Tryd.func16, Tryd.ntmps16
  go_wp2_with fail
  refine (refpower_neg n hn _).mono ?_
  rintro e w' ⟨rfl, rfl⟩
  go_wp2
  go_ret2
  exact ⟨rfl, rfl⟩

/-- The first k coefficients xored. -/
def xored (k : Nat) (a b : BitVec 32) : List Bool := (List.range 32).map fun j => if j < k then (a ^^^ b).getLsbD j else a.getLsbD j
theorem xored_length (k : Nat) (a b : BitVec 32) : (xored k a b).length = 32 := by simp [xored]
theorem xored_zero (a b : BitVec 32) : xored 0 a b = Cm.bitsOf a := by simp [xored, Cm.bitsOf]
theorem xored_all (a b : BitVec 32) : xored 32 a b = Cm.bitsOf (a ^^^ b) := by
  apply List.ext_getElem?
  intro i
  by_cases hi : i < 32
  · simp [xored, Cm.bitsOf, hi]
  · rw [List.getElem?_eq_none (by rw [xored_length]; omega), List.getElem?_eq_none (by rw [Cm.bitsOf_length]; omega)]
theorem xored_get (k : Nat) (hk : k < 32) (a b : BitVec 32) : (xored k a b)[k]? = some (a.getLsbD k) := by
  simp [xored, List.getElem?_range hk]
theorem xored_set (k : Nat) (hk : k < 32) (a b : BitVec 32) : (xored k a b).set k (a.getLsbD k ^^ b.getLsbD k) = xored (k + 1) a b := by
  apply List.ext_getElem?
  intro i
  by_cases hi : i < 32
  · rw [List.getElem?_set, xored_length]
    simp only [xored, List.getElem?_map, List.getElem?_range hi, Option.map_some]
    by_cases e : k = i
    · subst e; simp [hk]
    · rw [if_neg e]
      have : (i < k + 1) = (i < k) := by simp; omega
      simp only [this]
  · rw [List.getElem?_eq_none (by rw [List.length_set, xored_length]; omega), List.getElem?_eq_none (by rw [xored_length]; omega)]

set_option maxRecDepth 100000 in
theorem refjoin_any (a b : BitVec 32) (n : Nat) (hn : n ≤ 9223372036854775807) (w : World) :
    Calls Tryd.prog 16 #[.int .u32 (U a), .int .u32 (U b), .int .i64 n] w fun e w' => e = .returned (.tuple #[.int .u32 (U (Cm.times (Cm.pw n) a ^^^ b)), .int .i64 0]) ∧ Below w.heap.size w w' := by
  go_enter Tryd.func16, Tryd.ntmps16
  go_wp2_with fail
  refine (refpower_any n hn _).mono ?_
  rintro e w1 ⟨rfl, hb1⟩
  go_wp2_with fail
  refine (reftimes_any _ _ _).mono ?_
  rintro e w2 ⟨rfl, hb2⟩
  obtain ⟨t, ht⟩ : ∃ t, t = Cm.times (Cm.pw n) a := ⟨_, rfl⟩
  rw [← ht]
  have HT := Lib.hid ht
  clear ht
  have HB := Lib.hid (hb1.trans (hb2.mono hb1.size))
  have hbs := HB.out.size
  clear hb1 hb2
  go_wp2_with fail
  refine (row_any t _).mono ?_
  rintro e w3 ⟨v3, rfl, hx, hb3⟩
  obtain ⟨gx, cx, rfl, hgx1, hgx2, hcx1, hcx2⟩ := own_form hx (by omega)
  have HX := Lib.hid hx
  have hb3s := hb3.size
  have HB3 := Lib.hid (HB.out.trans (hb3.mono hbs))
  clear hx hb3 HB
  go_wp2_with fail
  refine (row_any b _).mono ?_
  rintro e w4 ⟨v4, rfl, hy, hb4⟩
  obtain ⟨gy, cy, rfl, hgy1, hgy2, hcy1, hcy2⟩ := own_form hy (by omega)
  have HY := Lib.hid (own_bitcells hy)
  have HX4 := Lib.hid (HX.out.kept (w' := w4) (row := none) ⟨hb4.os, hb4.tape, hb4.output, hb4.size, fun k hk _ => hb4.block k hk⟩ (.inr (by simp [Value.ownBlock])))
  have HB4 := Lib.hid (HB3.out.trans (hb4.mono (by omega)))
  clear hy hb4 HX HB3
  have hne : gx ≠ gy := by omega
  have hgx2' : gx < w4.heap.size := by omega
  have hgy0 : w.heap.size ≤ gx := by omega
  go_wp2_with fail
  go_loopw [12] (fun x wr => ∃ k : Nat, k ≤ 32 ∧ x = .int .i64 k ∧ wr.ownsRow w2.heap.size 4 1 (.slice (some ⟨gx, 0, none⟩) 32 cx) 32 ((xored k t b).map Value.bool) ∧ Bitcells wr gy b ∧ Below w.heap.size w wr) (fun x _ => 32 - (intOf x).toNat)
  case atStart => exact ⟨0, by omega, rfl, by rw [xored_zero]; exact HX4.out, HY.out, HB4.out⟩
  case round =>
    obtain ⟨k, hk, rfl, hown, hY, hb⟩ := hrel
    have HO := Lib.hid hown
    have HY := Lib.hid hY
    have HB := Lib.hid hb
    clear hown hY hb HX4 HB4
    by_cases hlt : k < 32
    · have c1 := HO.out.cellAt k (by omega)
      have f1 := HO.out.frozenAt k
      have c2 := HY.out.2 k hlt
      rw [List.getElem?_map, xored_get k hlt] at c1
      simp only [Option.map_some] at c1
      have HS : Hid ((xored k t b).set k (t.getLsbD k ^^ b.getLsbD k) = xored (k + 1) t b) := xored_set k hlt t b
      generalize t.getLsbD k = x at *
      generalize b.getLsbD k = y at *
      have hk3 : (k : Int) < 32 := by omega
      go_wp2_with fail
      go_region
      go_wp2_with fail
      go_roundw
      case rel =>
        have e : (!(x == y)) = (x ^^ y) := by cases x <;> cases y <;> rfl
        rw [e]
        refine ⟨k + 1, by omega, by go_num, ?_, ?_, ?_⟩
        · have h := (HO.out.stored k (.bool (x ^^ y))).1
          rw [← List.map_set, HS.out] at h
          exact h.drew
        · exact ⟨by simpa using HY.out.1, fun i hi => (World.cell?_setCell_other _ _ _ _ (by simp)).trans (HY.out.2 i hi)⟩
        · exact (HB.out.setCell (p := ⟨gx, k, none⟩) hgy0 _).drew
      case measure => simp [intOf]; omega
    · have hk32 : k = 32 := by omega
      subst hk32
      have h := HO.out
      rw [xored_all] at h
      obtain ⟨_, A, c, he, _, _, hOs⟩ := own_os h
      simp only [Value.slice.injEq, true_and] at he
      obtain ⟨rfl, rfl⟩ := he
      have HOs := Lib.hid hOs
      clear hOs h
      go_wp2_with fail
      refine (bits_any (t ^^^ b) _ _ _ _ HOs.out).mono ?_
      rintro e w4 ⟨rfl, rfl⟩
      go_wp2
      go_ret2
      refine ⟨?_, HB.out⟩
      have := HT.out
      subst this
      rfl
end Go.Proofs.YthdmapjdfghgfaaDoor
