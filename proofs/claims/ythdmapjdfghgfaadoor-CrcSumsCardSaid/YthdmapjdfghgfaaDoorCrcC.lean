/-
  Walks of package crc: More, Sum, Join, laid.
-/
import Derived.Test.YthdmapjdfghgfaaDoorCrcB
import Derived.WalkKit
import Derived.WalkLawsBesides
import Derived.WalkSpells
import Derived.Outline
import Derived.Deep.LoopGhost
import Derived.Lib.Hide
namespace Go.Proofs.YthdmapjdfghgfaaDoor
open Go.RowKit
attribute [local go_sem] U_xor U_and U_and_1 U_and_15 U_and_M U_not U_not' U_xor_shr U_shr_1 U_shr_4 U_shr_31 U_shl_1 U_neg U_byte U_toNat U_nonneg

theorem F_take (s : BitVec 32) (l : List UInt8) (k : Nat) (h : k < l.length) : Cm.F s (l.take (k + 1)) = Cm.upd (Cm.F s (l.take k)) (l.getD k 0) := by
  rw [List.take_succ_eq_append_getElem h, Cm.F_snoc]
  simp [List.getD, h]

/-- The table's word at the four lowest bits. -/
def T4 (t : BitVec 32) : BitVec 32 := Cm.half.getD (t &&& 15#32).toNat 0#32
theorem T4_cell {w : World} (h : Tab w) (t : BitVec 32) : w.cell? ⟨0, N32 (t &&& 15#32), none⟩ = some (.int .u32 (U (T4 t))) := h.2 _ (Cm.half_lt t)
theorem and15_lt (t : BitVec 32) : U (t &&& 15#32) < 16 := by have := Cm.half_lt t; unfold U; omega
theorem upd_T4 (z : BitVec 32) (c : UInt8) : ((((z ^^^ c.toBitVec.setWidth 32) >>> 4) ^^^ T4 (z ^^^ c.toBitVec.setWidth 32)) >>> 4) ^^^ T4 (((z ^^^ c.toBitVec.setWidth 32) >>> 4) ^^^ T4 (z ^^^ c.toBitVec.setWidth 32)) = Cm.upd z c :=
  Cm.upd_half z c _ _ rfl rfl

theorem more_any (s : BitVec 32) (A : Option Addr) (l : List UInt8) (cap B : Nat) (w : World) (hlen : l.length ≤ 140737488351232) (hT : Tab w) (hl : Bs w B A l) :
    Calls Tryd.prog 18 #[.int .u32 (U s), .slice A l.length cap] w fun e w' => e = .returned (.int .u32 (U (Cm.more s l))) ∧ w = w' := by
  have HT := Lib.hid hT
  have HL := Lib.hid hl
  clear hT hl
  go_enter Tryd.func18, Tryd.ntmps18
  go_wp2
  go_loop [0, 11] (fun p i => ∃ k : Nat, k ≤ l.length ∧ i = .int .i64 k ∧ p = .int .u32 (U (Cm.F (~~~ s) (l.take k)))) (fun _ i => l.length - (intOf i).toNat)
  case atStart => exact ⟨0, Nat.zero_le _, rfl, rfl⟩
  case round =>
    obtain ⟨k, hk, rfl, rfl⟩ := hrel
    by_cases hlt : k < l.length
    · obtain ⟨ad, rfl, _, hc⟩ := HL.out k hlt
      unfold byteAt at hc
      have hf := Lib.hid (F_take (~~~ s) l k hlt)
      generalize Cm.F (~~~ s) (l.take k) = z at *
      generalize l.getD k 0 = c at *
      have hup := Lib.hid (upd_T4 z c)
      have h1 := T4_cell HT.out (z ^^^ c.toBitVec.setWidth 32)
      have h2 := T4_cell HT.out (((z ^^^ c.toBitVec.setWidth 32) >>> 4) ^^^ T4 (z ^^^ c.toBitVec.setWidth 32))
      have b1 := and15_lt (z ^^^ c.toBitVec.setWidth 32)
      have b2 := and15_lt (((z ^^^ c.toBitVec.setWidth 32) >>> 4) ^^^ T4 (z ^^^ c.toBitVec.setWidth 32))
      go_wp2
      go_round
      case rel => exact ⟨k + 1, by omega, by go_num, by rw [hf.out, ← hup.out]⟩
      case measure => simp [intOf]; omega
    · go_wp2
      go_ret
      have hk' : k = l.length := by omega
      subst hk'
      exact ⟨by rw [List.take_length]; rfl, rfl⟩

theorem sum_any (A : Option Addr) (l : List UInt8) (cap B : Nat) (w : World) (hlen : l.length ≤ 140737488351232) (hT : Tab w) (hl : Bs w B A l) :
    Calls Tryd.prog 10 #[.slice A l.length cap] w fun e w' => e = .returned (.int .u32 (U (Cm.sum l))) ∧ w = w' := by
  have HT := Lib.hid hT
  have HL := Lib.hid hl
  clear hT hl
  go_enter Tryd.func10, Tryd.ntmps10
  go_wp2_with fail
  refine (more_any 0#32 A l cap B _ hlen HT.out HL.out).mono ?_
  rintro e w' ⟨rfl, rfl⟩
  go_wp2
  go_ret
  exact ⟨rfl, rfl⟩

theorem join_neg (a b : BitVec 32) (n : Int) (hn : n < 0) (w : World) : Calls Tryd.prog 15 #[.int .u32 (U a), .int .u32 (U b), .int .i64 n] w fun e w' => e = .returned (.tuple #[.int .u32 0, .int .i64 1]) ∧ w = w' := by
  go_enter Tryd.func15, Tryd.ntmps15
  go_wp2_with fail
  refine (power_neg n hn _).mono ?_
  rintro e w' ⟨rfl, rfl⟩
  go_wp2
  go_ret2
  exact ⟨rfl, rfl⟩

theorem join_any (a b : BitVec 32) (n : Nat) (hn : n ≤ 9223372036854775807) (w : World) :
    Calls Tryd.prog 15 #[.int .u32 (U a), .int .u32 (U b), .int .i64 n] w fun e w' => e = .returned (.tuple #[.int .u32 (U (Cm.times (Cm.pw n) a ^^^ b)), .int .i64 0]) ∧ Below w.heap.size w w' := by
  go_enter Tryd.func15, Tryd.ntmps15
  go_wp2_with fail
  refine (power_any n hn _).mono ?_
  rintro e w1 ⟨rfl, hb⟩
  go_wp2_with fail
  refine (times_any _ _ _).mono ?_
  rintro e w2 ⟨rfl, rfl⟩
  go_wp2
  go_ret2
  exact ⟨rfl, hb⟩

/-- A word's four bytes. -/
def by4 (s : BitVec 32) (k : Nat) : UInt8 := ⟨(s >>> (8 * k)).setWidth 8⟩
def le4 (s : BitVec 32) : List UInt8 := [by4 s 0, by4 s 1, by4 s 2, by4 s 3]
theorem B8_by4 (s : BitVec 32) (k : Nat) : B8 (by4 s k) = U s / (2 : Int) ^ (8 * k) % (256 : Int) := by
  unfold B8 by4 U
  show ((((s >>> (8 * k)).setWidth 8).toNat : Nat) : Int) = _
  rw [BitVec.toNat_setWidth, BitVec.toNat_ushiftRight, Nat.shiftRight_eq_div_pow]
  simp
theorem laid_any (s : BitVec 32) (w : World) : Calls Tryd.prog 29 #[.int .u32 (U s)] w fun e w' =>
    e = .returned (.agg #[.int .u8 (B8 (by4 s 0)), .int .u8 (B8 (by4 s 1)), .int .u8 (B8 (by4 s 2)), .int .u8 (B8 (by4 s 3))]) ∧ Below w.heap.size w w' := by
  have h0 : U s % (256 : Int) = B8 (by4 s 0) := by rw [B8_by4]; simp
  have h1 : U s / (256 : Int) % (256 : Int) = B8 (by4 s 1) := by rw [B8_by4]; rfl
  have h2 : U s / (65536 : Int) % (256 : Int) = B8 (by4 s 2) := by rw [B8_by4]; rfl
  have h3 : U s / (16777216 : Int) % (256 : Int) = B8 (by4 s 3) := by rw [B8_by4]; rfl
  rw [← h0, ← h1, ← h2, ← h3]
  clear h0 h1 h2 h3
  go_enter Tryd.func29, Tryd.ntmps29
  go_wp2
  exact bodyPost_ret (v := .agg #[.int .u8 (U s % (256 : Int)), .int .u8 (U s / (256 : Int) % (256 : Int)), .int .u8 (U s / (65536 : Int) % (256 : Int)), .int .u8 (U s / (16777216 : Int) % (256 : Int))])
    (by simp [results, Tryd.results29, go_sem]) rfl ⟨rfl, (Below.refl _ _).alloc (Nat.le_refl _) _⟩
end Go.Proofs.YthdmapjdfghgfaaDoor
