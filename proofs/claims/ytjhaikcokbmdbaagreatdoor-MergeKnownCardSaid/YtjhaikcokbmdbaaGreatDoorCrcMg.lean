/-
  Walk of package crc: More.
-/
import Derived.Test.YtjhaikcokbmdbaaGreatDoorCrcUg
import Derived.Test.YtjhaikcokbmdbaaGreatDoorChecked
import Derived.WalkKit
import Derived.WalkLawsBesides
import Derived.WalkSpells
import Derived.Outline
import Derived.Deep.LoopGhost
import Derived.Lib.Hide
namespace Go.Proofs.YtjhaikcokbmdbaaGreatDoor
open Go.RowKit
attribute [local go_sem] U_xor U_and U_and_1 U_and_15 U_and_M U_not U_not' U_xor_shr U_shr_1 U_shr_4 U_shr_31 U_shl_1 U_neg U_byte U_toNat U_nonneg

theorem F_take (s : BitVec 32) (l : List UInt8) (k : Nat) (h : k < l.length) : Cm.F s (l.take (k + 1)) = Cm.upd (Cm.F s (l.take k)) (l.getD k 0) := by
  rw [List.take_succ_eq_append_getElem h, Cm.F_snoc]
  simp [List.getD, h]

/-- The table's word at the four lowest bits. -/
def T4 (t : BitVec 32) : BitVec 32 := Cm.half.getD (t &&& 15#32).toNat 0#32
theorem T4_cell {w : World} (h : Tab w) (t : BitVec 32) : w.cell? ⟨6, N32 (t &&& 15#32), none⟩ = some (.int .u32 (U (T4 t))) := h.2 _ (Cm.half_lt t)
theorem and15_lt (t : BitVec 32) : U (t &&& 15#32) < 16 := by have := Cm.half_lt t; unfold U; omega
theorem upd_T4 (z : BitVec 32) (c : UInt8) : ((((z ^^^ c.toBitVec.setWidth 32) >>> 4) ^^^ T4 (z ^^^ c.toBitVec.setWidth 32)) >>> 4) ^^^ T4 (((z ^^^ c.toBitVec.setWidth 32) >>> 4) ^^^ T4 (z ^^^ c.toBitVec.setWidth 32)) = Cm.upd z c :=
  Cm.upd_half z c _ _ rfl rfl

theorem more_any (s : BitVec 32) (A : Option Addr) (l : List UInt8) (cap B : Nat) (w : World) (hlen : l.length ≤ 140737488351232) (hT : Tab w) (hl : Bs w B A l) :
    Calls Tryz.prog 321 #[.int .u32 (U s), .slice A l.length cap] w fun e w' => e = .returned (.int .u32 (U (Cm.more s l))) ∧ w = w' := by
  have HT := Lib.hid hT
  have HL := Lib.hid hl
  clear hT hl
  go_enter Tryz.func321, Tryz.ntmps321
  go_wp2
  go_loop [0, 11] (fun p i => ∃ k : Nat, k ≤ l.length ∧ i = .int .i64 k ∧ p = .int .u32 (U (Cm.F (~~~ s) (l.take k)))) (fun _ i => l.length - (intOf i).toNat)
  case atStart => exact ⟨0, Nat.zero_le _, rfl, rfl⟩
  case round =>
    obtain ⟨k, hk, rfl, rfl⟩ := hrel
    by_cases hlt : k < l.length
    · obtain ⟨ad, rfl, _, hc⟩ := HL.out k hlt
      unfold byteAt at hc
      have hf := Lib.hid (F_take (~~~ s) l k hlt)
      generalize Cm.F (~~~ s) (l.take k) = z at *
      generalize l.getD k 0 = c at *
      have hup := Lib.hid (upd_T4 z c)
      have h1 := T4_cell HT.out (z ^^^ c.toBitVec.setWidth 32)
      have h2 := T4_cell HT.out (((z ^^^ c.toBitVec.setWidth 32) >>> 4) ^^^ T4 (z ^^^ c.toBitVec.setWidth 32))
      have b1 := and15_lt (z ^^^ c.toBitVec.setWidth 32)
      have b2 := and15_lt (((z ^^^ c.toBitVec.setWidth 32) >>> 4) ^^^ T4 (z ^^^ c.toBitVec.setWidth 32))
      go_wp2
      go_round
      case rel => exact ⟨k + 1, by omega, by go_num, by rw [hf.out, ← hup.out]⟩
      case measure => simp [intOf]; omega
    · go_wp2
      go_ret
      have hk' : k = l.length := by omega
      subst hk'
      exact ⟨by rw [List.take_length]; rfl, rfl⟩

end Go.Proofs.YtjhaikcokbmdbaaGreatDoor
