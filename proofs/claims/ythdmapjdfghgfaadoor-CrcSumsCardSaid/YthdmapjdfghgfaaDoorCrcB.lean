/-
  Walks of package crc: product, Power, More, Sum, Join.
-/
import Derived.Test.YthdmapjdfghgfaaDoorCrcA
import Derived.WalkKit
import Derived.WalkLawsBesides
import Derived.WalkSpells
import Derived.Outline
import Derived.Deep.LoopGhost
import Derived.Lib.Hide
namespace Go.Proofs.YthdmapjdfghgfaaDoor
open Go.RowKit
attribute [local go_sem] U_xor U_and U_and_1 U_and_15 U_and_M U_not U_shr_1 U_shr_4 U_shr_31 U_shl_1 U_neg U_byte U_toNat U_nonneg

theorem foldl_snoc_getD (xs : List (BitVec 32)) (k : Nat) (h : k < xs.length) (f : BitVec 32 → BitVec 32 → BitVec 32) (s : BitVec 32) :
    (xs.take (k + 1)).foldl f s = f ((xs.take k).foldl f s) (xs.getD k 0#32) := by
  rw [List.take_succ_eq_append_getElem h, List.foldl_append]
  simp [List.getD, h]

theorem product_any (b : Nat) (xs : List (BitVec 32)) (cap : Nat) (w : World) (hlen : xs.length ≤ 1000) (hc : ∀ j, j < xs.length → w.cell? ⟨b, 0 + j, none⟩ = some (.int .u32 (U (xs.getD j 0#32)))) :
    Calls Tryd.prog 24 #[.slice (some ⟨b, 0, none⟩) xs.length cap] w fun e w' => e = .returned (.int .u32 (U (xs.foldl Cm.times Cm.one))) ∧ w = w' := by
  have H := Lib.hid hc
  clear hc
  go_enter Tryd.func24, Tryd.ntmps24
  go_wp2
  go_loop [3, 8] (fun p i => ∃ k : Nat, k ≤ xs.length ∧ i = .int .i64 k ∧ p = .int .u32 (U ((xs.take k).foldl Cm.times Cm.one))) (fun _ i => xs.length - (intOf i).toNat)
  case atStart => exact ⟨0, Nat.zero_le _, rfl, rfl⟩
  case round =>
    obtain ⟨k, hk, rfl, rfl⟩ := hrel
    by_cases hlt : k < xs.length
    · have hc := H.out k hlt
      have hf := Lib.hid (foldl_snoc_getD xs k hlt Cm.times Cm.one)
      rw [Nat.zero_add] at hc
      go_wp2_with (go_at_call 13; refine (times_any _ _ _).mono ?_; rintro e w' ⟨rfl, rfl⟩)
      go_round
      case rel => exact ⟨k + 1, by omega, by go_num, by rw [hf.out]; simp [List.getD, hlt]⟩
      case measure => simp [intOf]; omega
    · go_wp2
      go_ret
      have hk' : k = xs.length := by omega
      subst hk'
      exact ⟨by rw [List.take_length]; rfl, rfl⟩

theorem Below_two (w : World) (o : Obj) : Below w.heap.size w (w.alloc o) := (Below.refl _ _).alloc (Nat.le_refl _) o

theorem product2_any (x y : BitVec 32) (w : World) (b cap : Nat) (h0 : w.cell? ⟨b, 0, none⟩ = some (.int .u32 (U x))) (h1 : w.cell? ⟨b, 1, none⟩ = some (.int .u32 (U y))) :
    Calls Tryd.prog 24 #[.slice (some ⟨b, 0, none⟩) 2 cap] w fun e w' => e = .returned (.int .u32 (U (Cm.times x y))) ∧ w = w' := by
  have h := product_any b [x, y] cap w (by simp) (by
    intro j hj
    have : j = 0 ∨ j = 1 := by simp at hj; omega
    rcases this with rfl | rfl
    · exact h0
    · exact h1)
  have e : [x, y].foldl Cm.times Cm.one = Cm.times x y := by
    simp only [List.foldl]
    rw [Cm.times_comm Cm.one x, Cm.times_one]
  rw [e] at h
  exact h

theorem power_neg (n : Int) (hn : n < 0) (w : World) : Calls Tryd.prog 12 #[.int .i64 n] w fun e w' => e = .returned (.tuple #[.int .u32 0, .int .i64 1]) ∧ w = w' := by
  go_enter Tryd.func12, Tryd.ntmps12
  go_wp2
  go_ret2
  exact ⟨rfl, rfl⟩

theorem power_any (n : Nat) (hn : n ≤ 9223372036854775807) (w : World) : Calls Tryd.prog 12 #[.int .i64 n] w fun e w' => e = .returned (.tuple #[.int .u32 (U (Cm.pw n)), .int .i64 0]) ∧ Below w.heap.size w w' := by
  go_enter Tryd.func12, Tryd.ntmps12
  go_wp2
  go_loopw [0, 4, 5] (fun x p s wr => ∃ N a q : Nat, N ≤ n ∧ a + q * N = n ∧ x = .int .i64 N ∧ p = .int .u32 (U (Cm.pw a)) ∧ s = .int .u32 (U (Cm.pw q)) ∧ Below w.heap.size w wr) (fun x _ _ _ => (intOf x).toNat)
  case atStart => exact ⟨n, 0, 1, Nat.le_refl _, by omega, rfl, rfl, by rw [Cm.pw_one]; rfl, Below.refl _ _⟩
  case round =>
    obtain ⟨N, a, q, hN, hq, rfl, rfl, rfl, hb⟩ := hrel
    have hqH := Lib.hid hq
    clear hq
    rcases Nat.eq_zero_or_pos N with h0 | hpos
    · subst h0
      go_wp2
      go_ret2
      have hq := hqH.out
      have ha : a = n := by omega
      subst ha
      exact ⟨rfl, hb⟩
    · rcases Nat.mod_two_eq_zero_or_one N with hm | hm
      · have hb0 : (bits BinOp.and .i64 (N : Int) 1 == 1) = false := by rw [i64_and_one N (by omega), hm]; rfl
        have hmH := Lib.hid hm
        clear hm
        go_wp2_with fail
        refine (product2_any (Cm.pw q) (Cm.pw q) _ _ _ ?_ ?_).mono ?_
        · rw [World.cell?_alloc_at _ _ _ _ rfl]; rfl
        · rw [World.cell?_alloc_at _ _ _ _ rfl]; rfl
        rintro e w1 ⟨rfl, rfl⟩
        go_wp2_with fail
        go_roundw
        case rel =>
          refine ⟨N / 2, a, q + q, by omega, ?_, by go_num, rfl, by rw [Cm.times_pw], hb.alloc hb.size _⟩
          have h2 : N = 2 * (N / 2) := by have := hmH.out; omega
          rw [← hqH.out]
          conv => rhs; rw [h2]
          rw [Nat.add_mul, ← Nat.mul_assoc, Nat.mul_comm q 2, Nat.two_mul, Nat.add_mul]
        case measure => simp [intOf]; omega
      · have hb0 : (bits BinOp.and .i64 (N : Int) 1 == 1) = true := by rw [i64_and_one N (by omega), hm]; rfl
        have hmH := Lib.hid hm
        clear hm
        go_wp2_with fail
        refine (product2_any (Cm.pw a) (Cm.pw q) _ _ _ ?_ ?_).mono ?_
        · rw [World.cell?_alloc_at _ _ _ _ rfl]; rfl
        · rw [World.cell?_alloc_at _ _ _ _ rfl]; rfl
        rintro e w1 ⟨rfl, rfl⟩
        go_wp2_with fail
        refine (product2_any (Cm.pw q) (Cm.pw q) _ _ _ ?_ ?_).mono ?_
        · rw [World.cell?_alloc_at _ _ _ _ (by simp)]; rfl
        · rw [World.cell?_alloc_at _ _ _ _ (by simp)]; rfl
        rintro e w1 ⟨rfl, rfl⟩
        go_wp2_with fail
        go_roundw
        case rel =>
          refine ⟨N / 2, a + q, q + q, by omega, ?_, by go_num, by rw [Cm.times_pw], by rw [Cm.times_pw], (hb.alloc hb.size _).alloc (by have := hb.size; simp; omega) _⟩
          have h2 : N = 2 * (N / 2) + 1 := by have := hmH.out; omega
          rw [← hqH.out]
          conv => rhs; rw [h2]
          rw [Nat.mul_add, Nat.mul_one, Nat.add_mul, ← Nat.mul_assoc, Nat.mul_comm q 2, Nat.two_mul, Nat.add_mul]
          omega
        case measure => simp [intOf]; omega
end Go.Proofs.YthdmapjdfghgfaaDoor
