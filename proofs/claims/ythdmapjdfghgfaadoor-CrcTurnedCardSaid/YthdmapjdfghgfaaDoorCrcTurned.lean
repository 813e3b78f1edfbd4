/-
  The walk of the law CrcTurned.
-/
import Derived.Test.YthdmapjdfghgfaaDoorCrcF
import Derived.Test.YthdmapjdfghgfaaDoorCrcTurnMath
import Derived.Deep.DeepCutAuto
namespace Go.Proofs.YthdmapjdfghgfaaDoor
open Go.RowKit

theorem word_by4 (s : BitVec 32) : Cm.word (by4 s 0) (by4 s 1) (by4 s 2) (by4 s 3) = s := by
  unfold Cm.word by4
  apply BitVec.eq_of_getLsbD_eq
  intro i hi
  simp only [BitVec.getLsbD_xor, BitVec.getLsbD_shiftLeft, BitVec.getLsbD_setWidth, BitVec.getLsbD_ushiftRight]
  by_cases h1 : i < 8
  · simp [hi, h1, show i < 16 by omega, show i < 24 by omega]
  · by_cases h2 : i < 16
    · simp [hi, h1, h2, show i < 24 by omega, show i - 8 < 8 by omega, show 8 + (i - 8) = i by omega, show i - 8 < 32 by omega]
    · by_cases h3 : i < 24
      · simp [hi, h1, h2, h3, show i - 16 < 8 by omega, show ¬ i - 8 < 8 by omega, show 16 + (i - 16) = i by omega, show i - 16 < 32 by omega]
      · simp [hi, h1, h2, h3, show i - 24 < 8 by omega, show ¬ i - 8 < 8 by omega, show ¬ i - 16 < 8 by omega, show 24 + (i - 24) = i by omega, show i - 24 < 32 by omega]
/-- What a right run leaves. -/
def KR : BitVec 32 := Cm.steps 32 (~~~ 0#32)
theorem right_K (x : List UInt8) : Cm.F (~~~ 0#32) (x ++ le4 (Cm.sum x)) = KR := by
  unfold le4 KR
  rw [Cm.F_append, Cm.F_word, word_by4]
  congr 1
  unfold Cm.sum Cm.more
  generalize Cm.F (~~~ 0#32) x = a
  rw [Cm.not_eq a, ← BitVec.xor_assoc, BitVec.xor_self, BitVec.zero_xor]
/-- With bits turned a run is not right. -/
theorem not_right (r : List UInt8) (m k R : Nat) (by_ : BitVec 32) (h0 : by_.getLsbD 0 = true) (hk : 0 < k) (hF : Cm.F (~~~ 0#32) r = KR ^^^ Cm.steps R (Cm.lo k by_)) :
    decide (le4 (Cm.sum (r.take m)) = r.drop m) = false := by
  rw [decide_eq_false_iff_not]
  intro h
  have h1 := right_K (r.take m)
  rw [h, List.take_append_drop, hF] at h1
  have h2 : Cm.steps R (Cm.lo k by_) = 0#32 := by
    have h3 := congrArg (fun v => KR ^^^ v) h1
    simpa [← BitVec.xor_assoc] using h3
  exact Cm.lo_ne k by_ h0 hk (Cm.steps_eq_zero R h2)

attribute [local go_sem] U_xor U_and U_and_1 U_and_15 U_and_M U_not U_not' U_xor_shr U_shr_1 U_shr_4 U_shr_31 U_shl_1 U_neg U_byte U_toNat U_nonneg
theorem U_or_1 (x : BitVec 32) : bits .or .u32 (U x) 1 = U (x ||| 1#32) := by
  unfold U
  have := u32_or_nat x.toNat 1 (by have := x.isLt; omega) (by omega)
  rw [BitVec.toNat_or]
  exact this
attribute [local go_sem] U_or_1

theorem World.grownBy_of_below {w w' : World} (h : Below w.heap.size w w') : w.grownBy w' none :=
  ⟨h.os, h.tape, h.output, h.size, fun k hk _ => h.block k hk⟩

theorem B8_xor' (x y : UInt8) : bits .xor .u8 (B8 x) (B8 y) = B8 (x ^^^ y) := by
  unfold B8; rw [u8_xor_nat _ _ x.toNat_lt y.toNat_lt, UInt8.toNat_xor]
theorem U_shr (x : BitVec 32) (k : Nat) : U x / 2 ^ k = U (x >>> k) := by
  unfold U; rw [BitVec.toNat_ushiftRight, Nat.shiftRight_eq_div_pow]; simp
theorem bit_test (Y : BitVec 32) (k : Nat) : (bits .and .u32 (U Y / 2 ^ k) 1 == 1) = Y.getLsbD k := by
  rw [U_shr, U_and_1]
  have h : (Y >>> k) &&& 1#32 = if Y.getLsbD k then 1#32 else 0#32 := by
    apply BitVec.eq_of_getLsbD_eq; intro i hi
    rw [BitVec.getLsbD_and, BitVec.getLsbD_ushiftRight]
    rcases i with _ | i
    · rw [Nat.add_zero]
      cases Y.getLsbD k <;> simp
    · have h1 : (1#32).getLsbD (i + 1) = false := by simp
      rw [h1, Bool.and_false]
      split <;> simp
  rw [h]
  cases Y.getLsbD k <;> rfl

set_option maxRecDepth 100000 in
theorem turned_walk (A : Option Addr) (l : List UInt8) (cap : Nat) (x y : BitVec 32) (w : World) (hcap : l.length ≤ cap) (_ : cap ≤ maxLen) (hT : Tab w) (hl : Bs w w.heap.size A l) :
    Calls Tryd.prog 8 #[.slice A l.length cap, .int .u32 (U x), .int .u32 (U y)] w fun e w' => e = .returned (.bool true) ∧ Below w.heap.size w w' := by
  have HT := Lib.hid hT
  have HL := Lib.hid hl
  clear hT hl
  go_enter Tryd.func8, Tryd.ntmps8
  go_upto_region 1 with fail
  go_cut [0] (fun s0 wx => s0 = .slice A (l.take 2000).length cap ∧ wx = w)
  case first =>
    go_wp2
    all_goals go_meet
    all_goals refine ⟨?_, rfl⟩
    all_goals rw [List.length_take]
    all_goals congr 1
    all_goals omega
  case rest =>
    obtain ⟨rfl, rfl⟩ := hcut
    have hn : (l.take 2000).length ≤ 2000 := by rw [List.length_take]; omega
    have HL2 := Lib.hid (HL.out.take' 2000)
    clear HL
    generalize l.take 2000 = L at *
    go_wp2_with fail
    refine (cover_any A L cap _ (by omega) HT.out HL2.out).mono ?_
    rintro e w1 ⟨v, rfl, hown, hb⟩
    obtain ⟨g, c, rfl, hg1, hg2, hc1, hc2⟩ := own_form hown (by omega)
    have hO := Lib.hid hown
    have hB1 := Lib.hid hb
    have HT1 := Lib.hid (HT.out.below hb)
    clear hown hb HL2
    go_wp2_with fail
    refine (right_long ⟨g, 0, none⟩ (L ++ le4 (Cm.sum L)) L.length c _ (by simp [le4]) (by omega) hc1 HT1.out (own_read hO.out)).mono ?_
    rintro e w2 ⟨rfl, hb2⟩
    rw [show decide (le4 (Cm.sum ((L ++ le4 (Cm.sum L)).take L.length)) = (L ++ le4 (Cm.sum L)).drop L.length) = true by simp]
    have HO := Lib.hid (hO.out.kept (row := none) (World.grownBy_of_below hb2) (.inr (by simp [Value.ownBlock])))
    have HB2 := Lib.hid (hB1.out.trans (hb2.mono hB1.out.size))
    have HT2 := Lib.hid (HT1.out.below hb2)
    clear hb2 hO hB1 HT1
    have hx0 := U_nonneg x
    have hx1 := U_lt x
    go_wp2_with fail
    obtain ⟨f, hf, hf8⟩ : ∃ f : Nat, U x % (8 * ((L.length : Int) + 4)) = (f : Int) ∧ f < 8 * (L.length + 4) :=
      ⟨(U x % (8 * ((L.length : Int) + 4))).toNat, by rw [Int.toNat_of_nonneg (Int.emod_nonneg _ (by omega))], by have h1 := Int.emod_lt_of_pos (U x) (show (0 : Int) < 8 * ((L.length : Int) + 4) by omega); have h2 := Int.emod_nonneg (U x) (show 8 * ((L.length : Int) + 4) ≠ 0 by omega); omega⟩
    rw [hf]
    clear hf hx0 hx1
    obtain ⟨Y, hY, hY0⟩ : ∃ Y, Y = y ||| 1#32 ∧ Y.getLsbD 0 = true := ⟨_, rfl, by simp⟩
    rw [← hY]
    have HY0 := Lib.hid hY0
    clear hY hY0
    obtain ⟨N, hN⟩ : ∃ N, N = L.length + 4 := ⟨_, rfl⟩
    have HN := Lib.hid hN
    have hN1 : N ≤ 2004 := by omega
    have hN2 : 4 ≤ N := by omega
    have hf9 : f < 8 * N := by omega
    have hNc : N ≤ c := by omega
    have hNi : (L.length : Int) + 4 = (N : Int) := by omega
    rw [← hN] at HO ⊢
    rw [hNi]
    clear hN hf8 hNi hc1
    go_loopw [9] (fun i wr => ∃ (k : Nat) (r : List UInt8), k ≤ 32 ∧ f + k ≤ 8 * N ∧ i = .int .i64 k ∧ r.length = N ∧ wr.ownsRow wc.heap.size 5 1 (.slice (some ⟨g, 0, none⟩) N c) N (r.map byteV) ∧ Cm.F (~~~ 0#32) r = KR ^^^ Cm.steps (8 * N - f) (Cm.lo k Y) ∧ Below wc.heap.size wc wr) (fun i _ => 32 - (intOf i).toNat)
    case atStart => exact ⟨0, L ++ le4 (Cm.sum L), by omega, by omega, rfl, by rw [HN.out]; simp [le4], HO.out, by rw [right_K]; simp [Cm.lo, Cm.steps_zero], HB2.out⟩
    case round =>
      obtain ⟨k, r, hk, hfk, rfl, hr, hown, hF, hbr⟩ := hrel
      have HO3 := Lib.hid hown
      have HR := Lib.hid hr
      have HF := Lib.hid hF
      have HBR := Lib.hid hbr
      clear hown hr hF hbr HO HB2
      by_cases hgo : k < 32 ∧ f + k < 8 * N
      · obtain ⟨hk1, hk2⟩ := hgo
        have hk3 : (f : Int) + (k : Int) < 8 * (N : Int) := by omega
        obtain ⟨q, b, hqb, hb8⟩ : ∃ q b, f + k = 8 * q + b ∧ b < 8 := ⟨(f + k) / 8, (f + k) % 8, by omega, by omega⟩
        have hqN : q < N := by omega
        cases hbit : Y.getLsbD k with
        | false =>
          have ht : (bits .and .u32 (U Y / 2 ^ k) 1 == 1) = false := by rw [bit_test, hbit]
          have HT0 := Lib.hid (Cm.turn_none k Y hbit)
          clear hbit hqb
          go_wp2_with fail
          go_roundw
          case rel => exact ⟨k + 1, r, by omega, by omega, by go_num, HR.out, HO3.out, by rw [HT0.out]; exact HF.out, HBR.out⟩
          case measure => simp [intOf]; omega
        | true =>
          have ht : (bits .and .u32 (U Y / 2 ^ k) 1 == 1) = true := by rw [bit_test, hbit]
          have HT0 := Lib.hid (Cm.turn_step KR (8 * N - f) k Y (by omega) hk1 hbit)
          have HQ := Lib.hid hqb
          have hq : ((f : Int) + (k : Int)) / 8 = (q : Int) := by omega
          have hb : ((f : Int) + (k : Int)) % 8 = (b : Int) := by omega
          have hc := HO3.out.cellAt q (by omega)
          have hfz := HO3.out.frozenAt q
          rw [List.getElem?_map, List.getElem?_eq_getElem (by rw [HR.out]; exact hqN)] at hc
          simp only [Option.map_some] at hc
          have hr : r[q]'(by rw [HR.out]; exact hqN) = r.getD q 0 := by simp [List.getD, HR.out, hqN]
          rw [hr] at hc
          unfold byteV at hc
          clear hr hbit hqb
          have hqi : (q : Int) < (N : Int) := by omega
          go_wp2_with fail
          go_region
          go_wp2_with fail
          go_roundw
          case rel =>
            have hm8 : ∃ m : UInt8, B8 m = (2 : Int) ^ b % 256 ∧ m.toBitVec.setWidth 32 = BitVec.twoPow 32 b := by
              have h : ∀ j : Fin 8, B8 (UInt8.ofNat (2 ^ j.1)) = (2 : Int) ^ j.1 % 256 ∧ (UInt8.ofNat (2 ^ j.1)).toBitVec.setWidth 32 = BitVec.twoPow 32 j.1 := by decide
              exact ⟨_, h ⟨b, hb8⟩⟩
            obtain ⟨m, hm1, hm2⟩ := hm8
            have hqr : q < r.length := by rw [HR.out]; exact hqN
            rw [← hm1, B8_xor', show r[q]?.getD 0 = r.getD q 0 from rfl]
            refine ⟨k + 1, r.set q (r.getD q 0 ^^^ m), by omega, by omega, by go_num, by rw [List.length_set]; exact HR.out, ?_, ?_, ?_⟩
            · have h := (HO3.out.stored q (byteV (r.getD q 0 ^^^ m))).1
              rw [← List.map_set] at h
              exact h.drew
            · rw [Cm.F_flip _ r q b hqr hb8 m hm2, HF.out, HR.out, ← HQ.out, ← HT0.out]
              congr 2
              omega
            · exact (HBR.out.setCell (p := ⟨g, q, none⟩) hg1 _).drew
          case measure => simp [intOf]; omega
      · have hk0 : 0 < k := by omega
        have hcond : ¬ ((k : Int) < 32 ∧ (f : Int) + (k : Int) < 8 * (N : Int)) := by omega
        have hnr := not_right r (N - 4) k (8 * N - f) Y HY0.out hk0 HF.out
        have HNR := Lib.hid hnr
        have HTr := Lib.hid (HT.out.below HBR.out)
        clear hnr hgo
        by_cases hk32 : k < 32
        all_goals
          go_wp2_with fail
          refine (right_at ⟨g, 0, none⟩ r N c _ HR.out hN2 (by omega) hNc HTr.out (own_read HO3.out)).mono ?_
          rintro e w3 ⟨rfl, hb3⟩
          rw [HNR.out]
          have HT3 := Lib.hid (HTr.out.below hb3)
          have HB3 := Lib.hid (HBR.out.trans (hb3.mono HBR.out.size))
          clear hb3
          go_wp2_with fail
          refine (knows_any _ HT3.out).mono ?_
          rintro e w4 ⟨rfl, hb4⟩
          go_wp2_with fail
          go_ret
          exact ⟨rfl, HB3.out.trans (hb4.mono HB3.out.size)⟩

theorem turned_raw (W : World) (A : Option Addr) (l : List UInt8) (cap : Nat) (hl : l.length ≤ cap) (hm : cap ≤ maxLen) (hc : Bs W W.heap.size A l) (x : Int) (h0 : 0 ≤ x) (h1 : x ≤ 4294967295) (y : Int) (k0 : 0 ≤ y) (k1 : y ≤ 4294967295) (hT : Tab W) :
    Calls Tryd.prog 8 #[.slice A l.length cap, .int .u32 x, .int .u32 y] W fun e w' => e = .returned (.bool true) ∧ Below W.heap.size W w' := by
  have h := turned_walk A l cap (BitVec.ofNat 32 x.toNat) (BitVec.ofNat 32 y.toNat) W hl hm hT hc
  rw [← U_of x h0 (by omega), ← U_of y k0 (by omega)] at h
  exact h
end Go.Proofs.YthdmapjdfghgfaaDoor
