/-
  Walk of the document's sum.
-/
import Derived.Test.YthdmapjdfghgfaaDoorCrcI
namespace Go.Proofs.YthdmapjdfghgfaaDoor
open Go.RowKit
attribute [local go_sem] U_xor U_and U_not U_not' U_byte U_toNat U_nonneg

/-- The first k turned. -/
def flips (k : Nat) (L : List Bool) : List Bool := (L.take k).map (!·) ++ L.drop k
theorem flips_length (k : Nat) (L : List Bool) : (flips k L).length = L.length := by
  simp [flips]; omega
theorem flips_zero (L : List Bool) : flips 0 L = L := by simp [flips]
theorem flips_get (k : Nat) (L : List Bool) (hk : k < L.length) : (flips k L).getD k false = L.getD k false := by
  have h1 : ((L.take k).map (!·)).length = k := by simp; omega
  unfold flips
  simp only [List.getD]
  rw [List.getElem?_append_right (by rw [h1]; omega), h1, Nat.sub_self, List.getElem?_drop]
  rfl
theorem flips_set (k : Nat) (L : List Bool) (hk : k < L.length) : (flips k L).set k (!(L.getD k false)) = flips (k + 1) L := by
  have h1 : ((L.take k).map (!·)).length = k := by simp; omega
  have h2 : L.getD k false = L[k] := by simp [List.getD, hk]
  unfold flips
  rw [h2, List.set_append_right _ _ (by rw [h1]; omega), h1, Nat.sub_self, List.take_succ_eq_append_getElem hk, List.drop_eq_getElem_cons hk]
  simp only [List.map_append, List.map_cons, List.map_nil, List.append_assoc, List.cons_append, List.nil_append, List.set_cons_zero]
theorem flips_32 (L : List Bool) (n : Nat) (h : L.length = 8 * n + 32) : flips 32 L = List.zipWith (· ^^ ·) L (List.replicate 32 true ++ List.replicate (8 * n) false) := by
  apply List.ext_getElem?
  intro i
  rw [List.getElem?_zipWith]
  unfold flips
  by_cases hi : i < 32
  · rw [List.getElem?_append_left (by simp; omega), List.getElem?_append_left (by simp; omega), List.getElem?_map, List.getElem?_take, if_pos hi, List.getElem?_replicate, if_pos hi, List.getElem?_eq_getElem (by omega)]
    simp
  · have h1 : ((L.take 32).map (!·)).length = 32 := by simp; omega
    rw [List.getElem?_append_right (by rw [h1]; omega), h1, List.getElem?_drop, show 32 + (i - 32) = i by omega, List.getElem?_append_right (by simp; omega), List.length_replicate, List.getElem?_replicate]
    by_cases hl : i < L.length
    · rw [if_pos (by omega), List.getElem?_eq_getElem hl]
      simp
    · rw [if_neg (by omega), List.getElem?_eq_none (by omega)]
theorem flips_bits (a : BitVec 32) : flips 32 (Cm.bitsOf a) = Cm.bitsOf (~~~ a) := by
  unfold flips
  rw [List.take_of_length_le (by rw [Cm.bitsOf_length]; omega), List.drop_eq_nil_of_le (by rw [Cm.bitsOf_length]; omega), List.append_nil]
  unfold Cm.bitsOf
  rw [List.map_map]
  apply List.map_congr_left
  intro k hk
  simp only [List.mem_range] at hk
  simp [hk]

theorem byte_bit (c : UInt8) (j : Nat) : (((c.toNat / 2 ^ j : Nat) : Int) % (2 : Int) == 1) = c.toBitVec.getLsbD j := by
  have h1 : c.toBitVec.getLsbD j = decide (c.toNat / 2 ^ j % 2 = 1) := by
    rw [BitVec.getLsbD, Nat.testBit_eq_decide_div_mod_eq]; rfl
  rw [h1]
  generalize c.toNat / 2 ^ j = p
  by_cases hp : p % 2 = 1
  · simp [hp]; omega
  · simp [hp]; omega
theorem byte_half (c : UInt8) (j : Nat) : c.toNat / 2 ^ (j + 1) = c.toNat / 2 ^ j / 2 := by
  rw [Nat.div_div_eq_div_mul, ← Nat.pow_succ]
theorem bits8_take (c : UInt8) (j : Nat) (hj : j < 8) : (Cm.bits8 c).take (j + 1) = (Cm.bits8 c).take j ++ [c.toBitVec.getLsbD j] := by
  have hl : (Cm.bits8 c).length = 8 := by simp [Cm.bits8]
  rw [List.take_succ_eq_append_getElem (by rw [hl]; exact hj)]
  congr 2
  simp [Cm.bits8]
theorem allBits_take (l : List UInt8) (k : Nat) (hk : k < l.length) : Cm.allBits (l.take (k + 1)) = Cm.allBits (l.take k) ++ Cm.bits8 (l.getD k 0) := by
  have e : l.getD k 0 = l[k] := by simp [List.getD, hk]
  rw [List.take_succ_eq_append_getElem hk, e]
  simp only [Cm.allBits, List.flatMap_append, List.flatMap_cons, List.flatMap_nil, List.append_nil]

set_option maxRecDepth 100000 in
theorem refsum_any (A : Option Addr) (l : List UInt8) (n cap : Nat) (w : World) (hn : l.length = n) (hlen : n ≤ 1000) (hl : Bs w w.heap.size A l) :
    Calls Tryd.prog 19 #[.slice A n cap] w fun e w' => e = .returned (.int .u32 (U (Cm.sum l))) ∧ Below w.heap.size w w' := by
  obtain ⟨i0, hi0, hz0, hz1, hz2⟩ := info_parts info_bool
  have HL := Lib.hid hl
  have HN := Lib.hid hn
  clear hl hn
  go_enter Tryd.func19, Tryd.ntmps19
  go_wp2_with fail
  go_loopw [3, 4] (fun v i wr => ∃ k : Nat, k ≤ n ∧ i = .int .i64 k ∧ wr.ownsRow w.heap.size 4 1 v (8 * k) ((Cm.allBits (l.take k)).map Value.bool) ∧ Below w.heap.size w wr) (fun _ i _ => n - (intOf i).toNat)
  case atStart => exact ⟨0, by omega, rfl, Lk.own_nil _ _ _, Below.refl _ _⟩
  case round =>
    obtain ⟨k, hk, rfl, hown, hb⟩ := hrel
    have HO := Lib.hid hown
    have HB := Lib.hid hb
    clear hown hb
    by_cases hlt : k < n
    · obtain ⟨ad, rfl, had, hc⟩ := HL.out k (by rw [HN.out]; exact hlt)
      have hc' := (HB.out.cell (p := ad.add k) (by rw [add_block]; exact had)).trans hc
      unfold byteAt at hc'
      have HT : Hid (Cm.allBits (l.take (k + 1)) = Cm.allBits (l.take k) ++ Cm.bits8 (l.getD k 0)) := allBits_take l k (by rw [HN.out]; exact hlt)
      generalize l.getD k 0 = c at *
      clear hc
      go_wp2_with fail
      go_loopw [3, 5, 6] (fun v x i wr => ∃ (j p : Nat), j ≤ 8 ∧ i = .int .i64 j ∧ x = .int .u8 (p : Int) ∧ p = c.toNat / 2 ^ j ∧ wr.ownsRow w.heap.size 4 1 v (8 * k + j) ((Cm.allBits (l.take k) ++ (Cm.bits8 c).take j).map Value.bool) ∧ Below w.heap.size w wr) (fun _ _ i _ => 8 - (intOf i).toNat)
      case atStart => exact ⟨0, c.toNat, by omega, rfl, rfl, by simp, by simpa using HO.out, HB.out⟩
      case round =>
        obtain ⟨j, p, hj, rfl, rfl, hp, hown, hb⟩ := hrel
        have HP := Lib.hid hp
        have hp8 : p < 256 := by
          rw [hp]
          exact Nat.lt_of_le_of_lt (Nat.div_le_self _ _) c.toNat_lt
        have HO2 := Lib.hid hown
        have HB2 := Lib.hid hb
        have hbs := hb.size
        clear hown hb hp HO HB hc'
        by_cases hj8 : j < 8
        · have hm := byte_bit c j
          rw [← HP.out] at hm
          have HX := Lib.hid (bits8_take c j hj8)
          generalize c.toBitVec.getLsbD j = x at *
          go_wp2_with (at_builtin; refine Lk.wpList_app _ rfl (.tmp 25) (.tmp 29) 48 rfl w.heap.size 4 i0 _ 1 1 Tryd.underlying48 hi0 hz0 hz1 hz2 rfl (by omega) _ (8 * k + j) _ rfl (HO2.out.alloc _) (some ⟨wr.heap.size, 0, none⟩) 1 1 [.bool x] rfl rfl (Lk.Src.one (World.cell?_alloc_at _ _ _ _ rfl)) (by simp [Value.oneCell']) (by unfold maxLen; omega) (by omega) (by simp; omega) (fun v1 w2 hown1 hg1 hat1 => ?_))
          go_roundw
          case rel =>
            refine ⟨j + 1, p / 2, by omega, by go_num, by go_num, by rw [byte_half, HP.out], ?_, ?_⟩
            · rw [HX.out, ← List.append_assoc, List.map_append]
              exact hown1
            · exact (HB2.out.alloc hbs _).grown hg1 (by simp; omega) (fun g hg => (HO2.out.lt g hg).1)
          case measure => simp [intOf]; omega
        · have hj8 : j = 8 := by omega
          subst hj8
          go_wp2_with fail
          go_roundw
          case rel =>
            refine ⟨k + 1, by omega, by go_num, ?_, HB2.out⟩
            have h := HO2.out
            rw [List.take_of_length_le (l := Cm.bits8 c) (i := 8) (by simp [Cm.bits8]), ← HT.out] at h
            exact h
          case measure => simp [intOf]; omega
    · have hkn : k = n := by omega
      subst hkn
      have h := HO.out
      rw [List.take_of_length_le (by rw [HN.out]; exact Nat.le_refl _)] at h
      have HO1 := Lib.hid h
      clear h
      go_wp2_with fail
      go_loopw [3, 7] (fun v i wr => ∃ j : Nat, j ≤ 32 ∧ i = .int .i64 j ∧ wr.ownsRow w.heap.size 4 1 v (8 * k + j) ((Cm.allBits l ++ List.replicate j false).map Value.bool) ∧ Below w.heap.size w wr) (fun _ i _ => 32 - (intOf i).toNat)
      case atStart => exact ⟨0, by omega, rfl, by simpa using HO1.out, HB.out⟩
      case round =>
        obtain ⟨j, hj, rfl, hown, hb⟩ := hrel
        have HO2 := Lib.hid hown
        have HB2 := Lib.hid hb
        have hbs := hb.size
        clear hown hb HO HB HO1
        by_cases hj32 : j < 32
        · go_wp2_with (at_builtin; refine Lk.wpList_app _ rfl (.tmp 37) (.tmp 38) 48 rfl w.heap.size 4 i0 _ 1 1 Tryd.underlying48 hi0 hz0 hz1 hz2 rfl (by omega) _ (8 * k + j) _ rfl (HO2.out.alloc _) (some ⟨wr.heap.size, 0, none⟩) 1 1 [.bool false] rfl rfl (Lk.Src.one (World.cell?_alloc_at _ _ _ _ rfl)) (by simp [Value.oneCell']) (by unfold maxLen; omega) (by omega) (by simp; omega) (fun v1 w2 hown1 hg1 hat1 => ?_))
          go_roundw
          case rel =>
            refine ⟨j + 1, by omega, by go_num, ?_, ?_⟩
            · rw [List.replicate_succ', ← List.append_assoc, List.map_append]
              exact hown1
            · exact (HB2.out.alloc hbs _).grown hg1 (by simp; omega) (fun g hg => (HO2.out.lt g hg).1)
          case measure => simp [intOf]; omega
        · have hj32 : j = 32 := by omega
          subst hj32
          obtain ⟨g, c, rfl, hg1, hg2, hc1, hc2⟩ := own_form HO2.out (by omega)
          obtain ⟨L, hL⟩ : ∃ L, L = Cm.allBits l ++ List.replicate 32 false := ⟨_, rfl⟩
          have HLL : Hid (L.length = 8 * k + 32) := by
            show _ = _
            rw [hL, List.length_append, Cm.allBits_length, HN.out, List.length_replicate]
          have HR : Hid (~~~ (Cm.R 0#32 (flips 32 L)) = Cm.sum l) := by
            show _ = _
            rw [flips_32 L k HLL.out, hL, ← HN.out]
            exact Cm.sum_R l
          rw [← hL] at HO2
          clear hL
          go_wp2_with fail
          go_loopw [8] (fun i wr => ∃ j : Nat, j ≤ 32 ∧ i = .int .i64 j ∧ wr.ownsRow w.heap.size 4 1 (.slice (some ⟨g, 0, none⟩) (8 * k + 32) c) (8 * k + 32) ((flips j L).map Value.bool) ∧ Below w.heap.size w wr) (fun i _ => 32 - (intOf i).toNat)
          case atStart => exact ⟨0, by omega, rfl, by rw [flips_zero]; exact HO2.out, HB2.out⟩
          case round =>
            obtain ⟨j, hj, rfl, hown, hb⟩ := hrel
            have HO3 := Lib.hid hown
            have HB3 := Lib.hid hb
            have hbs := hb.size
            clear hown hb HO2 HB2
            by_cases hj32 : j < 32
            · have c1 := HO3.out.cellAt j (by omega)
              have f1 := HO3.out.frozenAt j
              rw [List.getElem?_map, List.getElem?_eq_getElem (by rw [flips_length, HLL.out]; omega)] at c1
              simp only [Option.map_some] at c1
              have e1 : (flips j L)[j]'(by rw [flips_length, HLL.out]; omega) = L.getD j false := by
                have h := flips_get j L (by rw [HLL.out]; omega)
                rw [← h]
                simp [List.getD, flips_length, HLL.out, show j < 8 * k + 32 by omega]
              rw [e1] at c1
              clear e1
              have HS : Hid ((flips j L).set j (!(L.getD j false)) = flips (j + 1) L) := flips_set j L (by rw [HLL.out]; omega)
              generalize L.getD j false = x at *
              have hj3 : (j : Int) < 8 * (k : Int) + 32 := by omega
              have hj4 : (j : Int) < 32 := by omega
              go_wp2_with fail
              go_roundw
              case rel =>
                refine ⟨j + 1, by omega, by go_num, ?_, HB3.out.setCell (p := ⟨g, j, none⟩) hg1 _⟩
                have h := (HO3.out.stored j (.bool (!x))).1
                rw [← List.map_set, HS.out] at h
                exact h
              case measure => simp [intOf]; omega
            · have hj32 : j = 32 := by omega
              subst hj32
              obtain ⟨_, A', c', he, _, _, hOs⟩ := own_os HO3.out
              simp only [Value.slice.injEq, true_and] at he
              obtain ⟨rfl, rfl⟩ := he
              have HOs := Lib.hid hOs
              clear hOs
              go_wp2_with fail
              refine (left_any _ (flips 32 L) (8 * k + 32) _ _ (by rw [flips_length]; exact HLL.out) (by omega) (by omega) HOs.out).mono ?_
              rintro e w3 ⟨g', off, c'', rfl, hs, hb3⟩
              have HS := Lib.hid hs
              have HB4 := Lib.hid (HB3.out.trans (hb3.mono hbs))
              clear hs hb3 HOs
              generalize Cm.R 0#32 (flips 32 L) = r at *
              have hgb : wr.heap.size ≤ g' := by obtain ⟨_, _, h, _⟩ := HS.out; exact h
              go_wp2_with fail
              obtain ⟨B, hB⟩ : ∃ B, B = wr.heap.size := ⟨_, rfl⟩
              rw [← hB] at HS hgb
              have hwB : w.heap.size ≤ B := by omega
              clear hB HO3 HB3
              go_loopw [10] (fun i wr => ∃ j : Nat, j ≤ 32 ∧ i = .int .i64 j ∧ Seg wr B g' off (flips j (Cm.bitsOf r)) ∧ Below w.heap.size w wr) (fun i _ => 32 - (intOf i).toNat)
              case atStart => exact ⟨0, by omega, rfl, by rw [flips_zero]; exact HS.out, HB4.out⟩
              case round =>
                obtain ⟨j, hj, rfl, hs, hb⟩ := hrel
                have HS5 := Lib.hid hs
                have HB5 := Lib.hid hb
                clear hs hb HS HB4
                by_cases hj32 : j < 32
                · have c1 := HS5.out.cell j (by rw [flips_length, Cm.bitsOf_length]; exact hj32)
                  have f1 := HS5.out.frozen (off + j)
                  rw [flips_get j _ (by rw [Cm.bitsOf_length]; exact hj32)] at c1
                  have HF : Hid ((flips j (Cm.bitsOf r)).set j (!((Cm.bitsOf r).getD j false)) = flips (j + 1) (Cm.bitsOf r)) := flips_set j _ (by rw [Cm.bitsOf_length]; exact hj32)
                  generalize (Cm.bitsOf r).getD j false = x at *
                  have hj4 : (j : Int) < 32 := by omega
                  go_wp2_with fail
                  go_roundw
                  case rel =>
                    refine ⟨j + 1, by omega, by go_num, ?_, HB5.out.setCell (p := ⟨g', off + j, none⟩) (Nat.le_trans hwB hgb) _⟩
                    have h := HS5.out.set j (!x)
                    rw [HF.out] at h
                    exact h
                  case measure => simp [intOf]; omega
                · have hj32 : j = 32 := by omega
                  subst hj32
                  have h := HS5.out
                  rw [flips_bits] at h
                  have HZ := Lib.hid h.read
                  clear h
                  go_wp2_with fail
                  refine (bits_any (~~~ r) _ _ _ _ HZ.out).mono ?_
                  rintro e w4 ⟨rfl, rfl⟩
                  rw [HR.out]
                  go_wp2
                  go_ret
                  exact ⟨rfl, HB5.out⟩
end Go.Proofs.YthdmapjdfghgfaaDoor
