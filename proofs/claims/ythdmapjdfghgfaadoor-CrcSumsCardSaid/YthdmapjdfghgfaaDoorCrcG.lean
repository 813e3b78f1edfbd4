/-
  Walks of the document's answer for sums: Row, Bits, modulus.
-/
import Derived.Test.YthdmapjdfghgfaaDoorCrcF
import Derived.Test.YthdmapjdfghgfaaDoorCrcRefMath
import Derived.Deep.DeepCutAuto
namespace Go.Proofs.YthdmapjdfghgfaaDoor
open Go.RowKit
attribute [local go_sem] U_xor U_and U_not U_not' U_byte U_toNat U_nonneg

theorem info_bool : (Tryd.prog.info? 4).map (fun i => (i.zero, i.size, i.bytes)) = some (some (.bool false), 1, 1) := by kernel_rfl
theorem one_bools (l : List Bool) : ∀ u ∈ l.map Value.bool, u.oneCell' = true := by
  intro u hu
  obtain ⟨c, _, rfl⟩ := List.mem_map.1 hu
  rfl
theorem U_mod_2 (x : BitVec 32) (k : Nat) : (U (x >>> k) % (2 : Int) == 1) = x.getLsbD k := by
  have h : U (x >>> k) % (2 : Int) = if x.getLsbD k then 1 else 0 := by
    unfold U
    have h1 : (x >>> k).getLsbD 0 = x.getLsbD k := by simp
    rw [← h1, BitVec.getLsbD, Nat.testBit_zero]
    generalize (x >>> k).toNat = n
    by_cases hn : n % 2 = 1
    · simp [hn]; omega
    · simp [hn]; omega
  rw [h]
  cases x.getLsbD k <;> rfl

theorem U_tdiv_2 (x : BitVec 32) : (U x).tdiv 2 % (4294967296 : Int) = U (x >>> 1) := by
  have h0 := U_nonneg x
  have h1 := U_lt x
  rw [Int.tdiv_eq_ediv_of_nonneg h0, ← U_shr_1]
  omega

set_option maxRecDepth 100000 in
theorem row_any (a : BitVec 32) (w : World) : Calls Tryd.prog 26 #[.int .u32 (U a)] w fun e w' => ∃ v, e = .returned v ∧ w'.ownsRow w.heap.size 4 1 v 32 ((Cm.bitsOf a).map Value.bool) ∧ Below w.heap.size w w' := by
  obtain ⟨i0, hi0, hz0, hz1, hz2⟩ := info_parts info_bool
  go_enter Tryd.func26, Tryd.ntmps26
  go_wp2
  go_loopw [0, 3, 4] (fun x v i wr => ∃ k : Nat, k ≤ 32 ∧ i = .int .i64 k ∧ x = .int .u32 (U (a >>> k)) ∧ wr.ownsRow w.heap.size 4 1 v k (((Cm.bitsOf a).take k).map Value.bool) ∧ Below w.heap.size w wr) (fun _ _ i _ => 32 - (intOf i).toNat)
  case atStart => exact ⟨0, by omega, rfl, by simp, Lk.own_nil _ _ _, Below.refl _ _⟩
  case round =>
    obtain ⟨k, hk, rfl, rfl, hown, hb⟩ := hrel
    have HO := Lib.hid hown
    have HB := Lib.hid hb
    have hbs := HB.out.size
    clear hown hb
    by_cases hlt : k < 32
    · have hm := U_mod_2 a k
      have hu0 := U_nonneg (a >>> k)
      have hx : (Cm.bitsOf a).take (k + 1) = (Cm.bitsOf a).take k ++ [a.getLsbD k] := by
        rw [List.take_succ_eq_append_getElem (by rw [Cm.bitsOf_length]; exact hlt)]
        congr 2
        have := Cm.bitsOf_get a k hlt
        simpa [List.getD, Cm.bitsOf_length, hlt] using this
      have HX := Lib.hid hx
      clear hx
      generalize a.getLsbD k = c at *
      go_wp2_with (at_builtin; refine Lk.wpList_app _ rfl (.tmp 9) (.tmp 13) 48 rfl w.heap.size 4 i0 _ 1 1 Tryd.underlying48 hi0 hz0 hz1 hz2 rfl (by omega) _ k _ rfl (HO.out.alloc _) (some ⟨wr.heap.size, 0, none⟩) 1 1 [.bool c] rfl rfl (Lk.Src.one (World.cell?_alloc_at _ _ _ _ rfl)) (by simp [Value.oneCell']) (by unfold maxLen; omega) (by omega) (by simp; omega) (fun v1 w2 hown1 hg1 hat1 => ?_))
      go_roundw
      case rel =>
        refine ⟨k + 1, by omega, by go_num, by rw [U_tdiv_2, BitVec.shiftRight_add], ?_, ?_⟩
        · rw [HX.out, List.map_append]
          exact hown1
        · exact (HB.out.alloc hbs _).grown hg1 (by simp; omega) (fun g hg => (HO.out.lt g hg).1)
      case measure => simp [intOf]; omega
    · have hk32 : k = 32 := by omega
      subst hk32
      go_wp2
      go_ret
      exact ⟨_, rfl, by have h := HO.out; rw [List.take_of_length_le (by rw [Cm.bitsOf_length]; omega)] at h; exact h, HB.out⟩

/-- A slice of bools reads as a list. -/
def Bools (w : World) (B : Nat) (A : Option Addr) (l : List Bool) : Prop := Rd w B A l.length (fun k => .bool (l.getD k false))
theorem own_os {w : World} {base n : Nat} {v : Value} {l : List Bool} (h : w.ownsRow base 4 1 v n (l.map Value.bool)) : l.length = n ∧ ∃ A c, v = .slice A n c ∧ n ≤ c ∧ c ≤ maxLen ∧ Bools w w.heap.size A l := by
  have hl : l.length = n := by have := h.1; simpa using this
  refine ⟨hl, ?_⟩
  have h2 := h
  rcases h.2 with ⟨rfl, rfl⟩ | ⟨g, cap, cur, rfl, hg, hh, hnc, hcm, hsz, htk⟩
  · have : l = [] := List.eq_nil_of_length_eq_zero hl
    subst this
    exact ⟨none, 0, rfl, Nat.le_refl _, Nat.zero_le _, Rd.nil⟩
  · refine ⟨some ⟨g, 0, none⟩, cap, rfl, hnc, hcm, ?_⟩
    intro k hk
    have hc := h2.cells (g := g) rfl k (.bool (l.getD k false)) (by
      rw [List.getElem?_map]
      simp [List.getD, hk])
    refine ⟨⟨g, 0, none⟩, rfl, ?_, hc⟩
    have := World.block_lt_of_cell? w _ hc
    rw [add_block] at this
    exact this
theorem half_down (n j : Nat) (hj : j < 32) : n / 2 ^ (32 - j) = n / 2 ^ (31 - j) / 2 := by
  rw [Nat.div_div_eq_div_mul, ← Nat.pow_succ]
  congr 2
  omega
theorem bit_down (x : BitVec 32) (k : Nat) : x.getLsbD k = decide (x.toNat / 2 ^ k % 2 = 1) := by
  rw [BitVec.getLsbD, Nat.testBit_eq_decide_div_mod_eq]

set_option maxRecDepth 100000 in
theorem bits_any (x : BitVec 32) (A : Option Addr) (cap B : Nat) (w : World) (hl : Bools w B A (Cm.bitsOf x)) :
    Calls Tryd.prog 27 #[.slice A 32 cap] w fun e w' => e = .returned (.int .u32 (U x)) ∧ w = w' := by
  have HL := Lib.hid hl
  clear hl
  obtain ⟨n, hn⟩ : ∃ n, n = x.toNat := ⟨_, rfl⟩
  have hn32 : n < 4294967296 := by rw [hn]; exact x.isLt
  have HN := Lib.hid hn
  clear hn
  go_enter Tryd.func27, Tryd.ntmps27
  go_wp2
  go_loop [3, 4] (fun a i => ∃ j : Nat, j ≤ 32 ∧ i = .int .i64 (31 - (j : Int)) ∧ a = .int .u32 ((n / 2 ^ (32 - j) : Nat) : Int)) (fun _ i => (intOf i + 1).toNat)
  case atStart => exact ⟨0, by omega, rfl, by rw [Nat.div_eq_of_lt (by omega)]; rfl⟩
  case round =>
    obtain ⟨j, hj, rfl, rfl⟩ := hrel
    by_cases hlt : j < 32
    · have hd := half_down n j hlt
      obtain ⟨ad, rfl, _, hc⟩ := HL.out (31 - j) (by rw [Cm.bitsOf_length]; omega)
      have hb : (Cm.bitsOf x).getD (31 - j) false = decide (n / 2 ^ (31 - j) % 2 = 1) := by
        rw [Cm.bitsOf_get x _ (by omega), bit_down, HN.out]
      have hp : n / 2 ^ (31 - j) ≤ n := Nat.div_le_self _ _
      rw [hd]
      simp only [hb] at hc
      clear hd hb
      have HP : Hid (n / 2 ^ (32 - (j + 1)) = n / 2 ^ (31 - j)) := by show _ = _; congr 2; omega
      generalize n / 2 ^ (31 - j) = p at *
      have e31 : ((31 : Int) - (j : Int)).toNat = 31 - j := by omega
      have hj0 : (0 : Int) ≤ 31 - (j : Int) := by omega
      have hj1 : (31 : Int) - (j : Int) < 32 := by omega
      by_cases hodd : p % 2 = 1
      · rw [decide_eq_true hodd] at hc
        have HO := Lib.hid hodd
        clear hodd
        go_wp2
        go_round
        case rel =>
          have hodd := HO.out
          refine ⟨j + 1, by omega, ?_, ?_⟩
          · congr 1; omega
          · rw [HP.out]; congr 1; omega
        case measure => simp [intOf]; omega
      · rw [decide_eq_false hodd] at hc
        have HO := Lib.hid hodd
        clear hodd
        go_wp2
        go_round
        case rel =>
          have hodd := HO.out
          refine ⟨j + 1, by omega, ?_, ?_⟩
          · congr 1; omega
          · rw [HP.out]; congr 1; omega
        case measure => simp [intOf]; omega
    · have h32 : j = 32 := by omega
      subst h32
      go_wp2
      go_ret
      refine ⟨?_, rfl⟩
      have := HN.out
      subst this
      simp [U]
end Go.Proofs.YthdmapjdfghgfaaDoor
