/-
  Walks of the document's runs: Cover, Right.
-/
import Derived.Test.YthdmapjdfghgfaaDoorCrcL
import Derived.Test.YthdmapjdfghgfaaDoorCrcF
namespace Go.Proofs.YthdmapjdfghgfaaDoor
open Go.RowKit
attribute [local go_sem] U_xor U_and U_not U_not' U_byte U_toNat U_nonneg

theorem U_mod_256 (s : BitVec 32) (k : Nat) : (U (s >>> (8 * k))).tmod 256 % (256 : Int) = B8 (by4 s k) := by
  rw [B8_by4, Int.tmod_eq_emod_of_nonneg (U_nonneg _), Int.emod_emod_of_dvd _ (Int.dvd_refl _)]
  unfold U
  rw [BitVec.toNat_ushiftRight, Nat.shiftRight_eq_div_pow]
  simp
theorem U_tdiv_256 (x : BitVec 32) : (U x).tdiv 256 % (4294967296 : Int) = U (x >>> 8) := by
  have h0 := U_nonneg x
  have h1 := U_lt x
  have e : U (x >>> 8) = U x / 256 := by
    unfold U; rw [BitVec.toNat_ushiftRight, Nat.shiftRight_eq_div_pow]; simp
  rw [Int.tdiv_eq_ediv_of_nonneg h0, e]
  omega
theorem le4_take (s : BitVec 32) (j : Nat) (hj : j < 4) : (le4 s).take (j + 1) = (le4 s).take j ++ [by4 s j] := by
  match j, hj with
  | 0, _ => rfl
  | 1, _ => rfl
  | 2, _ => rfl
  | 3, _ => rfl

theorem own_below {w w' : World} {e : TypeId} {size n base : Nat} {v : Value} {xs : List Value} (h : w.ownsRow base e size v n xs) (hb : Below w.heap.size w w') : w'.ownsRow base e size v n xs :=
  h.kept (row := none) ⟨hb.os, hb.tape, hb.output, hb.size, fun k hk _ => hb.block k hk⟩ (by by_cases h : v.ownBlock = none; exact .inl h; exact .inr h)

set_option maxRecDepth 100000 in
theorem refcover_any (A : Option Addr) (l : List UInt8) (n cap : Nat) (w : World) (hn : l.length = n) (hlen : n ≤ 1000) (hl : Bs w w.heap.size A l) :
    Calls Tryd.prog 21 #[.slice A n cap] w fun e w' => ∃ v, e = .returned v ∧ w'.ownsRow w.heap.size 5 1 v (n + 4) ((l ++ le4 (Cm.sum l)).map byteV) ∧ Below w.heap.size w w' := by
  obtain ⟨i0, hi0, hz0, hz1, hz2⟩ := info_parts info_u8
  have HL := Lib.hid hl
  have HN := Lib.hid hn
  have hlm : (l.map byteV).length = n := by rw [List.length_map]; exact hn
  have HLM := Lib.hid hlm
  clear hl hn hlm
  go_enter Tryd.func21, Tryd.ntmps21
  go_wp2_with (at_builtin; refine Lk.wpList_app _ rfl (.tmp 6) (.tmp 7) 22 rfl w.heap.size 5 i0 _ 1 1 Tryd.underlying22 hi0 hz0 hz1 hz2 rfl (by omega) (.slice none 0 0) 0 [] rfl (Lk.own_nil _ _ _) A n cap (l.map byteV) rfl (by rw [HLM.out]; omega) (Bs.src HL.out) (one_bytes l) (by unfold maxLen; omega) (by omega) (Nat.le_refl _) (fun v1 w2 hown1 hg1 hat1 => ?_))
  have hb2 : Below w.heap.size w w2 := (Below.refl _ _).grown hg1 (Nat.le_refl _) (fun k hk => by simp [Value.ownBlock] at hk)
  simp only [Nat.zero_add, List.nil_append] at hown1
  have HO := Lib.hid hown1
  have HB := Lib.hid hb2
  have hbs := hb2.size
  clear hown1 hb2 hg1 hat1
  refine (refsum_any A l n cap _ HN.out hlen ((HL.out.below HB.out).more hbs)).mono ?_
  rintro e w3 ⟨rfl, hb3⟩
  have HO3 := Lib.hid (own_below HO.out hb3)
  have HB3 := Lib.hid (HB.out.trans (hb3.mono hbs))
  clear hb3 HO HB
  obtain ⟨s, hs⟩ : ∃ s, s = Cm.sum l := ⟨_, rfl⟩
  rw [← hs]
  have HS := Lib.hid hs
  clear hs
  go_wp2_with fail
  go_loopw [3, 4, 5] (fun v x i wr => ∃ j : Nat, j ≤ 4 ∧ i = .int .i64 j ∧ x = .int .u32 (U (s >>> (8 * j))) ∧ wr.ownsRow w.heap.size 5 1 v (n + j) ((l ++ (le4 s).take j).map byteV) ∧ Below w.heap.size w wr) (fun _ _ i _ => 4 - (intOf i).toNat)
  case atStart => exact ⟨0, by omega, rfl, by simp, by simpa using HO3.out, HB3.out⟩
  case round =>
    obtain ⟨j, hj, rfl, rfl, hown, hb⟩ := hrel
    have HO := Lib.hid hown
    have HB := Lib.hid hb
    have hbs := hb.size
    clear hown hb HO3 HB3
    by_cases hj4 : j < 4
    · have hm := U_mod_256 s j
      have HT := Lib.hid (le4_take s j hj4)
      have hb8 := B8_lt (by4 s j)
      have hb0 := B8_nonneg (by4 s j)
      have HV : Hid (byteV (by4 s j) = .int .u8 (B8 (by4 s j))) := rfl
      generalize by4 s j = c at *
      go_wp2_with (at_builtin; refine Lk.wpList_app _ rfl (.tmp 15) (.tmp 19) 22 rfl w.heap.size 5 i0 _ 1 1 Tryd.underlying22 hi0 hz0 hz1 hz2 rfl (by omega) _ (n + j) _ rfl (HO.out.alloc _) (some ⟨wr.heap.size, 0, none⟩) 1 1 [.int .u8 (B8 c)] rfl rfl (Lk.Src.one (World.cell?_alloc_at _ _ _ _ rfl)) (by simp [Value.oneCell']) (by unfold maxLen; omega) (by omega) (by simp; omega) (fun v1 w2 hown1 hg1 hat1 => ?_))
      go_roundw
      case rel =>
        refine ⟨j + 1, by omega, by go_num, by rw [U_tdiv_256, ← BitVec.shiftRight_add]; rfl, ?_, ?_⟩
        · rw [HT.out, ← List.append_assoc, List.map_append]
          exact hown1
        · exact (HB.out.alloc hbs _).grown hg1 (by simp; omega) (fun g hg => (HO.out.lt g hg).1)
      case measure => simp [intOf]; omega
    · have hj4 : j = 4 := by omega
      subst hj4
      go_wp2_with fail
      go_ret
      refine ⟨_, rfl, ?_, HB.out⟩
      have h := HO.out
      rw [List.take_of_length_le (l := le4 s) (i := 4) (by simp [le4]), HS.out] at h
      exact h
theorem refright_short (A : Option Addr) (n cap : Nat) (w : World) (hlen : n < 4) :
    Calls Tryd.prog 23 #[.slice A n cap] w fun e w' => e = .returned (.bool false) ∧ Below w.heap.size w w' := by
  have hg : decide (0 ≤ (n : Int) - 4) = false := by simp; omega
  have hg2 : decide ((4 : Int) ≤ (n : Int)) = false := by simp; omega
  have hg3 : decide (4 ≤ n) = false := by simp; omega
  have hg' : (n : Int) < 4 := by omega
  go_enter Tryd.func23, Tryd.ntmps23
  go_wp2_with fail
  go_quiet (fail)
  go_wp2
  go_ret
  exact ⟨rfl, below_drewN (Below.refl _ _) _⟩

@[local go_sem] theorem Bs_drew (w : World) (B : Nat) (A : Option Addr) (l : List UInt8) : Bs w.drew B A l ↔ Bs w B A l := Iff.rfl

set_option maxRecDepth 100000 in
set_option maxHeartbeats 4000000 in
theorem refright_long (ad : Addr) (l : List UInt8) (m cap : Nat) (w : World) (hlen : l.length = m + 4) (hm : m ≤ 900) (hcap : m + 4 ≤ cap) (hl : Bs w w.heap.size (some ad) l) :
    Calls Tryd.prog 23 #[.slice (some ad) (m + 4) cap] w fun e w' => e = .returned (.bool (decide (le4 (Cm.sum (l.take m)) = l.drop m))) ∧ Below w.heap.size w w' := by
  have hcv : ∀ w', Bs w' w.heap.size (some ad) l → (convert 22 9 (.slice (some ad) (m + 4) cap)).run Tryd.prog w' = .ok (.string ⟨l.toArray⟩) w' := fun w' h =>
    conv_bytes Tryd.underlying22 Tryd.underlying5 Tryd.underlying9 w' _ (some ad) l (m + 4) cap hlen h
  have HN := Lib.hid hlen
  clear hlen
  have hne : ¬ cap = m := by omega
  have hlt : (m : Int) < cap := by omega
  have hle : (m : Int) ≤ cap := by omega
  have hm0 : (0 : Int) ≤ (m : Int) := by omega
  have hmc : m ≤ cap := by omega
  have hm4 : (m : Int) ≤ (m : Int) + 4 := by omega
  have hm4c : (m : Int) + 4 ≤ cap := by omega
  obtain ⟨x, hx⟩ : ∃ x, x = l.take m ++ le4 (Cm.sum (l.take m)) := ⟨_, rfl⟩
  have hr : (x == l) = decide (le4 (Cm.sum (l.take m)) = l.drop m) := by
    rw [Bool.eq_iff_iff]
    simp only [beq_iff_eq, decide_eq_true_eq]
    rw [hx]
    constructor
    · intro h
      have h2 : l.take m ++ le4 (Cm.sum (l.take m)) = l.take m ++ l.drop m := by rw [List.take_append_drop]; exact h
      exact List.append_cancel_left h2
    · intro h
      rw [h, List.take_append_drop]
  generalize decide (le4 (Cm.sum (l.take m)) = l.drop m) = r at *
  have hcov := refcover_any (some ad) (l.take m) m cap w.drew (by rw [List.length_take, HN.out]; omega) (by omega) (show Bs w _ _ _ from hl.take m (by rw [HN.out]; omega))
  rw [← hx] at hcov
  clear hx
  have HC := Lib.hid hcov
  clear hcov
  go_enter Tryd.func23, Tryd.ntmps23
  go_wp2_with fail
  go_region_with (first | (go_at_call 21; refine HC.out.mono ?_; rintro e w1 ⟨v, rfl, hown, hb1⟩; obtain ⟨hl2, A2, c2, rfl, _, _, hbs2⟩ := own_bs hown; clear hown; have hcv2 := fun w' h => conv_bytes Tryd.underlying22 Tryd.underlying5 Tryd.underlying9 w' w1.heap.size A2 _ (m + 4) c2 hl2 h; have hS : Bs w1 w.heap.size (some ad) l := (show Bs w.drew w.heap.size (some ad) l from hl).below hb1))
  all_goals
    have HBB : Below w.heap.size w w1 := ((Below.refl w.heap.size w).drew).trans hb1
    clear hcv hcv2 hS hbs2 hb1
    go_wp2
    go_ret
    exact ⟨rfl, HBB⟩
end Go.Proofs.YthdmapjdfghgfaaDoor
