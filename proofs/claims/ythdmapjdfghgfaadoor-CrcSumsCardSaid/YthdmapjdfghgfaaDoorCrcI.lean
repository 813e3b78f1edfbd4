/-
  Walk of the document's answer for sums: left.
-/
import Derived.Test.YthdmapjdfghgfaaDoorCrcH
namespace Go.Proofs.YthdmapjdfghgfaaDoor
open Go.RowKit
attribute [local go_sem] U_xor U_and U_not U_not' U_byte U_toNat U_nonneg

/-- A piece of a row of bools of the call's own. -/
def Seg (w : World) (base g off : Nat) (l : List Bool) : Prop := ∃ cur : Array Value, w.heap[g]? = some (.cells cur 4 (0, 0)) ∧ base ≤ g ∧ ∀ k, k < l.length → cur[off + k]? = some (.bool (l.getD k false))
theorem Seg.lt {w : World} {base g off : Nat} {l : List Bool} (h : Seg w base g off l) : g < w.heap.size := by
  obtain ⟨cur, hh, _⟩ := h
  rcases Nat.lt_or_ge g w.heap.size with h' | h'
  · exact h'
  · rw [Array.getElem?_eq_none h'] at hh; cases hh
theorem Seg.cell {w : World} {base g off : Nat} {l : List Bool} (h : Seg w base g off l) (k : Nat) (hk : k < l.length) : w.cell? ⟨g, off + k, none⟩ = some (.bool (l.getD k false)) := by
  obtain ⟨cur, hh, _, hc⟩ := h
  rw [cell_of_row w g _ cur _ _ hh]
  exact hc k hk
theorem Seg.frozen {w : World} {base g off : Nat} {l : List Bool} (h : Seg w base g off l) (k : Nat) : w.frozen? ⟨g, k, none⟩ = false := by
  obtain ⟨cur, hh, _⟩ := h
  exact frozen_of_row w g k cur _ hh
theorem Seg.read {w : World} {base g off : Nat} {l : List Bool} (h : Seg w base g off l) : Bools w w.heap.size (some ⟨g, off, none⟩) l := by
  intro k hk
  refine ⟨_, rfl, h.lt, ?_⟩
  have e : Addr.add ⟨g, off, none⟩ k = ⟨g, off + k, none⟩ := by
    unfold Addr.add
    split
    · rename_i h0; rw [h0]; rfl
    · rfl
  rw [e]
  exact h.cell k hk
theorem Seg.set {w : World} {base g off : Nat} {l : List Bool} (h : Seg w base g off l) (k : Nat) (b : Bool) : Seg (w.setCell ⟨g, off + k, none⟩ (.bool b)) base g off (l.set k b) := by
  obtain ⟨cur, hh, hb, hc⟩ := h
  refine ⟨cur.setIfInBounds (off + k) (.bool b), heap_setCell_same w g (off + k) cur _ _ hh, hb, ?_⟩
  intro j hj
  rw [List.length_set] at hj
  rw [Array.getElem?_setIfInBounds]
  have h1 := hc j hj
  have hlt : off + j < cur.size := by
    rcases Nat.lt_or_ge (off + j) cur.size with h' | h'
    · exact h'
    · rw [Array.getElem?_eq_none h'] at h1; cases h1
  by_cases e : k = j
  · subst e
    simp [hlt, List.getD, hj]
  · rw [if_neg (by omega), h1]
    simp [List.getD, e]
theorem Seg.of_own {w : World} {base g n c off : Nat} {l : List Bool} (h : w.ownsRow base 4 1 (.slice (some ⟨g, 0, none⟩) n c) n (l.map Value.bool)) : Seg w base g off (l.drop off) := by
  have hl : l.length = n := by have := h.1; simpa using this
  rcases h.2 with ⟨h1, _⟩ | ⟨g', cap, cur, h1, hg, hh, hnc, hcm, hsz, htk⟩
  · cases h1
  · simp only [Value.slice.injEq, Option.some.injEq, Addr.mk.injEq, and_true, true_and] at h1
    obtain ⟨rfl, rfl⟩ := h1
    refine ⟨cur, hh, hg, ?_⟩
    intro k hk
    rw [List.length_drop] at hk
    have e : (cur.toList.take (n * 1))[off + k]? = (l.map Value.bool)[off + k]? := by rw [htk]
    rw [List.getElem?_take, if_pos (by omega)] at e
    have e2 : cur[off + k]? = cur.toList[off + k]? := by simp
    rw [e2, e, List.getElem?_map]
    have hlt : off + k < l.length := by omega
    simp [List.getD, hlt]

theorem R_inner (t : List Bool) (k : Nat) (hk : k < 32) (ht : 32 ≤ t.length) (v : BitVec 32)
    (h : Cm.R 0#32 t = v ^^^ Cm.steps (t.length - 32) (Cm.PB k Cm.M)) :
    Cm.R 0#32 (t.set k (t.getD k false ^^ Cm.M.getLsbD k)) = v ^^^ Cm.steps (t.length - 32) (Cm.PB (k + 1) Cm.M) := by
  rw [Cm.R_flip 0#32 t k (by omega), h, Cm.PB, Cm.steps_xor, ← BitVec.xor_assoc]
  congr 1
  rw [Cm.steps_bit, ← Cm.steps_add]
  congr 2
  omega
theorem R_true (t : List Bool) (ht : 32 ≤ t.length) : Cm.R 0#32 (true :: t) = Cm.R 0#32 t ^^^ Cm.steps (t.length - 32) (Cm.PB 32 Cm.M) := by
  rw [Cm.PB_32, Cm.R_cons, Cm.R_start, Cm.step_zero, BitVec.zero_xor, BitVec.xor_comm]
  congr 1
  show Cm.steps t.length Cm.one = _
  rw [← Cm.M_steps, ← Cm.steps_add]
  congr 1
  omega
theorem R_false (t : List Bool) : Cm.R 0#32 (false :: t) = Cm.R 0#32 t := by
  rw [Cm.R_cons, Cm.step_zero]; rfl
theorem drop_cons (l : List Bool) (i : Nat) (hi : i < l.length) : l.drop i = l.getD i false :: l.drop (i + 1) := by
  rw [List.drop_eq_getElem_cons hi]; simp [List.getD, hi]

theorem Bools.src {w : World} {B : Nat} {A : Option Addr} {l : List Bool} (h : Bools w B A l) : Lk.Src w A (l.map Value.bool) := by
  intro k u hu
  rw [List.getElem?_map] at hu
  cases hl : l[k]? with
  | none => rw [hl] at hu; cases hu
  | some c =>
    rw [hl] at hu
    have hk : k < l.length := by
      rcases Nat.lt_or_ge k l.length with h' | h'
      · exact h'
      · rw [List.getElem?_eq_none h'] at hl; cases hl
    obtain ⟨ad, he, _, hc⟩ := h k hk
    refine ⟨ad, he, ?_⟩
    have e : l.getD k false = c := by simp [List.getD, hl]
    have hc' : w.cell? (ad.add k) = some (.bool (l.getD k false)) := hc
    rw [hc', e]
    simpa using hu

set_option maxRecDepth 100000 in
theorem left_any (A : Option Addr) (l : List Bool) (n cap : Nat) (w : World) (hn : l.length = n) (h32 : 32 ≤ n) (hn2 : n ≤ 1000000) (hl : Bools w w.heap.size A l) :
    Calls Tryd.prog 28 #[.slice A n cap] w fun e w' => ∃ g off c, e = .returned (.slice (some ⟨g, off, none⟩) 32 c) ∧ Seg w' w.heap.size g off (Cm.bitsOf (Cm.R 0#32 l)) ∧ Below w.heap.size w w' := by
  obtain ⟨i0, hi0, hz0, hz1, hz2⟩ := info_parts info_bool
  have HN := Lib.hid hn
  have HL := Lib.hid hl
  clear hn hl
  go_enter Tryd.func28, Tryd.ntmps28
  go_wp2_with fail
  refine (modulus_any _).mono ?_
  rintro e w1 ⟨vm, rfl, hm, hb1⟩
  obtain ⟨gm, cm, rfl, hgm1, hgm2, hcm1, hcm2⟩ := own_form hm (by omega)
  have HM := Lib.hid hm
  have HB1 := Lib.hid hb1
  have hb1s := hb1.size
  have HS := Lib.hid (Bools.src (HL.out.below hb1))
  clear hm hb1
  have hlm : (l.map Value.bool).length = n := by rw [List.length_map]; exact HN.out
  have HLM := Lib.hid hlm
  clear hlm
  go_wp2_with (at_builtin; refine Lk.wpList_app _ rfl (.tmp 8) (.tmp 9) 48 rfl w.heap.size 4 i0 _ 1 1 Tryd.underlying48 hi0 hz0 hz1 hz2 rfl (by omega) (.slice none 0 0) 0 [] rfl (Lk.own_nil _ _ _) A n cap (l.map Value.bool) rfl (by rw [HLM.out]; omega) HS.out (one_bools l) (by unfold maxLen; omega) (by omega) hb1s (fun v1 w2 hown1 hg1 hat1 => ?_))
  obtain ⟨g, c, rfl, hg1', hg2, hc1, hc2⟩ := own_form hown1 (by omega)
  have hne : g ≠ gm := by
    rcases hat1 with h | h
    · cases h
    · have h' : g = w1.heap.size := by simpa [Value.ownBlock] using h
      omega
  have hne' : gm ≠ g := fun e => hne e.symm
  have hm2 := HM.out.kept hg1 (.inr (by simp [Value.ownBlock]))
  have hb2 : Below w.heap.size w w2 := HB1.out.grown hg1 hb1s (fun k hk => by simp [Value.ownBlock] at hk)
  simp only [Nat.zero_add, List.nil_append] at hown1 hc1
  have HO1 := Lib.hid hown1
  have HM2 := Lib.hid hm2
  have HB2 := Lib.hid hb2
  clear hown1 hm2 hb2 HM HB1 HS HLM hg1 hat1 hne hgm2 hg2
  have h32i : ¬ (n : Int) < 32 := by omega
  have hnn : ((0 + n : Nat) : Int) = (n : Int) := by omega
  rw [Nat.zero_add]
  go_wp2_with fail
  refine wp_loop_rounds 1 ?_
  rw [rounds_succ]
  go_wp2_with fail
  go_loopw [5] (fun x wr => ∃ (i : Nat) (Lc : List Bool), i + 32 ≤ n ∧ x = .int .i64 i ∧ Lc.length = n ∧ wr.ownsRow w.heap.size 4 1 (.slice (some ⟨g, 0, none⟩) n c) n (Lc.map Value.bool) ∧ Cm.R 0#32 (Lc.drop i) = Cm.R 0#32 l ∧
      wr.ownsRow w.heap.size 4 1 (.slice (some ⟨gm, 0, none⟩) 32 cm) 32 ((Cm.bitsOf Cm.M).map Value.bool) ∧ Below w.heap.size w wr) (fun x _ => n - (intOf x).toNat)
  case atStart => exact ⟨0, l, by omega, rfl, HN.out, HO1.out, rfl, HM2.out, HB2.out⟩
  case round =>
    obtain ⟨i, Lc, hi, rfl, hLn, hown, hR, hm, hb⟩ := hrel
    have HLn := Lib.hid hLn
    have HO := Lib.hid hown
    have HR := Lib.hid hR
    have HM := Lib.hid hm
    have HB := Lib.hid hb
    clear hLn hown hR hm hb HO1 HM2 HB2 HL hnn h32i
    by_cases hlt : i + 32 < n
    · have hc0 := HO.out.cellAt i (by omega)
      rw [List.getElem?_map, List.getElem?_eq_getElem (by rw [HLn.out]; omega)] at hc0
      simp only [Option.map_some] at hc0
      have hce : Lc[i]'(by rw [HLn.out]; omega) = Lc.getD i false := by simp [List.getD, HLn.out, show i < n by omega]
      rw [hce] at hc0
      have HD := Lib.hid (drop_cons Lc i (by rw [HLn.out]; omega))
      clear hce
      have hin : (i : Int) < (n : Int) := by omega
      have hi32 : (i : Int) + 32 < (n : Int) := by omega
      cases hbit : Lc.getD i false with
      | false =>
        rw [hbit] at hc0
        have HF := Lib.hid hbit
        clear hbit
        go_wp2_with fail
        go_roundw
        case rel =>
          refine ⟨i + 1, Lc, by omega, by go_num, HLn.out, HO.out, ?_, HM.out, HB.out⟩
          have h := HR.out
          rw [HD.out, HF.out, R_false] at h
          exact h
        case measure => simp [intOf]; omega
      | true =>
        rw [hbit] at hc0
        have HF := Lib.hid hbit
        clear hbit
        go_wp2_with fail
        obtain ⟨wo, rfl⟩ : ∃ wo : World, wo = wr := ⟨_, rfl⟩
        go_loopw [6] (fun x wr => ∃ (k : Nat) (L2 : List Bool), k ≤ 32 ∧ x = .int .i64 k ∧ L2.length = n ∧ wr.ownsRow w.heap.size 4 1 (.slice (some ⟨g, 0, none⟩) n c) n (L2.map Value.bool) ∧
            Cm.R 0#32 (L2.drop (i + 1)) = Cm.R 0#32 (Lc.drop (i + 1)) ^^^ Cm.steps (n - (i + 1) - 32) (Cm.PB k Cm.M) ∧
            wr.ownsRow w.heap.size 4 1 (.slice (some ⟨gm, 0, none⟩) 32 cm) 32 ((Cm.bitsOf Cm.M).map Value.bool) ∧ Below w.heap.size w wr) (fun x _ => 32 - (intOf x).toNat)
        case atStart => exact ⟨0, Lc, by omega, rfl, HLn.out, HO.out, by simp [Cm.PB, Cm.steps_zero], HM.out, HB.out⟩
        case round =>
          obtain ⟨k, L2, hk, rfl, h2n, hown2, hR2, hm2, hb2⟩ := hrel
          have H2n := Lib.hid h2n
          have HO2 := Lib.hid hown2
          have HR2 := Lib.hid hR2
          have HM2 := Lib.hid hm2
          have HB2 := Lib.hid hb2
          clear h2n hown2 hR2 hm2 hb2 hc0
          by_cases hk2 : k < 32
          · have c1 := HO2.out.cellAt (i + 1 + k) (by omega)
            have f1 := HO2.out.frozenAt (i + 1 + k)
            have c2 := HM2.out.cellAt k (by omega)
            rw [List.getElem?_map, List.getElem?_eq_getElem (by rw [H2n.out]; omega)] at c1
            rw [List.getElem?_map, List.getElem?_eq_getElem (by rw [Cm.bitsOf_length]; exact hk2)] at c2
            simp only [Option.map_some] at c1 c2
            have e1 : L2[i + 1 + k]'(by rw [H2n.out]; omega) = (L2.drop (i + 1)).getD k false := by simp [List.getD, List.getElem?_drop, H2n.out, show i + 1 + k < n by omega]
            have e2 : (Cm.bitsOf Cm.M)[k]'(by rw [Cm.bitsOf_length]; exact hk2) = Cm.M.getLsbD k := by
              have := Cm.bitsOf_get Cm.M k hk2
              simpa [List.getD, Cm.bitsOf_length, hk2] using this
            rw [e1] at c1
            rw [e2] at c2
            clear e1 e2
            have HX : Hid (Cm.R 0#32 ((L2.drop (i + 1)).set k ((L2.drop (i + 1)).getD k false ^^ Cm.M.getLsbD k)) = Cm.R 0#32 (Lc.drop (i + 1)) ^^^ Cm.steps (n - (i + 1) - 32) (Cm.PB (k + 1) Cm.M)) := by
              have hl : (L2.drop (i + 1)).length = n - (i + 1) := by rw [List.length_drop, H2n.out]
              have h := R_inner (L2.drop (i + 1)) k hk2 (by rw [hl]; omega) (Cm.R 0#32 (Lc.drop (i + 1))) (by rw [hl]; exact HR2.out)
              rw [hl] at h
              exact h
            have hik : (i : Int) + 1 + (k : Int) < (n : Int) := by omega
            have hik0 : (0 : Int) ≤ (i : Int) + 1 + (k : Int) := by omega
            have hk3 : (k : Int) < 32 := by omega
            generalize hx : (L2.drop (i + 1)).getD k false = x at *
            generalize hy : Cm.M.getLsbD k = y at *
            clear hx hy
            go_wp2_with fail
            go_region
            go_wp2_with fail
            go_roundw
            case rel =>
              have e : (!(x == y)) = (x ^^ y) := by cases x <;> cases y <;> rfl
              rw [e]
              refine ⟨k + 1, L2.set (i + 1 + k) (x ^^ y), by omega, by go_num, by rw [List.length_set]; exact H2n.out, ?_, ?_, ?_, ?_⟩
              · have h := (HO2.out.stored (i + 1 + k) (.bool (x ^^ y))).1
                rw [← List.map_set] at h
                exact h.drew
              · have h := HX.out
                rw [List.drop_set, if_neg (by omega), show i + 1 + k - (i + 1) = k by omega]
                exact h
              · exact (Lk.own_far HM2.out hne' _).drew
              · exact (HB2.out.setCell (p := ⟨g, i + 1 + k, none⟩) hg1' _).drew
            case measure => simp [intOf]; omega
          · have hk32 : k = 32 := by omega
            subst hk32
            go_wp2_with fail
            go_roundw
            case rel =>
              refine ⟨i + 1, L2, by omega, by go_num, H2n.out, HO2.out, ?_, HM2.out, HB2.out⟩
              have hl : (Lc.drop (i + 1)).length = n - (i + 1) := by rw [List.length_drop, HLn.out]
              have h := HR.out
              rw [HD.out, HF.out, R_true _ (by rw [hl]; omega), hl] at h
              rw [HR2.out]
              exact h
            case measure => simp [intOf]; omega
    · have hin : n = i + 32 := by omega
      subst hin
      go_wp2_with fail
      go_ret
      refine ⟨g, i, c - i, rfl, ?_, HB.out⟩
      have h := Seg.of_own (off := i) HO.out
      have hl : (Lc.drop i).length = 32 := by rw [List.length_drop, HLn.out]; omega
      rw [Cm.R_32 _ hl, HR.out] at h
      exact h
end Go.Proofs.YthdmapjdfghgfaaDoor
