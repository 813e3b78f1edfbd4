/-
  Walk of the document's product.
-/
import Derived.Test.YthdmapjdfghgfaaDoorCrcI
namespace Go.Proofs.YthdmapjdfghgfaaDoor
open Go.RowKit
attribute [local go_sem] U_xor U_and U_not U_not' U_byte U_toNat U_nonneg

def z63 : Array Value := Array.replicate 63 (.bool false)
theorem z63_row (w : World) : (w.alloc (.cells z63 4)).ownsRow w.heap.size 4 1 (.slice (some ⟨w.heap.size, 0, none⟩) 63 63) 63 ((List.replicate 63 false).map Value.bool) :=
  ⟨rfl, .inr ⟨w.heap.size, 63, z63, rfl, Nat.le_refl _, heap_alloc_new w _, Nat.le_refl _, by decide, rfl, rfl⟩⟩
/-- The 32 bits of a row, one by one. -/
def Bitcells (w : World) (g : Nat) (a : BitVec 32) : Prop := g < w.heap.size ∧ ∀ i, i < 32 → w.cell? ⟨g, i, none⟩ = some (.bool (a.getLsbD i))
theorem own_bitcells {w : World} {B g c : Nat} {a : BitVec 32} (h : w.ownsRow B 4 1 (.slice (some ⟨g, 0, none⟩) 32 c) 32 ((Cm.bitsOf a).map Value.bool)) : Bitcells w g a := by
  refine ⟨(h.lt g rfl).2, fun i hi => ?_⟩
  have hc := h.cellAt i (by omega)
  rw [List.getElem?_map, List.getElem?_eq_getElem (by rw [Cm.bitsOf_length]; exact hi)] at hc
  simp only [Option.map_some] at hc
  have e : (Cm.bitsOf a)[i]'(by rw [Cm.bitsOf_length]; exact hi) = a.getLsbD i := by
    have := Cm.bitsOf_get a i hi
    simpa [List.getD, Cm.bitsOf_length, hi] using this
  rw [e] at hc
  exact hc
theorem Bitcells.below {w w' : World} {g : Nat} {a : BitVec 32} (h : Bitcells w g a) (hb : Below w.heap.size w w') : Bitcells w' g a :=
  ⟨Nat.lt_of_lt_of_le h.1 hb.size, fun i hi => (hb.cell (p := ⟨g, i, none⟩) h.1).trans (h.2 i hi)⟩

theorem flip_times (L : List Bool) (hL : L.length = 63) (i k : Nat) (hi : i < 32) (hk : k < 32) (v b : BitVec 32) (hR : Cm.R 0#32 L = v ^^^ Cm.steps (31 - i) (Cm.PB k b)) (hy : b.getLsbD k = true) :
    Cm.R 0#32 (L.set (i + k) (!(L.getD (i + k) false))) = v ^^^ Cm.steps (31 - i) (Cm.PB (k + 1) b) := by
  have e : (!(L.getD (i + k) false)) = (L.getD (i + k) false ^^ true) := by cases L.getD (i + k) false <;> rfl
  rw [e, Cm.R_flip 0#32 L (i + k) (by omega), hR, Cm.PB, hy, Cm.steps_xor, ← BitVec.xor_assoc]
  congr 1
  show Cm.steps _ Cm.one = Cm.steps _ (Cm.steps _ Cm.one)
  rw [← Cm.steps_add, hL]
  congr 1
  omega

set_option maxRecDepth 100000 in
theorem reftimes_any (a b : BitVec 32) (w : World) : Calls Tryd.prog 17 #[.int .u32 (U a), .int .u32 (U b)] w fun e w' => e = .returned (.int .u32 (U (Cm.times a b))) ∧ Below w.heap.size w w' := by
  have hmk : ∀ w, (Instr.makeSlice 48 (.int .i64 63) (.int .i64 63)).run Tryd.prog w = .ok (.slice (some ⟨w.heap.size, 0, none⟩) 63 63) (w.alloc (.cells z63 4)) := fun _ => by kernel_rfl
  go_enter Tryd.func17, Tryd.ntmps17
  go_wp2_with fail
  refine (row_any a _).mono ?_
  rintro e w1 ⟨v1, rfl, hx, hb1⟩
  obtain ⟨gx, cx, rfl, hgx1, hgx2, hcx1, hcx2⟩ := own_form hx (by omega)
  have hX := own_bitcells hx
  clear hx
  go_wp2_with fail
  refine (row_any b _).mono ?_
  rintro e w2 ⟨v2, rfl, hy, hb2⟩
  obtain ⟨gy, cy, rfl, hgy1, hgy2, hcy1, hcy2⟩ := own_form hy (by omega)
  have HY := Lib.hid (own_bitcells hy)
  have HX := Lib.hid (hX.below hb2)
  have HB2 := Lib.hid (hb1.trans (hb2.mono hb1.size))
  clear hy hX hb1 hb2
  go_wp2_with fail
  have hY0 := HY.out.1
  have hX0 := HX.out.1
  go_loopw [8] (fun x wr => ∃ (i : Nat) (L : List Bool), i ≤ 32 ∧ x = .int .i64 i ∧ L.length = 63 ∧ wr.ownsRow w2.heap.size 4 1 (.slice (some ⟨w2.heap.size, 0, none⟩) 63 63) 63 (L.map Value.bool) ∧ Cm.R 0#32 L = Cm.PT i a b ∧ Below w2.heap.size w2 wr) (fun x _ => 32 - (intOf x).toNat)
  case atStart => exact ⟨0, List.replicate 63 false, by omega, rfl, rfl, z63_row w2, by rw [Cm.R_zeros, Cm.steps_zero]; rfl, (Below.refl _ _).alloc (Nat.le_refl _) _⟩
  case round =>
    obtain ⟨i, L, hi, rfl, hLn, hown, hR, hb⟩ := hrel
    have HLn := Lib.hid hLn
    have HO := Lib.hid hown
    have HR := Lib.hid hR
    have HB := Lib.hid hb
    clear hLn hown hR hb
    by_cases hlt : i < 32
    · have hcx := (HB.out.cell (p := ⟨gx, i, none⟩) hX0).trans (HX.out.2 i hlt)
      have HP : Hid (Cm.PT (i + 1) a b = Cm.PT i a b ^^^ Cm.bit (a.getLsbD i) (Cm.steps (31 - i) b)) := rfl
      have HA0 : ∃ ai, a.getLsbD i = ai := ⟨_, rfl⟩
      obtain ⟨ai, hai⟩ := HA0
      rw [hai] at hcx HP
      have HA := Lib.hid hai
      clear hai
      have hi32 : (i : Int) < 32 := by omega
      cases ai with
      | false =>
        go_wp2_with fail
        obtain ⟨wo, rfl⟩ : ∃ wo : World, wo = wr := ⟨_, rfl⟩
        go_loop [9] (fun x => ∃ k : Nat, k ≤ 32 ∧ x = .int .i64 k) (fun x => 32 - (intOf x).toNat)
        case atStart => exact ⟨0, by omega, rfl⟩
        case round =>
          obtain ⟨k, hk, rfl⟩ := hrel
          by_cases hk2 : k < 32
          · go_wp2_with fail
            go_round
            case rel => exact ⟨k + 1, by omega, by go_num⟩
            case measure => simp [intOf]; omega
          · have hk32 : k = 32 := by omega
            subst hk32
            go_wp2_with fail
            go_roundw
            case rel => exact ⟨i + 1, L, by omega, by go_num, HLn.out, HO.out, by rw [HP.out, HR.out]; simp [Cm.bit], HB.out⟩
            case measure => simp [intOf]; omega
      | true =>
        go_wp2_with fail
        obtain ⟨wo, rfl⟩ : ∃ wo : World, wo = wr := ⟨_, rfl⟩
        go_loopw [9] (fun x wr => ∃ (k : Nat) (L2 : List Bool), k ≤ 32 ∧ x = .int .i64 k ∧ L2.length = 63 ∧ wr.ownsRow w2.heap.size 4 1 (.slice (some ⟨w2.heap.size, 0, none⟩) 63 63) 63 (L2.map Value.bool) ∧ Cm.R 0#32 L2 = Cm.PT i a b ^^^ Cm.steps (31 - i) (Cm.PB k b) ∧ Below w2.heap.size w2 wr) (fun x _ => 32 - (intOf x).toNat)
        case atStart => exact ⟨0, L, by omega, rfl, HLn.out, HO.out, by rw [HR.out]; simp [Cm.PB, Cm.steps_zero], HB.out⟩
        case round =>
          obtain ⟨k, L2, hk, rfl, h2n, hown2, hR2, hb2⟩ := hrel
          have H2n := Lib.hid h2n
          have HO2 := Lib.hid hown2
          have HR2 := Lib.hid hR2
          have HB2' := Lib.hid hb2
          clear h2n hown2 hR2 hb2 hcx HLn HO HR HB
          have hcx := (HB2'.out.cell (p := ⟨gx, i, none⟩) hX0).trans (HX.out.2 i hlt)
          rw [HA.out] at hcx
          by_cases hk2 : k < 32
          · have hcy := (HB2'.out.cell (p := ⟨gy, k, none⟩) hY0).trans (HY.out.2 k hk2)
            have c1 := HO2.out.cellAt (i + k) (by omega)
            have f1 := HO2.out.frozenAt (i + k)
            rw [List.getElem?_map, List.getElem?_eq_getElem (by rw [H2n.out]; omega)] at c1
            simp only [Option.map_some] at c1
            have e1 : L2[i + k]'(by rw [H2n.out]; omega) = L2.getD (i + k) false := by simp [List.getD, H2n.out, show i + k < 63 by omega]
            rw [e1] at c1
            clear e1
            have HF : Hid (b.getLsbD k = true → Cm.R 0#32 (L2.set (i + k) (!(L2.getD (i + k) false))) = Cm.PT i a b ^^^ Cm.steps (31 - i) (Cm.PB (k + 1) b)) := flip_times L2 H2n.out i k hlt hk2 _ b HR2.out
            have HG : Hid (Cm.PB (k + 1) b = Cm.PB k b ^^^ Cm.bit (b.getLsbD k) (Cm.steps (31 - k) Cm.one)) := rfl
            generalize L2.getD (i + k) false = x at *
            generalize b.getLsbD k = y at *
            have hik : (i : Int) + (k : Int) < 63 := by omega
            have hk3 : (k : Int) < 32 := by omega
            cases y with
            | false =>
              go_wp2_with fail
              go_roundw
              case rel => exact ⟨k + 1, L2, by omega, by go_num, H2n.out, HO2.out, by rw [HG.out, HR2.out]; simp [Cm.bit], HB2'.out⟩
              case measure => simp [intOf]; omega
            | true =>
              go_wp2_with fail
              go_roundw
              case rel =>
                refine ⟨k + 1, L2.set (i + k) (!x), by omega, by go_num, by rw [List.length_set]; exact H2n.out, ?_, HF.out rfl, ?_⟩
                · have h := (HO2.out.stored (i + k) (.bool (!x))).1
                  rw [← List.map_set] at h
                  exact h
                · exact HB2'.out.setCell (p := ⟨w2.heap.size, i + k, none⟩) (Nat.le_refl _) _
              case measure => simp [intOf]; omega
          · have hk32 : k = 32 := by omega
            subst hk32
            go_wp2_with fail
            go_roundw
            case rel => exact ⟨i + 1, L2, by omega, by go_num, H2n.out, HO2.out, by rw [HP.out, HR2.out, Cm.PB_32]; simp [Cm.bit], HB2'.out⟩
            case measure => simp [intOf]; omega
    · have h32 : i = 32 := by omega
      subst h32
      have HT : Hid (Cm.R 0#32 L = Cm.times a b) := HR.out.trans (Cm.PT_times a b)
      go_wp2_with fail
      obtain ⟨_, A, c, he, _, _, hOs⟩ := own_os HO.out
      simp only [Value.slice.injEq, true_and] at he
      obtain ⟨rfl, rfl⟩ := he
      refine (left_any _ L 63 63 _ HLn.out (by omega) (by omega) hOs).mono ?_
      rintro e w3 ⟨g, off, c', rfl, hs, hb3⟩
      have HS := Lib.hid hs
      have HB3 := Lib.hid ((HB2.out.trans (HB.out.mono HB2.out.size)).trans (hb3.mono (Nat.le_trans HB2.out.size HB.out.size)))
      clear hs hb3 hOs
      go_wp2_with fail
      refine (bits_any (Cm.R 0#32 L) _ _ _ _ HS.out.read).mono ?_
      rintro e w4 ⟨rfl, rfl⟩
      rw [HT.out]
      go_wp2
      go_ret
      exact ⟨rfl, HB3.out⟩
end Go.Proofs.YthdmapjdfghgfaaDoor
