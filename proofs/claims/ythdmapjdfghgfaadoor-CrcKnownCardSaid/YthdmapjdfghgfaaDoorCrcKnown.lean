/-
  The walk of the law CrcKnown.
-/
import Derived.Test.YthdmapjdfghgfaaDoorCrcF
import Derived.Deep.DeepCutAuto
namespace Go.Proofs.YthdmapjdfghgfaaDoor
open Go.RowKit
attribute [local go_sem] U_xor U_and U_and_1 U_and_15 U_and_M U_not U_not' U_xor_shr U_shr_1 U_shr_4 U_shr_31 U_shl_1 U_neg U_byte U_toNat U_nonneg

def zeros32 : Array Value := Array.replicate 32 (.int .u8 0)
def Z32 : List Value := (List.replicate 32 (0 : UInt8)).map byteV
theorem three_rows (w : World) : let W := ((w.alloc (.cells zeros32 5)).alloc (.cells zeros32 5)).alloc (.cells zeros32 5)
    W.ownsRow w.heap.size 5 1 (.slice (some ⟨w.heap.size, 0, none⟩) 32 32) 32 Z32 ∧ W.ownsRow w.heap.size 5 1 (.slice (some ⟨w.heap.size + 1, 0, none⟩) 32 32) 32 Z32 ∧
      W.ownsRow w.heap.size 5 1 (.slice (some ⟨w.heap.size + 2, 0, none⟩) 32 32) 32 Z32 ∧ Below w.heap.size w W := by
  intro W
  have new : ∀ (v : World) (n : Nat), n = v.heap.size → w.heap.size ≤ n → (v.alloc (.cells zeros32 5)).ownsRow w.heap.size 5 1 (.slice (some ⟨n, 0, none⟩) 32 32) 32 Z32 := by
    intro v n hn hb
    subst hn
    exact ⟨rfl, .inr ⟨v.heap.size, 32, zeros32, rfl, hb, heap_alloc_new v _, Nat.le_refl _, by decide, rfl, rfl⟩⟩
  refine ⟨((new w _ rfl (Nat.le_refl _)).alloc _).alloc _, (new _ _ (by simp) (by omega)).alloc _, new _ _ (by simp) (by omega), ?_⟩
  exact (((Below.refl _ _).alloc (Nat.le_refl _) _).alloc (by simp) _).alloc (by simp; omega) _

def full (k : Nat) : List UInt8 := (List.range 32).map fun j => if j < k then 255 else 0
def up (k : Nat) : List UInt8 := (List.range 32).map fun j => if j < k then UInt8.ofNat j else 0
def down (k : Nat) : List UInt8 := (List.range 32).map fun j => if j < k then UInt8.ofNat (31 - j) else 0
theorem full_length (k : Nat) : (full k).length = 32 := by simp [full]
theorem up_length (k : Nat) : (up k).length = 32 := by simp [up]
theorem down_length (k : Nat) : (down k).length = 32 := by simp [down]
theorem full_set (k : Nat) (hk : k < 32) : (full k).set k 255 = full (k + 1) := by
  have h : ∀ j : Fin 32, (full j.1).set j.1 255 = full (j.1 + 1) := by decide +kernel
  exact h ⟨k, hk⟩
theorem up_set (k : Nat) (hk : k < 32) : (up k).set k (UInt8.ofNat k) = up (k + 1) := by
  have h : ∀ j : Fin 32, (up j.1).set j.1 (UInt8.ofNat j.1) = up (j.1 + 1) := by decide +kernel
  exact h ⟨k, hk⟩
theorem down_set (k : Nat) (hk : k < 32) : (down k).set k (UInt8.ofNat (31 - k)) = down (k + 1) := by
  have h : ∀ j : Fin 32, (down j.1).set j.1 (UInt8.ofNat (31 - j.1)) = down (j.1 + 1) := by decide +kernel
  exact h ⟨k, hk⟩
theorem B8_ofNat (k : Nat) (hk : k < 256) : B8 (UInt8.ofNat k) = (k : Int) := by
  unfold B8; rw [UInt8.toNat_ofNat']; omega

theorem sum_full : Cm.sum (full 32) = 0x62a8ab43#32 := by decide +kernel
theorem sum_up : Cm.sum (up 32) = 0x46dd794e#32 := by decide +kernel
theorem sum_down : Cm.sum (down 32) = 0x113fdb5c#32 := by decide +kernel
structure Kn (w0 : World) (B g1 g2 g3 : Nat) (w : World) : Prop where
  below : Below w0.heap.size w0 w
  tab : Tab w
  r1 : Bs w B (some ⟨g1, 0, none⟩) (full 32)
  r2 : Bs w B (some ⟨g2, 0, none⟩) (up 32)
  r3 : Bs w B (some ⟨g3, 0, none⟩) (down 32)
theorem Kn.next {w0 : World} {g1 g2 g3 : Nat} {w w' : World} (h : Kn w0 w.heap.size g1 g2 g3 w) (hb : Below w.heap.size w w') : Kn w0 w.heap.size g1 g2 g3 w' :=
  ⟨h.below.trans (hb.mono h.below.size), h.tab.below hb, h.r1.below hb, h.r2.below hb, h.r3.below hb⟩

set_option maxRecDepth 100000 in
theorem known_walk (w : World) (hT : Tab w) :
    Calls Tryd.prog 9 #[] w fun e w' => e = .returned (.bool true) ∧ Below w.heap.size w w' := by
  have hmk : ∀ w, (Instr.makeSlice 22 (.int .i64 32) (.int .i64 32)).run Tryd.prog w = .ok (.slice (some ⟨w.heap.size, 0, none⟩) 32 32) (w.alloc (.cells zeros32 5)) := fun _ => by kernel_rfl
  have hmk4 : ∀ w, (Instr.makeSlice 22 (.int .i64 4) (.int .i64 4)).run Tryd.prog w = .ok (.slice (some ⟨w.heap.size, 0, none⟩) 4 4) (w.alloc (.cells #[.int .u8 0, .int .u8 0, .int .u8 0, .int .u8 0] 5)) := fun _ => by kernel_rfl
  have kc := fun (w : World) (C : Array Value) (n c : Nat) => Lib.run_convert_bytes_const (P := Tryd.prog) w 22 5 C n c Tryd.underlying22 Tryd.underlying5
  have HT := Lib.hid hT
  clear hT
  go_enter Tryd.func9, Tryd.ntmps9
  go_upto_region 1 with fail
  go_cut [1, 2, 3] (fun s1 s2 s3 wx => ∃ g1 g2 g3, s1 = .slice (some ⟨g1, 0, none⟩) 32 32 ∧ s2 = .slice (some ⟨g2, 0, none⟩) 32 32 ∧ s3 = .slice (some ⟨g3, 0, none⟩) 32 32 ∧ g1 ≠ g2 ∧ g1 ≠ g3 ∧ g2 ≠ g3 ∧
      wx.ownsRow w.heap.size 5 1 (.slice (some ⟨g1, 0, none⟩) 32 32) 32 Z32 ∧ wx.ownsRow w.heap.size 5 1 (.slice (some ⟨g2, 0, none⟩) 32 32) 32 Z32 ∧ wx.ownsRow w.heap.size 5 1 (.slice (some ⟨g3, 0, none⟩) 32 32) 32 Z32 ∧ Below w.heap.size w wx)
  case first =>
    go_region
    all_goals go_wp2
    all_goals go_meet
    all_goals obtain ⟨r0, r1, r2, rb⟩ := three_rows w
    all_goals first
      | (refine ⟨_, _, _, rfl, rfl, rfl, ?_, ?_, ?_, World.ownsRow.drew r0, World.ownsRow.drew r1, World.ownsRow.drew r2, rb.drew⟩ <;> omega)
      | (refine ⟨_, _, _, rfl, rfl, rfl, ?_, ?_, ?_, World.ownsRow.drew r0, World.ownsRow.drew r2, World.ownsRow.drew r1, rb.drew⟩ <;> omega)
      | (refine ⟨_, _, _, rfl, rfl, rfl, ?_, ?_, ?_, World.ownsRow.drew r1, World.ownsRow.drew r0, World.ownsRow.drew r2, rb.drew⟩ <;> omega)
      | (refine ⟨_, _, _, rfl, rfl, rfl, ?_, ?_, ?_, World.ownsRow.drew r1, World.ownsRow.drew r2, World.ownsRow.drew r0, rb.drew⟩ <;> omega)
      | (refine ⟨_, _, _, rfl, rfl, rfl, ?_, ?_, ?_, World.ownsRow.drew r2, World.ownsRow.drew r0, World.ownsRow.drew r1, rb.drew⟩ <;> omega)
      | (refine ⟨_, _, _, rfl, rfl, rfl, ?_, ?_, ?_, World.ownsRow.drew r2, World.ownsRow.drew r1, World.ownsRow.drew r0, rb.drew⟩ <;> omega)
  case rest =>
    obtain ⟨g1, g2, g3, rfl, rfl, rfl, n12, n13, n23, o1, o2, o3, hb0⟩ := hcut
    have O1 := Lib.hid o1
    have O2 := Lib.hid o2
    have O3 := Lib.hid o3
    have HB := Lib.hid hb0
    clear o1 o2 o3 hb0
    go_wp2
    go_loopw [4] (fun i wr => ∃ k : Nat, k ≤ 32 ∧ i = .int .i64 k ∧ wr.ownsRow w.heap.size 5 1 (.slice (some ⟨g1, 0, none⟩) 32 32) 32 ((full k).map byteV) ∧ wr.ownsRow w.heap.size 5 1 (.slice (some ⟨g2, 0, none⟩) 32 32) 32 ((up k).map byteV) ∧
        wr.ownsRow w.heap.size 5 1 (.slice (some ⟨g3, 0, none⟩) 32 32) 32 ((down k).map byteV) ∧ Below w.heap.size w wr) (fun i _ => 32 - (intOf i).toNat)
    case atStart => exact ⟨0, by omega, rfl, O1.out, O2.out, O3.out, HB.out⟩
    case round =>
      obtain ⟨k, hk, rfl, q1, q2, q3, hbr⟩ := hrel
      by_cases hlt : k < 32
      · have c1 := q1.cellAt k (by omega)
        have c2 := q2.cellAt k (by omega)
        have c3 := q3.cellAt k (by omega)
        have f1 := q1.frozenAt k
        have f2 := q2.frozenAt k
        have f3 := q3.frozenAt k
        rw [List.getElem?_map, List.getElem?_eq_getElem (by rw [full_length]; exact hlt)] at c1
        rw [List.getElem?_map, List.getElem?_eq_getElem (by rw [up_length]; exact hlt)] at c2
        rw [List.getElem?_map, List.getElem?_eq_getElem (by rw [down_length]; exact hlt)] at c3
        simp only [Option.map_some] at c1 c2 c3
        generalize byteV (full k)[k] = d1 at *
        generalize byteV (up k)[k] = d2 at *
        generalize byteV (down k)[k] = d3 at *
        have Q1 := Lib.hid q1
        have Q2 := Lib.hid q2
        have Q3 := Lib.hid q3
        have HBR := Lib.hid hbr
        have m21 : g2 ≠ g1 := n12.symm
        have m31 : g3 ≠ g1 := n13.symm
        have m32 : g3 ≠ g2 := n23.symm
        clear q1 q2 q3 hbr
        go_wp2
        go_roundw
        case rel =>
          have e1 : Value.int .u8 255 = byteV 255 := rfl
          have e2 : Value.int .u8 (k : Int) = byteV (UInt8.ofNat k) := by unfold byteV; rw [B8_ofNat k (by omega)]
          have e3 : Value.int .u8 (31 - (k : Int)) = byteV (UInt8.ofNat (31 - k)) := by unfold byteV; rw [B8_ofNat (31 - k) (by omega)]; congr 1; omega
          rw [e1, e2, e3]
          refine ⟨k + 1, by omega, by go_num, ?_, ?_, ?_, ?_⟩
          · have h := (Q1.out.stored k (byteV 255)).1
            rw [← List.map_set, full_set k hlt] at h
            exact Lk.own_far (Lk.own_far h n12 _) n13 _
          · have h := ((Lk.own_far Q2.out m21 (j := k) (byteV 255)).stored k (byteV (UInt8.ofNat k))).1
            rw [← List.map_set, up_set k hlt] at h
            exact Lk.own_far h n23 _
          · have h := ((Lk.own_far (Lk.own_far Q3.out m31 (j := k) (byteV 255)) m32 (j := k) (byteV (UInt8.ofNat k))).stored k (byteV (UInt8.ofNat (31 - k)))).1
            rw [← List.map_set, down_set k hlt] at h
            exact h
          · exact ((HBR.out.setCell (Q1.out.lt g1 rfl).1 _).setCell (Q2.out.lt g2 rfl).1 _).setCell (Q3.out.lt g3 rfl).1 _
        case measure => simp [intOf]; omega
      · have hk2 : k = 32 := by omega
        subst hk2
        have r1 : Bs wr wr.heap.size (some ⟨g1, 0, none⟩) (full 32) := own_read q1
        have r2 : Bs wr wr.heap.size (some ⟨g2, 0, none⟩) (up 32) := own_read q2
        have r3 : Bs wr wr.heap.size (some ⟨g3, 0, none⟩) (down 32) := own_read q3
        have HK := Lib.hid (Kn.mk hbr (HT.out.below hbr) r1 r2 r3)
        clear q1 q2 q3 hbr r1 r2 r3
        go_wp2_with fail
        refine (power_neg (-1) (by omega) _).mono ?_
        rintro e w' ⟨rfl, rfl⟩
        go_wp2_with fail
        refine (join_neg 1#32 2#32 (-1) (by omega) _).mono ?_
        rintro e w' ⟨rfl, rfl⟩
        go_wp2_with fail
        refine (join_any 7#32 0#32 0 (by omega) _).mono ?_
        rintro e w1 ⟨rfl, hb⟩
        rw [show U (Cm.times (Cm.pw 0) 7#32 ^^^ 0#32) = 7 by rw [Cm.times_pw_left]; rfl]
        have HK1 := Lib.hid (HK.out.next hb)
        clear hb HK
        go_wp2_with fail
        refine (sum_is _ _ 32 _ _ _ _ (full_length 32) sum_full (by omega) HK1.out.tab HK1.out.r1).mono ?_
        rintro e w' ⟨rfl, rfl⟩
        rw [show U 0x62a8ab43#32 = 1655221059 from rfl]
        go_wp2_with fail
        refine (sum_is _ _ 32 _ _ _ _ (up_length 32) sum_up (by omega) HK1.out.tab HK1.out.r2).mono ?_
        rintro e w' ⟨rfl, rfl⟩
        rw [show U 0x46dd794e#32 = 1188919630 from rfl]
        go_wp2_with fail
        refine (sum_is _ _ 32 _ _ _ _ (down_length 32) sum_down (by omega) HK1.out.tab HK1.out.r3).mono ?_
        rintro e w' ⟨rfl, rfl⟩
        rw [show U 0x113fdb5c#32 = 289397596 from rfl]
        have hT1 := HK1.out.tab
        have hB1 := HK1.out.below
        have HT1 := Lib.hid hT1
        have HB1 := Lib.hid hB1
        clear hT1 hB1 HK1
        go_wp2_with fail
        refine (more_any 9#32 none [] 0 0 _ (by decide) HT1.out Rd.nil).mono ?_
        rintro e w' ⟨rfl, rfl⟩
        rw [show U (Cm.more 9#32 []) = 9 by rw [Cm.more_nil]; rfl]
        go_wp2_with fail
        refine (right_short none [] 0 _ (by decide)).mono ?_
        rintro e w2 ⟨rfl, hb⟩
        have HT2 := Lib.hid (HT1.out.below hb)
        have HB2 := Lib.hid (HB1.out.trans (hb.mono HB1.out.size))
        clear hb HT1 HB1
        go_wp2_with fail
        refine (right_long ⟨w2.heap.size, 0, none⟩ [0, 0, 0, 0] 0 4 _ rfl (by omega) (by omega) (HT2.out.alloc _) (Bs.new _ _ _ _ _ _ _ rfl (by simp) rfl)).mono ?_
        rintro e w3 ⟨rfl, hb⟩
        rw [show decide (le4 (Cm.sum (([0, 0, 0, 0] : List UInt8).take 0)) = ([0, 0, 0, 0] : List UInt8).drop 0) = true from by decide +kernel]
        have hb' : Below w2.heap.size w2 w3 := (Below_two w2 _).trans (hb.mono (by simp))
        have HT3 := Lib.hid (HT2.out.below hb')
        have HB3 := Lib.hid (HB2.out.trans (hb'.mono HB2.out.size))
        clear hb hb' HT2 HB2
        go_wp2_with fail
        refine (right_short _ [0, 0, 0] 3 _ (by decide)).mono ?_
        rintro e w4 ⟨rfl, hb⟩
        have hb' : Below w3.heap.size w3 w4 := (Below_two w3 _).trans (hb.mono (by simp))
        have HT4 := Lib.hid (HT3.out.below hb')
        have HB4 := Lib.hid (HB3.out.trans (hb'.mono HB3.out.size))
        clear hb hb' HT3 HB3
        go_wp2_with fail
        refine (cover_any (some ⟨w4.heap.size, 0, none⟩) [49, 50, 51, 52, 53, 54, 55, 56, 57] 9 _ (by decide) (HT4.out.alloc _) (Bs.new _ _ _ _ _ _ _ rfl (by simp) rfl)).mono ?_
        rintro e w5 ⟨v, rfl, hown, hb⟩
        have hb' : Below w4.heap.size w4 w5 := (Below_two w4 _).trans (hb.mono (by simp))
        have HT5 := Lib.hid (HT4.out.below hb')
        have HB5 := Lib.hid (HB4.out.trans (hb'.mono HB4.out.size))
        clear hb hb' HT4 HB4
        obtain ⟨_, A, c, rfl, hc1, hc2, hA⟩ := own_bs hown
        clear hown
        have hcv : (convert 22 9 (.slice A 13 c)).run Tryd.prog w5 = .ok (.string ⟨#[49, 50, 51, 52, 53, 54, 55, 56, 57, 131, 146, 6, 227]⟩) w5 := by
          have h := conv_bytes Tryd.underlying22 Tryd.underlying5 Tryd.underlying9 w5 _ A _ 13 c (by decide +kernel) hA
          rw [show ([49, 50, 51, 52, 53, 54, 55, 56, 57] ++ le4 (Cm.sum [49, 50, 51, 52, 53, 54, 55, 56, 57]) : List UInt8) = [49, 50, 51, 52, 53, 54, 55, 56, 57, 131, 146, 6, 227] from by decide +kernel] at h
          exact h
        clear hA hc1 hc2
        go_wp2_with fail
        refine (times_any 0x40000000#32 1#32 _).mono ?_
        rintro e w' ⟨rfl, rfl⟩
        rw [show U (Cm.times 0x40000000#32 1#32) = 2197175160 from by rw [show Cm.times 0x40000000#32 1#32 = 0x82f63b78#32 from by decide +kernel]; rfl]
        clear hcv
        go_wp2_with fail
        refine (knows_any _ HT5.out).mono ?_
        rintro e w6 ⟨rfl, hb⟩
        go_wp2_with fail
        go_ret
        exact ⟨rfl, HB5.out.trans (hb.mono HB5.out.size)⟩

theorem known_raw (W : World) (hT : Tab W) : Calls Tryd.prog 9 #[] W fun e w' => e = .returned (.bool true) ∧ Below W.heap.size W w' := known_walk W hT
end Go.Proofs.YthdmapjdfghgfaaDoor
