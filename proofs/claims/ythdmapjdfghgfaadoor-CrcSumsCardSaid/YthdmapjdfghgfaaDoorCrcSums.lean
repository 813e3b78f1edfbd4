/-
  The walk of the law CrcSums: it returns true for any bytes and any place where they are parted.
-/
import Derived.Test.YthdmapjdfghgfaaDoorCrcM
namespace Go.Proofs.YthdmapjdfghgfaaDoor
open Go.RowKit
attribute [local go_sem] U_xor U_and U_not U_not' U_byte U_toNat U_nonneg

@[local go_sem] theorem Bs_drew' (w : World) (B : Nat) (A : Option Addr) (l : List UInt8) : Bs w.drew B A l ↔ Bs w B A l := Iff.rfl

theorem right_n (A : Option Addr) (L : List UInt8) (n cap : Nat) (w : World) (hn : L.length = n) (h4 : n < 4) :
    Calls Tryd.prog 22 #[.slice A n cap] w fun e w' => e = .returned (.bool false) ∧ Below w.heap.size w w' := by
  subst hn
  exact right_short A L cap w h4
/-- Both programs' word on a run. -/
theorem rights (A : Option Addr) (L : List UInt8) (n cap : Nat) (hn : L.length = n) (h300 : n ≤ 300) (hcap : n ≤ cap) : ∃ r : Bool,
    (∀ w, Tab w → Bs w w.heap.size A L → Calls Tryd.prog 22 #[.slice A n cap] w fun e w' => e = .returned (.bool r) ∧ Below w.heap.size w w') ∧
    (∀ w, Bs w w.heap.size A L → Calls Tryd.prog 23 #[.slice A n cap] w fun e w' => e = .returned (.bool r) ∧ Below w.heap.size w w') := by
  by_cases h4 : n < 4
  · exact ⟨false, fun w _ _ => right_n A L n cap w hn h4, fun w _ => refright_short A n cap w h4⟩
  · refine ⟨decide (le4 (Cm.sum (L.take (n - 4))) = L.drop (n - 4)), fun w hT hl => ?_, fun w hl => ?_⟩
    · obtain ⟨ad, rfl, _⟩ := hl 0 (by omega)
      exact right_at ad L n cap w hn (by omega) (by omega) hcap hT hl
    · obtain ⟨ad, rfl, _⟩ := hl 0 (by omega)
      have h := refright_long ad L (n - 4) cap w (by omega) (by omega) (by omega) hl
      rw [show n - 4 + 4 = n by omega] at h
      exact h
theorem cover_at (A : Option Addr) (l : List UInt8) (n cap : Nat) (w : World) (hn : l.length = n) (hlen : n ≤ 300) (hT : Tab w) (hl : Bs w w.heap.size A l) :
    Calls Tryd.prog 20 #[.slice A n cap] w fun e w' => ∃ v, e = .returned v ∧ w'.ownsRow w.heap.size 5 1 v (n + 4) ((l ++ le4 (Cm.sum l)).map byteV) ∧ Below w.heap.size w w' := by
  subst hn
  exact cover_any A l cap w (by omega) hT hl
theorem more_at (s : BitVec 32) (A : Option Addr) (l : List UInt8) (n cap B : Nat) (w : World) (hn : l.length = n) (hlen : n ≤ 300) (hT : Tab w) (hl : Bs w B A l) (u : BitVec 32) (hu : Cm.more s l = u) :
    Calls Tryd.prog 18 #[.int .u32 (U s), .slice A n cap] w fun e w' => e = .returned (.int .u32 (U u)) ∧ w = w' := by
  subst hn
  subst hu
  exact more_any s A l cap B w (by omega) hT hl
theorem right_cover (L : List UInt8) (n g c : Nat) (hn : L.length = n) (h300 : n ≤ 300) (hc : n + 4 ≤ c) (w : World) (hT : Tab w) (hl : Bs w w.heap.size (some ⟨g, 0, none⟩) (L ++ le4 (Cm.sum L))) :
    Calls Tryd.prog 22 #[.slice (some ⟨g, 0, none⟩) (n + 4) c] w fun e w' => e = .returned (.bool true) ∧ Below w.heap.size w w' := by
  have h := right_at ⟨g, 0, none⟩ (L ++ le4 (Cm.sum L)) (n + 4) c w (by rw [List.length_append, hn]; rfl) (by omega) (by omega) hc hT hl
  rw [show n + 4 - 4 = n by omega, List.take_left' hn, List.drop_left' hn, decide_eq_true rfl] at h
  exact h
theorem B8_flip (c : UInt8) : Value.int .u8 (bits .xor .u8 (B8 c) 255) = byteV (c ^^^ 255) := by
  show _ = Value.int .u8 (B8 (c ^^^ 255))
  congr 1
  show bits .xor .u8 (B8 c) (B8 255) = _
  unfold B8; rw [u8_xor_nat _ _ c.toNat_lt (by decide), UInt8.toNat_xor]

structure Sums (w0 : World) (B g n c : Nat) (A : Option Addr) (L R : List UInt8) (w : World) : Prop where
  size : B ≤ w.heap.size
  below : Below w0.heap.size w0 w
  tab : Tab w
  b : Bs w B A L
  run : Bs w B (some ⟨g, 0, none⟩) R
  own : w.ownsRow w0.heap.size 5 1 (.slice (some ⟨g, 0, none⟩) (n + 4) c) (n + 4) (R.map byteV)
theorem Sums.next {w0 : World} {B g n c : Nat} {A : Option Addr} {L R : List UInt8} {w w' : World} (h : Sums w0 B g n c A L R w) (hb : Below w.heap.size w w') : Sums w0 B g n c A L R w' :=
  ⟨Nat.le_trans h.size hb.size, h.below.trans (hb.mono h.below.size), h.tab.below hb, h.b.below (hb.mono h.size), h.run.below (hb.mono h.size), own_below h.own hb⟩
theorem Sums.drew {w0 : World} {B g n c : Nat} {A : Option Addr} {L R : List UInt8} {w : World} (h : Sums w0 B g n c A L R w) : Sums w0 B g n c A L R w.drew :=
  h.next ((Below.refl _ _).drew)

structure Kept (w0 : World) (A : Option Addr) (L : List UInt8) (w : World) : Prop where
  b : Bs w w0.heap.size A L
  tab : Tab w
  below : Below w0.heap.size w0 w
theorem Kept.next {w0 : World} {A : Option Addr} {L : List UInt8} {w w' : World} (h : Kept w0 A L w) (hb : Below w.heap.size w w') : Kept w0 A L w' :=
  ⟨h.b.below (hb.mono h.below.size), h.tab.below hb, h.below.trans (hb.mono h.below.size)⟩

set_option maxRecDepth 100000 in
set_option maxHeartbeats 4000000 in
theorem sums_walk (A : Option Addr) (l : List UInt8) (cap : Nat) (x : Int) (w : World) (hcap : l.length ≤ cap) (_ : cap ≤ maxLen) (h0 : 0 ≤ x) (h1 : x < 65536) (hT : Tab w) (hl : Bs w w.heap.size A l) :
    Calls Tryd.prog 7 #[.slice A l.length cap, .int .u16 x] w fun e w' => e = .returned (.bool true) ∧ Below w.heap.size w w' := by
  have HT := Lib.hid hT
  have HL := Lib.hid hl
  clear hT hl
  go_enter Tryd.func7, Tryd.ntmps7
  go_upto_region 1 with fail
  go_cut [0] (fun s0 wx => s0 = .slice A (l.take 300).length cap ∧ wx = w)
  case first =>
    go_wp2
    all_goals go_meet
    all_goals refine ⟨?_, rfl⟩
    all_goals rw [List.length_take]
    all_goals congr 1
    all_goals omega
  case rest =>
    obtain ⟨rfl, hwc⟩ := hcut
    have hwc := hwc.symm
    subst hwc
    obtain ⟨n, hn'⟩ : ∃ n, (l.take 300).length = n := ⟨_, rfl⟩
    rw [hn']
    have hn : n ≤ 300 := by rw [← hn', List.length_take]; omega
    have hnc : n ≤ cap := by rw [← hn', List.length_take]; omega
    have HL2 := Lib.hid (HL.out.take' 300)
    have HN := Lib.hid hn'
    clear HL hn'
    generalize l.take 300 = L at *
    clear hcap
    obtain ⟨r, hr1, hr2⟩ := rights A L n cap HN.out hn hnc
    have HR1 := Lib.hid hr1
    have HR2 := Lib.hid hr2
    clear hr1 hr2
    have hcv : ∀ w' B, Bs w' B A L → (convert 22 9 (.slice A n cap)).run Tryd.prog w' = .ok (.string ⟨L.toArray⟩) w' := fun w' B h =>
      conv_bytes Tryd.underlying22 Tryd.underlying5 Tryd.underlying9 w' _ A L n cap HN.out h
    have hc0 := hcv _ _ HL2.out
    have hn1 : (0 : Int) < (n : Int) + 1 := by omega
    go_wp2_with fail
    refine (refsum_any A L n cap _ HN.out (by omega) HL2.out).mono ?_
    rintro e w1 ⟨rfl, hb1⟩
    have HT1 := Lib.hid (HT.out.below hb1)
    have HL3 := Lib.hid ((HL2.out.below hb1).more hb1.size)
    have HB1 := Lib.hid hb1
    have hbs1 := hb1.size
    clear hb1 hc0
    go_wp2_with fail
    refine (cover_at A L n cap _ HN.out hn HT1.out HL3.out).mono ?_
    rintro e w2 ⟨v, rfl, hown, hb2⟩
    obtain ⟨g, c, rfl, hg1, hg2, hc1, hc2⟩ := own_form hown (by omega)
    obtain ⟨R, hR⟩ : ∃ R, R = L ++ le4 (Cm.sum L) := ⟨_, rfl⟩
    rw [← hR] at hown
    have hRl : R.length = n + 4 := by rw [hR, List.length_append, HN.out]; rfl
    have HS : Hid (Sums w w2.heap.size g n c A L R w2) := ⟨Nat.le_refl _, HB1.out.trans (hb2.mono hbs1), HT1.out.below hb2, (HL3.out.below hb2).more hb2.size, own_read hown, hown.mono hbs1⟩
    have HR := Lib.hid hR
    have HRl := Lib.hid hRl
    clear hown hb2 hR hRl HT1 HL3 HB1
    obtain ⟨p, hp⟩ : ∃ p : Nat, x % ((n : Int) + 1) = (p : Int) := ⟨(x % ((n : Int) + 1)).toNat, by rw [Int.toNat_of_nonneg (Int.emod_nonneg _ (by omega))]⟩
    have hpn : p ≤ n := by have := Int.emod_lt_of_pos x (show (0 : Int) < (n : Int) + 1 by omega); omega
    rw [hp]
    clear hp
    have hg0 : w.heap.size ≤ g := by omega
    go_upto_region 6 with fail
    go_cut [9] from 28 to 44 (fun s wx => s = .bool true ∧ Sums w w2.heap.size g n c A L R wx)
    case first =>
      have hS0 := HS.out.run
      have hr : (R == R) = true := by simp
      clear hcv h0 h1 hn1 hpn
      have hcv8 : ∀ w', Bs w' w2.heap.size (some ⟨g, 0, none⟩) R → (convert 22 9 (.slice (some ⟨g, 0, none⟩) (n + 4) c)).run Tryd.prog w' = .ok (.string ⟨R.toArray⟩) w' := fun w' h =>
        conv_bytes Tryd.underlying22 Tryd.underlying5 Tryd.underlying9 w' _ _ R (n + 4) c HRl.out h
      have hcov := fun (w' : World) (h : Sums w w2.heap.size g n c A L R w') => refcover_any A L n cap w' HN.out (by omega) (h.b.more h.size)
      rw [← HR.out] at hcov
      have HC := Lib.hid hcov
      have hrights : ∀ (w' : World) (A' : Option Addr) (n' c' : Nat), ((A' = some ⟨g, 0, none⟩ ∧ n' = n + 4 ∧ c' = c) ∨ (A' = A ∧ n' = n ∧ c' = cap)) → Sums w w2.heap.size g n c A L R w' →
          Calls Tryd.prog 22 #[.slice A' n' c'] w' fun e w'' => e = .returned (.bool (r || decide (n' = n + 4))) ∧ Below w'.heap.size w' w'' := by
        rintro w' A' n' c' (⟨rfl, rfl, rfl⟩ | ⟨rfl, rfl, rfl⟩) h
        · rw [decide_eq_true rfl, Bool.or_true]
          exact right_cover L n g c' HN.out hn hc1 w' h.tab (by rw [← HR.out]; exact h.run.more h.size)
        · rw [decide_eq_false (by omega), Bool.or_false]
          exact HR1.out w' h.tab (h.b.more h.size)
      have HRR := Lib.hid hrights
      have HSx := Lib.hid HS.out.drew
      clear hcov hrights HR1 HS HL2 HR HRl HN
      go_region_with (first
        | (go_at_call 21; refine (HC.out _ HSx.out).mono ?_; rintro e w3 ⟨v, rfl, hown, hb3⟩; obtain ⟨hl2, A2, c2, rfl, _, _, hbs2⟩ := own_bs hown; clear hown; have hcv2 := fun w' h => conv_bytes Tryd.underlying22 Tryd.underlying5 Tryd.underlying9 w' w3.heap.size A2 _ (n + 4) c2 hl2 h; have HSx := Lib.hid (HSx.out.next hb3); have hS3 : Bs w3 w2.heap.size (some ⟨g, 0, none⟩) R := HSx.out.run; clear hb3)
        | (go_at_call 23; refine (HR2.out _ (HSx.out.b.more HSx.out.size)).mono ?_; rintro e w6 ⟨rfl, hb6⟩; have HSx := Lib.hid (HSx.out.next hb6); clear hb6)
        | (go_at_call 22; refine (HRR.out _ _ _ _ ?_ ?_).mono ?_; (first | exact .inl ⟨rfl, rfl, rfl⟩ | exact .inr ⟨rfl, rfl, rfl⟩); exact HSx.out; rintro e w4 ⟨rfl, hb4⟩; have HSx := Lib.hid (HSx.out.next hb4); clear hb4))
      all_goals (go_wp2_with fail; go_meet; exact ⟨rfl, HSx.out⟩)
    case rest =>
      obtain ⟨rfl, hS⟩ := hcut
      have HSx := Lib.hid hS
      have hcn : (n : Int) + 4 ≤ c := by omega
      clear hS HS
      go_wp2_with fail
      go_loopw [10] (fun i wr => ∃ (k : Nat) (Q : List UInt8), k ≤ n + 4 ∧ i = .int .i64 k ∧ Q.length = n + 4 ∧ wr.ownsRow w.heap.size 5 1 (.slice (some ⟨g, 0, none⟩) (n + 4) c) (n + 4) (Q.map byteV) ∧ Below w.heap.size w wr) (fun i _ => n + 4 - (intOf i).toNat)
      case atStart => exact ⟨0, R, by omega, rfl, HRl.out, HSx.out.own, HSx.out.below⟩
      case round =>
        obtain ⟨k, Q, hk, rfl, hQ, hown, hb⟩ := hrel
        have HQ := Lib.hid hQ
        have HO := Lib.hid hown
        have HB := Lib.hid hb
        have hbs := hb.size
        clear hQ hown hb HSx
        by_cases hk4 : k < n + 4
        · have c1 := HO.out.cellAt k (by omega)
          have f1 := HO.out.frozenAt k
          rw [List.getElem?_map, List.getElem?_eq_getElem (by rw [HQ.out]; exact hk4)] at c1
          simp only [Option.map_some] at c1
          generalize Q[k]'(by rw [HQ.out]; exact hk4) = d at *
          unfold byteV at c1
          have HV : Hid (Value.int .u8 (bits .xor .u8 (B8 d) 255) = byteV (d ^^^ 255)) := B8_flip d
          have hki : (k : Int) < (n : Int) + 4 := by omega
          go_wp2_with fail
          go_roundw
          case rel =>
            refine ⟨k + 1, Q.set k (d ^^^ 255), by omega, by go_num, by rw [List.length_set]; exact HQ.out, ?_, HB.out.setCell (p := ⟨g, k, none⟩) hg0 _⟩
            rw [HV.out]
            have h := (HO.out.stored k (byteV (d ^^^ 255))).1
            rw [← List.map_set] at h
            exact h
          case measure => simp [intOf]; omega
        · have hk4 : k = n + 4 := by omega
          subst hk4
          have hL4 : Bs wr w.heap.size A L := HL2.out.below HB.out
          have HK : Hid (Kept w A L wr.drew) := ⟨hL4, HT.out.below (HB.out.trans (((Below.refl _ _).drew).mono hbs)), HB.out.trans (((Below.refl _ _).drew).mono hbs)⟩
          have hcvb := fun w' => hcv w' w.heap.size
          clear hcv
          have hp0 : (0 : Int) ≤ (p : Int) := by omega
          have hpi : (p : Int) ≤ (n : Int) := by omega
          have hpc : (p : Int) ≤ (cap : Int) := by omega
          have hnci : (n : Int) ≤ (cap : Int) := by omega
          have HT1' : Hid ((L.take p).length = p) := by show _ = _; rw [List.length_take, HN.out]; omega
          have HD1 : Hid ((L.drop p).length = n - p) := by show _ = _; rw [List.length_drop, HN.out]
          have HM : Hid (Cm.more (Cm.sum (L.take p)) (L.drop p) = Cm.sum L) := by
            show _ = _
            unfold Cm.sum
            rw [← Cm.more_append, List.take_append_drop]
          by_cases hcp : cap = p
          · subst hcp
            have HDrop : Hid (∀ w', Bs w' w.heap.size A L → Bs w' w.heap.size A (L.drop cap)) := fun w' h =>
              Bs.drop h cap (by rw [HN.out]; exact hpn) (fun hlt => absurd hlt (by rw [HN.out]; omega))
            clear HR1 HR2 HR HRl HO HL2 HQ HB hn1 h0 h1 hg1 hg2 hc1 hc2 hcn hL4
            go_wp2_with fail
            go_region_held3 (fun w' => Bs w' w.heap.size A L ∧ Tab w' ∧ Below w.heap.size w w') (first | exact HK.out | exact ⟨HK.out.b, HK.out.tab, HK.out.below⟩)
              (first
              | (go_at_call 19; refine (refsum_any A (L.take cap) cap cap _ HT1'.out (by omega) ((HK.out.b.take' cap).more HK.out.below.size)).mono ?_; rintro e w5 ⟨rfl, hb5⟩; have HK := Lib.hid (HK.out.next hb5); clear hb5)
              | (go_at_call 10; refine (sum_is A L n cap _ (Cm.sum L) _ HN.out rfl (by omega) HK.out.tab HK.out.b).mono ?_; rintro e w' ⟨rfl, rfl⟩)
              | (go_at_call 18; refine (more_at (Cm.sum (L.take cap)) _ (L.drop cap) _ _ _ _ ?_ ?_ HK.out.tab (HDrop.out _ HK.out.b) (Cm.sum L) HM.out).mono ?_; (have h := HD1.out; omega); omega; rintro e w' ⟨rfl, rfl⟩)
              | (go_at_call 11; refine (knows_any _ HK.out.tab).mono ?_; rintro e w6 ⟨rfl, hb6⟩; have HK := Lib.hid (HK.out.next hb6); clear hb6))
            all_goals (go_wp2_with fail; go_ret; exact ⟨rfl, HK.out.below⟩)
          · have HDrop : Hid (∀ w', Bs w' w.heap.size A L → Bs w' w.heap.size (Option.map (fun x => x.add p) A) (L.drop p)) := fun w' h =>
              Bs.drop h p (by rw [HN.out]; exact hpn) (fun _ => rfl)
            clear HR1 HR2 HR HRl HO HL2 HQ HB hn1 h0 h1 hg1 hg2 hc1 hc2 hcn hL4
            go_wp2_with fail
            go_region_held3 (fun w' => Bs w' w.heap.size A L ∧ Tab w' ∧ Below w.heap.size w w') (first | exact HK.out | exact ⟨HK.out.b, HK.out.tab, HK.out.below⟩)
              (first
              | (go_at_call 19; refine (refsum_any A (L.take p) p cap _ HT1'.out (by omega) ((HK.out.b.take' p).more HK.out.below.size)).mono ?_; rintro e w5 ⟨rfl, hb5⟩; have HK := Lib.hid (HK.out.next hb5); clear hb5)
              | (go_at_call 10; refine (sum_is A L n cap _ (Cm.sum L) _ HN.out rfl (by omega) HK.out.tab HK.out.b).mono ?_; rintro e w' ⟨rfl, rfl⟩)
              | (go_at_call 18; refine (more_at (Cm.sum (L.take p)) _ (L.drop p) _ _ _ _ ?_ ?_ HK.out.tab (HDrop.out _ HK.out.b) (Cm.sum L) HM.out).mono ?_; (have h := HD1.out; omega); omega; rintro e w' ⟨rfl, rfl⟩)
              | (go_at_call 11; refine (knows_any _ HK.out.tab).mono ?_; rintro e w6 ⟨rfl, hb6⟩; have HK := Lib.hid (HK.out.next hb6); clear hb6))
            all_goals (go_wp2_with fail; go_ret; exact ⟨rfl, HK.out.below⟩)

theorem sums_raw (W : World) (A : Option Addr) (l : List UInt8) (cap : Nat) (hl : l.length ≤ cap) (hm : cap ≤ maxLen) (hc : Bs W W.heap.size A l) (x : Int) (h0 : 0 ≤ x) (h1 : x ≤ 65535) (hT : Tab W) :
    Calls Tryd.prog 7 #[.slice A l.length cap, .int .u16 x] W fun e w' => e = .returned (.bool true) ∧ Below W.heap.size W w' :=
  sums_walk A l cap x W hl hm h0 (by omega) hT hc
end Go.Proofs.YthdmapjdfghgfaaDoor
