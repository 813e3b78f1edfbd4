/-
  The walk of the law CrcXors: it returns true for any three rows.
-/
import Derived.Test.YthdmapjdfghgfaaDoorCrcF
import Derived.Deep.DeepCutAuto
namespace Go.Proofs.YthdmapjdfghgfaaDoor
open Go.RowKit
attribute [local go_sem] U_xor U_and U_and_1 U_and_15 U_and_M U_not U_not' U_xor_shr U_shr_1 U_shr_4 U_shr_31 U_shl_1 U_neg U_byte U_toNat U_nonneg

theorem B8_xor (x y : UInt8) : bits .xor .u8 (B8 x) (B8 y) = B8 (x ^^^ y) := by
  unfold B8; rw [u8_xor_nat _ _ x.toNat_lt y.toNat_lt, UInt8.toNat_xor]
attribute [local go_sem] B8_xor

/-- Three rows, xored. -/
def x3 (a b c : List UInt8) : List UInt8 := List.zipWith (· ^^^ ·) (List.zipWith (· ^^^ ·) a b) c
theorem x3_length (a b c : List UInt8) : (x3 a b c).length = min (min a.length b.length) c.length := by simp [x3]
theorem x3_snoc (a b c : List UInt8) (k : Nat) (ha : k < a.length) (hb : k < b.length) (hc : k < c.length) :
    (x3 a b c).take (k + 1) = (x3 a b c).take k ++ [a.getD k 0 ^^^ b.getD k 0 ^^^ c.getD k 0] := by
  have hl : k < (x3 a b c).length := by rw [x3_length]; omega
  rw [List.take_succ_eq_append_getElem hl]
  congr 2
  simp [x3, List.getD, ha, hb, hc]

/-- Three rows read as they did. -/
structure Rows3 (w0 : World) (A B C : Option Addr) (a b c : List UInt8) (w : World) : Prop where
  below : Below w0.heap.size w0 w
  ra : Bs w w0.heap.size A a
  rb : Bs w w0.heap.size B b
  rc : Bs w w0.heap.size C c
theorem Rows3.next {w0 : World} {A B C : Option Addr} {a b c : List UInt8} {w w' : World} (h : Rows3 w0 A B C a b c w) (hb : Below w0.heap.size w w') : Rows3 w0 A B C a b c w' :=
  ⟨h.below.trans hb, h.ra.below hb, h.rb.below hb, h.rc.below hb⟩

theorem min4_eq (a b c n : Nat) (hn : n = min (min a b) (min c 500)) :
    (if (500 : Int) < (if (c : Int) < (if (b : Int) < a then (b : Int) else a) then (c : Int) else (if (b : Int) < a then (b : Int) else a)) then (500 : Int) else (if (c : Int) < (if (b : Int) < a then (b : Int) else a) then (c : Int) else (if (b : Int) < a then (b : Int) else a))) = (n : Int) := by
  by_cases h1 : (b : Int) < a
  · simp only [if_pos h1]
    by_cases h2 : (c : Int) < b
    · simp only [if_pos h2]
      split <;> omega
    · simp only [if_neg h2]
      split <;> omega
  · simp only [if_neg h1]
    by_cases h2 : (c : Int) < a
    · simp only [if_pos h2]
      split <;> omega
    · simp only [if_neg h2]
      split <;> omega

set_option maxRecDepth 100000 in
theorem xors_walk (A B C : Option Addr) (a b c : List UInt8) (ca cb cc : Nat) (w : World) (hca : a.length ≤ ca) (hcb : b.length ≤ cb) (hcc : c.length ≤ cc) (hma : ca ≤ maxLen) (_ : cb ≤ maxLen) (hmc : cc ≤ maxLen)
    (hT : Tab w) (ha : Bs w w.heap.size A a) (hb : Bs w w.heap.size B b) (hc : Bs w w.heap.size C c) :
    Calls Tryd.prog 3 #[.slice A a.length ca, .slice B b.length cb, .slice C c.length cc] w fun e w' => e = .returned (.bool true) ∧ Below w.heap.size w w' := by
  obtain ⟨i0, hi0, hz0, hz1, hz2⟩ := info_parts info_u8
  unfold maxLen at hma hmc
  obtain ⟨n, hn⟩ : ∃ n, n = min (min a.length b.length) (min c.length 500) := ⟨_, rfl⟩
  have hn5 : n ≤ 500 := by omega
  have hna : n ≤ a.length := by omega
  have hnb : n ≤ b.length := by omega
  have hnc : n ≤ c.length := by omega
  have HR := Lib.hid (Rows3.mk (Below.refl _ w) ha hb hc)
  have HT := Lib.hid hT
  have HN := Lib.hid hn
  clear ha hb hc hT hn
  go_enter Tryd.func3, Tryd.ntmps3
  go_upto_region 1 with fail
  go_cut [7] (fun s7 wx => s7 = .int .i64 n ∧ wx = w)
  case first =>
    have hmin : ∀ w, (Builtin.min_ #[3, 3, 3, 3] 3 #[.int .i64 a.length, .int .i64 b.length, .int .i64 c.length, .int .i64 500]).run Tryd.prog w = .ok (.int .i64 n) w := by
      intro w
      have h := min4_eq _ _ _ n HN.out
      rw [← h]
      simp [Builtin.min_, Builtin.min2]
    go_wp2
    go_meet
    exact ⟨rfl, rfl⟩
  case rest =>
    obtain ⟨rfl, rfl⟩ := hcut
    clear HN
    go_wp2
    go_loopw [8, 9] (fun v i wr => ∃ k : Nat, k ≤ n ∧ i = .int .i64 k ∧ wr.ownsRow wc.heap.size 5 1 v k (((x3 (a.take n) (b.take n) (c.take n)).take k).map byteV) ∧ Rows3 wc A B C a b c wr) (fun _ i _ => n - (intOf i).toNat)
    case atStart => exact ⟨0, Nat.zero_le _, rfl, Lk.own_nil _ _ _, HR.out⟩
    case round =>
      obtain ⟨k, hk, rfl, hown, hR⟩ := hrel
      have HO := Lib.hid hown
      have HR1 := Lib.hid hR
      clear hown hR
      by_cases hlt : k < n
      · obtain ⟨ad, rfl, had, hca'⟩ := HR1.out.ra k (by omega)
        obtain ⟨bd, rfl, hbd, hcb'⟩ := HR1.out.rb k (by omega)
        obtain ⟨cd, rfl, hcd, hcc'⟩ := HR1.out.rc k (by omega)
        unfold byteAt at hca' hcb' hcc'
        have hx := Lib.hid (x3_snoc (a.take n) (b.take n) (c.take n) k (by simp; omega) (by simp; omega) (by simp; omega))
        have ea : (a.take n).getD k 0 = a.getD k 0 := by simp [List.getD, hlt]
        have eb : (b.take n).getD k 0 = b.getD k 0 := by simp [List.getD, hlt]
        have ec : (c.take n).getD k 0 = c.getD k 0 := by simp [List.getD, hlt]
        rw [ea, eb, ec] at hx
        clear ea eb ec
        generalize a.getD k 0 = x at *
        generalize b.getD k 0 = y at *
        generalize c.getD k 0 = z at *
        have la := World.block_lt_of_cell? wr _ hca'
        have lb := World.block_lt_of_cell? wr _ hcb'
        have lc := World.block_lt_of_cell? wr _ hcc'
        have hka : (k : Int) < a.length := by omega
        have hkb : (k : Int) < b.length := by omega
        have hkc : (k : Int) < c.length := by omega
        go_wp2_with fail
        go_region_held3 (fun w' => w'.cell? (ad.add k) = some (.int .u8 (B8 x)) ∧ w'.cell? (bd.add k) = some (.int .u8 (B8 y)) ∧ w'.cell? (cd.add k) = some (.int .u8 (B8 z)))
          (first | go_keep | exact ⟨(Lk.own_cell hg1 (HO.out.alloc _) (by rw [add_block]; exact had) (by simp; omega)).trans ((World.cell?_alloc_lt _ _ _ la).trans hca'), (Lk.own_cell hg1 (HO.out.alloc _) (by rw [add_block]; exact hbd) (by simp; omega)).trans ((World.cell?_alloc_lt _ _ _ lb).trans hcb'), (Lk.own_cell hg1 (HO.out.alloc _) (by rw [add_block]; exact hcd) (by simp; omega)).trans ((World.cell?_alloc_lt _ _ _ lc).trans hcc')⟩)
          (first | (refine Lk.step_app _ rfl (.tmp 22) (.tmp 37) 22 rfl wc.heap.size 5 i0 _ 1 1 Tryd.underlying22 hi0 hz0 hz1 hz2 rfl (by omega) _ k _ rfl (HO.out.alloc _) (some ⟨wr.heap.size, 0, none⟩) 1 1 [.int .u8 (B8 (x ^^^ y ^^^ z))] rfl rfl (Lk.Src.one (World.cell?_alloc_at _ _ _ _ rfl)) (by simp [Value.oneCell']) (by unfold maxLen; omega) (by omega) (by have := HR1.out.below.size; simp; omega) (fun v1 w2 hown1 hg1 hat1 => ?_)))
        all_goals go_wp2
        all_goals go_roundw
        case rel =>
          refine ⟨k + 1, by omega, by go_num, ?_, ?_⟩
          · rw [hx.out, List.map_append]
            exact hown1
          · refine HR1.out.next ?_
            have h1 : Below wc.heap.size wr (wr.alloc (.cells #[.int .u8 (B8 (x ^^^ y ^^^ z))] 5)) := (Below.refl _ _).alloc HR1.out.below.size _
            exact h1.drew.grown hg1 (by have := HR1.out.below.size; simp; omega) (fun g hg => (HO.out.lt g hg).1)
        case measure => simp [intOf]; omega
      · have hkn : k = n := by omega
        subst hkn
        have hx : ((x3 (a.take k) (b.take k) (c.take k)).take k).map byteV = (x3 (a.take k) (b.take k) (c.take k)).map byteV := by
          rw [List.take_of_length_le (by rw [x3_length]; simp; omega)]
        have ho := HO.out
        rw [hx] at ho
        obtain ⟨hxl, X, cx, rfl, hcx1, hcx2, hX⟩ := own_bs ho
        have hs := Cm.sum_zip3 (a.take k) (b.take k) (c.take k) (by simp; omega) (by simp; omega)
        have ra := HR1.out.ra.take' k
        have rb := HR1.out.rb.take' k
        have rc := HR1.out.rc.take' k
        have hla : (a.take k).length = k := by simp; omega
        have hlb : (b.take k).length = k := by simp; omega
        have hlc : (c.take k).length = k := by simp; omega
        have hTr : Tab wr := HT.out.below HR1.out.below
        have SX := Lib.hid (sum_is X _ k cx wr.heap.size _ wr.drew hxl hs (by omega) hTr hX)
        have SA := Lib.hid (sum_is A _ k ca wc.heap.size _ wr.drew hla rfl (by omega) hTr ra)
        have SB := Lib.hid (sum_is B _ k cb wc.heap.size _ wr.drew hlb rfl (by omega) hTr rb)
        have SC := Lib.hid (sum_is C _ k cc wc.heap.size _ wr.drew hlc rfl (by omega) hTr rc)
        have SK := Lib.hid (knows_any wr.drew hTr)
        have k0 : (0 : Int) ≤ (k : Int) := by omega
        have kca : (k : Int) ≤ (ca : Int) := by omega
        have kcb : (k : Int) ≤ (cb : Int) := by omega
        have kcc : (k : Int) ≤ (cc : Int) := by omega
        clear ho hx hs hX ra rb rc hla hlb hlc hxl hTr HO
        generalize Cm.sum (a.take k) = sa at *
        generalize Cm.sum (b.take k) = sb at *
        generalize Cm.sum (c.take k) = sc at *
        go_wp2_with fail
        go_region_held3 (fun _ => True) (trivial)
          (first | (go_at_call_of 10 (Value.slice X k cx); refine SX.out.mono ?_; rintro e w' ⟨rfl, rfl⟩) | (go_at_call_of 10 (Value.slice A k ca); refine SA.out.mono ?_; rintro e w' ⟨rfl, rfl⟩) | (go_at_call_of 10 (Value.slice B k cb); refine SB.out.mono ?_; rintro e w' ⟨rfl, rfl⟩) | (go_at_call_of 10 (Value.slice C k cc); refine SC.out.mono ?_; rintro e w' ⟨rfl, rfl⟩) | (go_at_call 11; refine SK.out.mono ?_; rintro e w1 ⟨rfl, hb1⟩))
        all_goals go_wp2
        all_goals go_ret
        all_goals exact ⟨rfl, HR1.out.below.trans (((Below.refl wr.heap.size wr).drew.trans hb1).mono HR1.out.below.size)⟩

theorem xors_raw (W : World) (A : Option Addr) (a : List UInt8) (ca : Nat) (hca : a.length ≤ ca) (hma : ca ≤ maxLen) (ha : Bs W W.heap.size A a) (B : Option Addr) (b : List UInt8) (cb : Nat) (hcb : b.length ≤ cb) (hmb : cb ≤ maxLen) (hb : Bs W W.heap.size B b)
    (C : Option Addr) (c : List UInt8) (cc : Nat) (hcc : c.length ≤ cc) (hmc : cc ≤ maxLen) (hc : Bs W W.heap.size C c) (hT : Tab W) :
    Calls Tryd.prog 3 #[.slice A a.length ca, .slice B b.length cb, .slice C c.length cc] W fun e w' => e = .returned (.bool true) ∧ Below W.heap.size W w' :=
  xors_walk A B C a b c ca cb cc W hca hcb hcc hma hmb hmc hT ha hb hc
end Go.Proofs.YthdmapjdfghgfaaDoor
