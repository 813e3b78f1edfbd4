/-
  The walk of the law CrcParts: it returns true however a row is parted.
-/
import Derived.Test.YthdmapjdfghgfaaDoorCrcF
import Derived.Deep.DeepCutAuto
namespace Go.Proofs.YthdmapjdfghgfaaDoor
open Go.RowKit
attribute [local go_sem] U_xor U_and U_and_1 U_and_15 U_and_M U_not U_not' U_xor_shr U_shr_1 U_shr_4 U_shr_31 U_shl_1 U_neg U_byte U_toNat U_nonneg

/-- What holds of the worlds on the way: a row and its three parts read as they did. -/
structure Parts (w0 : World) (A A1 A2 : Option Addr) (L X Y Z : List UInt8) (w : World) : Prop where
  tab : Tab w
  below : Below w0.heap.size w0 w
  all : Bs w w0.heap.size A L
  x : Bs w w0.heap.size A X
  y : Bs w w0.heap.size A1 Y
  z : Bs w w0.heap.size A2 Z
theorem Parts.next {w0 : World} {A A1 A2 : Option Addr} {L X Y Z : List UInt8} {w w' : World} (h : Parts w0 A A1 A2 L X Y Z w) (hb : Below w.heap.size w w') : Parts w0 A A1 A2 L X Y Z w' :=
  have hb' : Below w0.heap.size w w' := hb.mono h.below.size
  ⟨h.tab.below hb, h.below.trans hb', h.all.below hb', h.x.below hb', h.y.below hb', h.z.below hb'⟩

set_option maxRecDepth 100000 in
theorem parts_walk (A : Option Addr) (l : List UInt8) (cap : Nat) (x0 x1 x2 : Int) (w : World) (hcap : l.length ≤ cap) (_ : cap ≤ 9223372036854775807) (h00 : 0 ≤ x0) (h01 : x0 < 65536) (h10 : 0 ≤ x1) (h11 : x1 < 65536)
    (hT : Tab w) (hl : Bs w w.heap.size A l) :
    Calls Tryd.prog 6 #[.slice A l.length cap, .agg #[.int .u16 x0, .int .u16 x1, .int .u16 x2]] w fun e w' => e = .returned (.bool true) ∧ Below w.heap.size w w' := by
  have HT := Lib.hid hT
  have HL := Lib.hid hl
  clear hT hl
  go_enter Tryd.func6, Tryd.ntmps6
  go_upto_region 1 with fail
  go_cut [0] (fun s0 wx => s0 = .slice A (l.take 3000).length cap ∧ wx = w.alloc (.cells #[.int .u16 x0, .int .u16 x1, .int .u16 x2] 38))
  case first =>
    go_wp2
    all_goals go_meet
    all_goals refine ⟨?_, rfl⟩
    all_goals rw [List.length_take]
    all_goals congr 1
    all_goals omega
  case rest =>
    obtain ⟨rfl, rfl⟩ := hcut
    obtain ⟨n, hn'⟩ : ∃ n, (l.take 3000).length = n := ⟨_, rfl⟩
    rw [hn']
    have hn : n ≤ 3000 := by rw [← hn', List.length_take]; omega
    have hnc : n ≤ cap := by rw [← hn', List.length_take]; omega
    have HL2 := Lib.hid (HL.out.take' 3000)
    have HN := Lib.hid hn'
    clear HL hn'
    generalize l.take 3000 = L at *
    have hw1 : IntKind.i64.wrap ((n : Int) + 1) = (n : Int) + 1 := IntWalk.i64_in _ (by omega)
    have hx0 : IntKind.i64.wrap x0 = x0 := IntWalk.i64_in _ (by omega)
    have hx1 : IntKind.i64.wrap x1 = x1 := IntWalk.i64_in _ (by omega)
    have hw2 : (1 : Int) ≤ (n : Int) + 1 := by omega
    have hw3 : ¬ ((n : Int) + 1 = 0) := by omega
    have hw4 : ((n : Int) + 1 == 0) = false := by simp; omega
    go_wp2_with fail
    go_quiet (fail)
    clear hx0 hx1
    obtain ⟨p, hp⟩ : ∃ p : Nat, x0 % ((n : Int) + 1) = (p : Int) := ⟨(x0 % ((n : Int) + 1)).toNat, by rw [Int.toNat_of_nonneg (Int.emod_nonneg _ (by omega))]⟩
    obtain ⟨q, hq⟩ : ∃ q : Nat, x1 % ((n : Int) + 1) = (q : Int) := ⟨(x1 % ((n : Int) + 1)).toNat, by rw [Int.toNat_of_nonneg (Int.emod_nonneg _ (by omega))]⟩
    have hpn : p ≤ n := by have := Int.emod_lt_of_pos x0 (show (0 : Int) < (n : Int) + 1 by omega); omega
    have hqn : q ≤ n := by have := Int.emod_lt_of_pos x1 (show (0 : Int) < (n : Int) + 1 by omega); omega
    rw [hp, hq]
    clear hp hq
    have HB := Lib.hid (below_drewN ((Below.refl w.heap.size w).alloc (Nat.le_refl _) (.cells #[.int .u16 x0, .int .u16 x1, .int .u16 x2] 38)) nq)
    generalize (w.alloc (.cells #[.int .u16 x0, .int .u16 x1, .int .u16 x2] 38)).drewN nq = W at *
    go_upto_if 40 with (fail)
    go_cut [5, 6] (fun s5 s6 wx => ∃ i k : Nat, i ≤ k ∧ k ≤ n ∧ s5 = .int .i64 i ∧ s6 = .int .i64 k ∧ wx = W)
    case first =>
      go_wp2
      · have hlt : q < p := by omega
        go_meet
        exact ⟨q, p, by omega, by omega, rfl, rfl, rfl⟩
      · have hge : p ≤ q := by omega
        go_meet
        exact ⟨p, q, by omega, by omega, rfl, rfl, rfl⟩
    case rest =>
      obtain ⟨i, k, hik, hkn, rfl, rfl, rfl⟩ := hcut
      clear hpn hqn
      go_upto_region 5 with (fail)
      go_cut [7, 8, 9] (fun s7 s8 s9 wx => ∃ (X Y Z : List UInt8) (A1 A2 : Option Addr) (c1 c2 : Nat), s7 = .slice A X.length cap ∧ s8 = .slice A1 Y.length c1 ∧ s9 = .slice A2 Z.length c2 ∧ L = X ++ (Y ++ Z) ∧ Parts w A A1 A2 L X Y Z wx)
      case first =>
        go_quiet (fail)
        generalize hA1 : (if cap = i then A else Option.map (fun x => x.add i) A) = A1
        generalize hA2 : (if cap = k then A else Option.map (fun x => x.add k) A) = A2
        have HA1 := Lib.hid hA1
        have HA2 := Lib.hid hA2
        clear hA1 hA2
        go_wp2_with fail
        go_meet
        have hA1 := HA1.out
        have hA2 := HA2.out
        have hLn := HN.out
        have hB := below_drewN HB.out nq
        have hL := HL2.out.below hB
        have e : L = L.take i ++ ((L.drop i).take (k - i) ++ L.drop k) := by
          have e1 : L.drop k = (L.drop i).drop (k - i) := by rw [List.drop_drop]; congr 1; omega
          rw [e1, List.take_append_drop, List.take_append_drop]
        refine ⟨L.take i, (L.drop i).take (k - i), L.drop k, A1, A2, cap - i, cap - k, ?_, ?_, ?_, e, HT.out.below hB, hB, hL, Bs.take' hL i, ?_, ?_⟩
        · rw [List.length_take, Nat.min_eq_left (by omega)]
        · rw [List.length_take, List.length_drop, Nat.min_eq_left (by omega)]
        · rw [List.length_drop, hLn]
        · refine Bs.take' (Bs.drop hL i (by omega) (fun hlt => ?_)) _
          rw [← hA1, if_neg (by omega)]
        · refine Bs.drop hL k (by omega) (fun hlt => ?_)
          rw [← hA2, if_neg (by omega)]
      case rest =>
        obtain ⟨X, Y, Z, A1, A2, c1, c2, rfl, rfl, rfl, hE, hP⟩ := hcut
        have hLn := HN.out
        subst hLn
        have hx : X.length + (Y.length + Z.length) ≤ 3000 := by rw [hE, List.length_append, List.length_append] at hn; exact hn
        have HP := Lib.hid hP
        have HE := Lib.hid hE
        have hll : L.length ≤ 140737488351232 := by omega
        clear hE hP HB HN HL2 HT hw1 hw2 hw3 hw4 hik hkn hnc hn
        go_wp2_with fail
        refine (sum_any A L cap _ _ hll HP.out.tab HP.out.all).mono ?_
        rintro e w' ⟨rfl, rfl⟩
        go_wp2_with fail
        refine (sum_any A X cap _ _ (by omega) HP.out.tab HP.out.x).mono ?_
        rintro e w' ⟨rfl, rfl⟩
        go_wp2_with fail
        refine (sum_any A1 Y c1 _ _ (by omega) HP.out.tab HP.out.y).mono ?_
        rintro e w' ⟨rfl, rfl⟩
        go_wp2_with fail
        refine (join_any _ _ Y.length (by omega) _).mono ?_
        rintro e w1 ⟨rfl, hb⟩
        rw [← Cm.sum_join]
        have HP1 := Lib.hid (HP.out.next hb)
        clear hb HP
        go_wp2_with fail
        refine (sum_any A2 Z c2 _ _ (by omega) HP1.out.tab HP1.out.z).mono ?_
        rintro e w' ⟨rfl, rfl⟩
        go_wp2_with fail
        refine (join_any _ _ Z.length (by omega) _).mono ?_
        rintro e w2 ⟨rfl, hb⟩
        rw [← Cm.sum_join, List.append_assoc, ← HE.out]
        have HP2 := Lib.hid (HP1.out.next hb)
        clear hb HP1
        go_wp2_with fail
        refine (sum_any A1 Y c1 _ _ (by omega) HP2.out.tab HP2.out.y).mono ?_
        rintro e w' ⟨rfl, rfl⟩
        go_wp2_with fail
        refine (sum_any A2 Z c2 _ _ (by omega) HP2.out.tab HP2.out.z).mono ?_
        rintro e w' ⟨rfl, rfl⟩
        go_wp2_with fail
        refine (join_any _ _ Z.length (by omega) _).mono ?_
        rintro e w3 ⟨rfl, hb⟩
        rw [← Cm.sum_join]
        have HP3 := Lib.hid (HP2.out.next hb)
        clear hb HP2
        go_wp2_with fail
        refine (sum_any A X cap _ _ (by omega) HP3.out.tab HP3.out.x).mono ?_
        rintro e w' ⟨rfl, rfl⟩
        go_wp2_with fail
        rw [show (Y.length : Int) + (Z.length : Int) = ((Y ++ Z).length : Nat) by rw [List.length_append]; rfl]
        refine (join_any _ _ (Y ++ Z).length (by rw [List.length_append]; omega) _).mono ?_
        rintro e w4 ⟨rfl, hb⟩
        rw [← Cm.sum_join, ← HE.out]
        have HP4 := Lib.hid (HP3.out.next hb)
        clear hb HP3
        go_wp2_with fail
        refine (sum_any A X cap _ _ (by omega) HP4.out.tab HP4.out.x).mono ?_
        rintro e w' ⟨rfl, rfl⟩
        go_wp2_with fail
        refine (more_any _ A1 Y c1 _ _ (by omega) HP4.out.tab HP4.out.y).mono ?_
        rintro e w' ⟨rfl, rfl⟩
        go_wp2_with fail
        refine (more_any _ A2 Z c2 _ _ (by omega) HP4.out.tab HP4.out.z).mono ?_
        rintro e w' ⟨rfl, rfl⟩
        rw [show Cm.more (Cm.more (Cm.sum X) Y) Z = Cm.sum L by rw [HE.out]; unfold Cm.sum; rw [← Cm.more_append, ← Cm.more_append]]
        go_wp2_with fail
        refine (knows_any _ HP4.out.tab).mono ?_
        rintro e w5 ⟨rfl, hb⟩
        go_wp2_with fail
        go_ret
        exact ⟨rfl, HP4.out.below.trans (hb.mono HP4.out.below.size)⟩

theorem parts_raw (W : World) (A : Option Addr) (l : List UInt8) (cap : Nat) (hl : l.length ≤ cap) (hm : cap ≤ maxLen) (hc : Bs W W.heap.size A l) (x0 x1 x2 : Int) (h00 : 0 ≤ x0) (h01 : x0 ≤ 65535) (h10 : 0 ≤ x1) (h11 : x1 ≤ 65535) (_ : 0 ≤ x2) (_ : x2 ≤ 65535) (hT : Tab W) :
    Calls Tryd.prog 6 #[.slice A l.length cap, .agg ([x0, x1, x2].map (Value.int .u16)).toArray] W fun e w' => e = .returned (.bool true) ∧ Below W.heap.size W w' :=
  parts_walk A l cap x0 x1 x2 W hl (by unfold maxLen at hm; omega) h00 (by omega) h10 (by omega) hT hc
end Go.Proofs.YthdmapjdfghgfaaDoor
