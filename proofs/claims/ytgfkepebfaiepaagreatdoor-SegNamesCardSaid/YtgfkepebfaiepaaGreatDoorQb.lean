/-
  Sorting numbers, on.
-/
import Derived.Test.YtgfkepebfaiepaaGreatDoorQa
import Derived.Sort.Walk13a
import Derived.Sort.AssemblyPlain
import Derived.Test.YtgfkepebfaiepaaGreatDoorQt
namespace Go.Proofs.YtgfkepebfaiepaaGreatDoor.Ax
open Go.RowKit Go.Sort
set_option maxRecDepth 100000
theorem scanSorted_le (d : Array Nat) (b : Nat) : ∀ (m i : Nat), b - i = m → i ≤ b → scanSorted nlt d b i ≤ b ∧ i ≤ scanSorted nlt d b i
 | 0, i, h, hi => by
   unfold scanSorted
   rw [if_neg (by simp; omega)]
   exact ⟨hi, Nat.le_refl _⟩
 | m + 1, i, h, hi => by
   unfold scanSorted
   split
   ·rename_i hc
    have := scanSorted_le d b m (i + 1) (by omega) (by simp at hc; omega)
    omega
   ·exact ⟨hi, Nat.le_refl _⟩
theorem shiftDown_size : ∀ (j : Nat) (d : Array Nat), (shiftDown nlt j d).size = d.size
 | 0, d => rfl
 | j + 1, d => by
   unfold shiftDown
   split
   ·rfl
   ·rw [shiftDown_size j]; exact size_swp ..
theorem shiftUp_size (b : Nat) : ∀ (m j : Nat) (d : Array Nat), b - j = m → (shiftUp nlt b j d).size = d.size
 | 0, j, d, h => by
   unfold shiftUp
   rw [if_neg (by omega)]
 | m + 1, j, d, h => by
   unfold shiftUp
   split
   ·split
    ·rfl
    ·rw [shiftUp_size b m (j + 1) _ (by omega)]; exact size_swp ..
   ·rfl
structure PI (n a b : Nat) (R : Array Nat × Bool) where
 k : Nat
 i : Nat
 d : Array Nat
 hk : k ≤ 5
 hs : d.size = n
 hai : a < i
 hib : i ≤ b
 hR : partialIns nlt a b (5 - k) i d = R
set_option maxHeartbeats 4000000 in
theorem partial_ok (n : Nat) (d : Array Nat) (a b : Nat) (hn : d.size = n) (hab : a + 1 < b) (hb : b ≤ n) (h1000 : n ≤ 1000000) : AFn Go.Proofs.Tryz.prog 284 [.row 0 1 0 n, AV.int .i64 a, AV.int .i64 b] (uH n d) (fun _ : Unit => AV.bool (partialInsertionSort nlt d a b).2) (fun _ => uH n (partialInsertionSort nlt d a b).1) := by
 generalize hR0 : partialInsertionSort nlt d a b = R
 refine ACall.fin ?_
 refine ACall.walk (C := cfgU 133 1) (cfgUOk _ _) sch284 (fn := Go.Proofs.Tryz.f284) (by kernel_rfl) (by kernel_rfl) rfl (by kernel_rfl) (by kernel_rfl) rfl rfl ?_
 refine goA ?_
 refine AWP.loop (X := PI n a b R) (fun x => [(0, .row 0 1 0 n), (1, AV.int .i64 a), (2, AV.int .i64 b), (7, AV.int .i64 x.i), (8, AV.int .i64 x.k)]) (fun x => uH n x.d) (fun x => 5 - x.k) (⟨0, a + 1, d, by omega, hn, by omega, by omega, hR0⟩) ?_ fun x => AWP.go (S := sch284) (cfgUOk _ _) (.of_eq (by kernel_rfl)) ?_
 ·refine Ent.mk' [some 0] (by kernel_rfl) ⟨AVE.refl _, AVE.refl _, AVE.refl _, AVE.int (by dsimp only; omega), AVE.int (by dsimp only; omega), trivial⟩ (by exact subC)
 ·obtain ⟨k, i0, d, hk, hs, hai, hib, hR⟩ := x
  clear hR0 hn
  refine goA ?_
  refine ifdA (fun h5 => ?_) (fun h5 => ?_) <;> (try dsimp only at h5)
  rotate_left
  ·have e0 : R = (d, false) := by
    rw [← hR, show 5 - k = 0 from by omega]
    rfl
   subst e0
   refine goA ?_
   refine ⟨_, _, Ent.mk' (e' := [(0, AV.bool false)]) (H' := uH n d) [some 0] (by kernel_rfl) ?_ ?_, (), rfl, rfl⟩
   ·exact ⟨AVE.refl _, trivial⟩
   ·exact subC
  obtain ⟨I, hI⟩ : ∃ I, I = scanSorted nlt d b i0 := ⟨_, rfl⟩
  obtain ⟨hIb, hIa⟩ := scanSorted_le d b _ i0 rfl hib
  rw [← hI] at hIb hIa
  rw [show 5 - k = (4 - k) + 1 from by omega, partialIns_succ, ← hI] at hR
  have iI : ((I : Nat) : Int).toNat = I := by simp
  have iI1 : ((I : Int) - 1).toNat = I - 1 := by omega
  refine goA ?_
  refine AWP.merge (Y := Unit) (fun u => [(0, .row 0 1 0 n), (1, AV.int .i64 a), (2, AV.int .i64 b), (7, AV.int .i64 I), (8, AV.int .i64 k)]) (fun u => uH n d) 2 (fun u => ?_) ?_
  ·refine goA ?_
   refine ifdA (fun h => ?_) (fun h => ?_) <;> (try dsimp only at h)
   ·rw [if_pos (show I = b by omega)] at hR
    subst hR
    refine goA ?_
    refine ⟨_, _, Ent.mk' (e' := [(0, AV.bool true)]) (H' := uH n d) [some 0] (by kernel_rfl) ?_ ?_, (), rfl, rfl⟩
    ·exact ⟨AVE.refl _, trivial⟩
    ·exact subC
   ·rw [if_neg (show ¬ I = b by omega)] at hR
    refine goA ?_
    refine ifdA (fun h50 => ?_) (fun h50 => ?_) <;> (try dsimp only at h50)
    ·rw [if_pos (show b - a < 50 by omega)] at hR
     subst hR
     refine goA ?_
     refine ⟨_, _, Ent.mk' (e' := [(0, AV.bool false)]) (H' := uH n d) [some 0] (by kernel_rfl) ?_ ?_, (), rfl, rfl⟩
     ·exact ⟨AVE.refl _, trivial⟩
     ·exact subC
    ·rw [if_neg (show ¬ b - a < 50 by omega)] at hR
     unfold fixUp fixDown at hR
     generalize hD1 : swp d I (I - 1) = D1 at hR
     have s1 : D1.size = n := by rw [← hD1, size_swp]; exact hs
     refine goA ?_
     refine ifdA (fun ga => ?_) (fun ga => ?_) <;> (try dsimp only at ga)
     ·have ha2 : I - a ≥ 2 := by omega
      rw [if_pos ha2] at hR
      generalize hD2 : shiftDown nlt (I - 1) D1 = D2 at hR
      have s2 : D2.size = n := by rw [← hD2, shiftDown_size]; exact s1
      refine goA ?_
      refine AWP.merge (Y := Unit) (fun u => [(0, .row 0 1 0 n), (1, AV.int .i64 a), (2, AV.int .i64 b), (7, AV.int .i64 I), (8, AV.int .i64 k)]) (fun u => uH n D2) 4 (fun u => ?_) ?_
      ·refine goA ?_
       refine ifdA (fun gb => ?_) (fun gb => ?_) <;> (try dsimp only at gb)
       ·have hb2 : b - I ≥ 2 := by omega
        rw [if_pos hb2] at hR
        generalize hD3 : shiftUp nlt b (I + 1) D2 = D3 at hR
        have s3 : D3.size = n := by rw [← hD3, shiftUp_size b _ (I + 1) D2 rfl]; exact s2
        refine goA ?_
        refine AWP.merge (Y := Unit) (fun u => [(0, .row 0 1 0 n), (1, AV.int .i64 a), (2, AV.int .i64 b), (7, AV.int .i64 I), (8, AV.int .i64 k)]) (fun u => uH n D3) 6 (fun u => ?_) ?_
        ·refine goA ?_
         refine ⟨⟨k + 1, I, D3, by omega, s3, by omega, by omega, by rw [show 5 - (k + 1) = 4 - k from by omega]; exact hR⟩, Ent.mkA [some 0], ?_⟩
         show 5 - (k + 1) < 5 - k
         omega
        refine AWP.loop (X := { z : Nat × Array Nat // z.2.size = n ∧ 1 ≤ z.1 ∧ z.1 ≤ b ∧ shiftUp nlt b z.1 z.2 = D3 }) (fun z => [(0, .row 0 1 0 n), (1, AV.int .i64 a), (2, AV.int .i64 b), (7, AV.int .i64 I), (8, AV.int .i64 k), (10, AV.int .i64 z.1.1)]) (fun z => uH n z.1.2) (fun z => b - z.1.1) (⟨(I + 1, D2), s2, by dsimp only; omega, by dsimp only; omega, hD3⟩) ?_ fun z => AWP.go (S := sch284) (cfgUOk _ _) (.of_eq (by kernel_rfl)) ?_
        ·exact Ent.mk' [some 0] (by kernel_rfl) ⟨AVE.refl _, AVE.refl _, AVE.refl _, AVE.refl _, AVE.refl _, AVE.int (by dsimp only; omega), trivial⟩ (by exact subC)
        ·obtain ⟨⟨z, dz⟩, zs, z1, zb, hz⟩ := z
         dsimp only at zs z1 zb hz
         have iz : ((z : Nat) : Int).toNat = z := by simp
         have iz1 : ((z : Int) - 1).toNat = z - 1 := by omega
         refine goA ?_
         refine ifdA (fun gz => ?_) (fun gz => ?_) <;> (try dsimp only at gz)
         ·refine goA ?_
          refine AFn.useA [] (less_ok _ _) fun _ => ?_
          refine goA ?_
          refine ifdA (fun gl => ?_) (fun gl => ?_) <;> (try dsimp only at gl)
          ·have hl : (!nlt dz[z]! dz[z - 1]!) = true := by simp only [iz, iz1, Nat.zero_add] at gl; simpa [nlt] using gl
           have e0 : D3 = dz := by
            rw [← hz]
            unfold shiftUp
            rw [if_pos (by omega), if_pos hl]
           subst e0
           refine goA ?_
           exact ⟨(), Ent.mkA [some 0]⟩
          ·have hl : ¬ (!nlt dz[z]! dz[z - 1]!) = true := by simp only [iz, iz1, Nat.zero_add] at gl; simpa [nlt] using gl
           refine goA ?_
           refine ⟨⟨(z + 1, swp dz z (z - 1)), by rw [size_swp]; exact zs, by dsimp only; omega, by dsimp only; omega, ?_⟩, Ent.mkC [some 0] ?_, ?_⟩
           ·rw [← hz]
            conv => rhs; unfold shiftUp
            rw [if_pos (show z < b by omega), if_neg hl]
           ·refine ⟨⟨_, rfl, ?_⟩, trivial⟩
            simp only [iz, iz1, Nat.zero_add]
            exact uswp (by omega) (by omega)
           ·show b - (z + 1) < b - z
            omega
         ·have e0 : D3 = dz := by
           rw [← hz]
           unfold shiftUp
           rw [if_neg (by omega)]
          subst e0
          refine goA ?_
          exact ⟨(), Ent.mkA [some 0]⟩
       ·have hb2 : ¬ b - I ≥ 2 := by omega
        rw [if_neg hb2] at hR
        refine goA ?_
        refine ⟨⟨k + 1, I, D2, by omega, s2, by omega, by omega, by rw [show 5 - (k + 1) = 4 - k from by omega]; exact hR⟩, Ent.mk' [some 0] (by kernel_rfl) ⟨AVE.refl _, AVE.refl _, AVE.refl _, AVE.refl _, AVE.int (by dsimp only; omega), trivial⟩ (by exact subC), ?_⟩
        show 5 - (k + 1) < 5 - k
        omega
      refine AWP.loop (X := { y : Nat × Array Nat // y.2.size = n ∧ y.1 < n ∧ shiftDown nlt y.1 y.2 = D2 }) (fun y => [(0, .row 0 1 0 n), (1, AV.int .i64 a), (2, AV.int .i64 b), (7, AV.int .i64 I), (8, AV.int .i64 k), (9, AV.int .i64 y.1.1)]) (fun y => uH n y.1.2) (fun y => y.1.1) (⟨(I - 1, D1), s1, by dsimp only; omega, hD2⟩) ?_ fun y => AWP.go (S := sch284) (cfgUOk _ _) (.of_eq (by kernel_rfl)) ?_
      ·subst hD1
       exact Ent.mk' [some 0] (by kernel_rfl) ⟨AVE.refl _, AVE.refl _, AVE.refl _, AVE.refl _, AVE.refl _, AVE.int (by dsimp only; omega), trivial⟩ ⟨⟨_, rfl, by simp only [iI1, iI, Nat.zero_add]; exact uswp (by omega) (by omega)⟩, trivial⟩
      ·obtain ⟨⟨y, dy⟩, ys, yn, hy⟩ := y
       dsimp only at ys yn hy
       have iy : ((y : Nat) : Int).toNat = y := by simp
       have iy1 : ((y : Int) - 1).toNat = y - 1 := by omega
       refine goA ?_
       refine ifdA (fun gy => ?_) (fun gy => ?_) <;> (try dsimp only at gy)
       ·obtain ⟨z, rfl⟩ : ∃ z, y = z + 1 := ⟨y - 1, by omega⟩
        refine goA ?_
        refine AFn.useA [] (less_ok _ _) fun _ => ?_
        refine goA ?_
        refine ifdA (fun gl => ?_) (fun gl => ?_) <;> (try dsimp only at gl)
        ·have hl : (!nlt dy[z + 1]! dy[z]!) = true := by simp only [iy, iy1, Nat.zero_add, Nat.add_sub_cancel] at gl; simpa [nlt] using gl
         have e0 : D2 = dy := by
          rw [← hy]
          unfold shiftDown
          rw [if_pos hl]
         subst e0
         refine goA ?_
         exact ⟨(), Ent.mkA [some 0]⟩
        ·have hl : ¬ (!nlt dy[z + 1]! dy[z]!) = true := by simp only [iy, iy1, Nat.zero_add, Nat.add_sub_cancel] at gl; simpa [nlt] using gl
         refine goA ?_
         refine ⟨⟨(z, swp dy (z + 1) z), by rw [size_swp]; exact ys, by dsimp only; omega, ?_⟩, Ent.mkC [some 0] ?_, ?_⟩
         ·rw [← hy]
          conv => rhs; unfold shiftDown
          rw [if_neg hl]
         ·refine ⟨⟨_, rfl, ?_⟩, trivial⟩
          simp only [iy, iy1, Nat.zero_add, Nat.add_sub_cancel]
          exact uswp (by omega) (by omega)
         ·show z < z + 1
          omega
       ·have e0 : D2 = dy := by
         rw [← hy, show y = 0 from by omega]
         rfl
        subst e0
        refine goA ?_
        exact ⟨(), Ent.mkA [some 0]⟩
     ·have ha2 : ¬ I - a ≥ 2 := by omega
      rw [if_neg ha2] at hR
      refine goA ?_
      subst hD1
      refine ifdA (fun gb => ?_) (fun gb => ?_) <;> (try dsimp only at gb)
      ·have hb2 : b - I ≥ 2 := by omega
       rw [if_pos hb2] at hR
       generalize hD3 : shiftUp nlt b (I + 1) (swp d I (I - 1)) = D3 at hR
       have s3 : D3.size = n := by rw [← hD3, shiftUp_size b _ (I + 1) (swp d I (I - 1)) rfl]; exact s1
       refine goA ?_
       refine AWP.merge (Y := Unit) (fun u => [(0, .row 0 1 0 n), (1, AV.int .i64 a), (2, AV.int .i64 b), (7, AV.int .i64 I), (8, AV.int .i64 k)]) (fun u => uH n D3) 6 (fun u => ?_) ?_
       ·refine goA ?_
        refine ⟨⟨k + 1, I, D3, by omega, s3, by omega, by omega, by rw [show 5 - (k + 1) = 4 - k from by omega]; exact hR⟩, Ent.mkA [some 0], ?_⟩
        show 5 - (k + 1) < 5 - k
        omega
       refine AWP.loop (X := { z : Nat × Array Nat // z.2.size = n ∧ 1 ≤ z.1 ∧ z.1 ≤ b ∧ shiftUp nlt b z.1 z.2 = D3 }) (fun z => [(0, .row 0 1 0 n), (1, AV.int .i64 a), (2, AV.int .i64 b), (7, AV.int .i64 I), (8, AV.int .i64 k), (10, AV.int .i64 z.1.1)]) (fun z => uH n z.1.2) (fun z => b - z.1.1) (⟨(I + 1, (swp d I (I - 1))), s1, by dsimp only; omega, by dsimp only; omega, hD3⟩) ?_ fun z => AWP.go (S := sch284) (cfgUOk _ _) (.of_eq (by kernel_rfl)) ?_
       ·exact Ent.mk' [some 0] (by kernel_rfl) ⟨AVE.refl _, AVE.refl _, AVE.refl _, AVE.refl _, AVE.refl _, AVE.int (by dsimp only; omega), trivial⟩ ⟨⟨_, rfl, by simp only [iI1, iI, Nat.zero_add]; exact uswp (by omega) (by omega)⟩, trivial⟩
       ·obtain ⟨⟨z, dz⟩, zs, z1, zb, hz⟩ := z
        dsimp only at zs z1 zb hz
        have iz : ((z : Nat) : Int).toNat = z := by simp
        have iz1 : ((z : Int) - 1).toNat = z - 1 := by omega
        refine goA ?_
        refine ifdA (fun gz => ?_) (fun gz => ?_) <;> (try dsimp only at gz)
        ·refine goA ?_
         refine AFn.useA [] (less_ok _ _) fun _ => ?_
         refine goA ?_
         refine ifdA (fun gl => ?_) (fun gl => ?_) <;> (try dsimp only at gl)
         ·have hl : (!nlt dz[z]! dz[z - 1]!) = true := by simp only [iz, iz1, Nat.zero_add] at gl; simpa [nlt] using gl
          have e0 : D3 = dz := by
           rw [← hz]
           unfold shiftUp
           rw [if_pos (by omega), if_pos hl]
          subst e0
          refine goA ?_
          exact ⟨(), Ent.mkA [some 0]⟩
         ·have hl : ¬ (!nlt dz[z]! dz[z - 1]!) = true := by simp only [iz, iz1, Nat.zero_add] at gl; simpa [nlt] using gl
          refine goA ?_
          refine ⟨⟨(z + 1, swp dz z (z - 1)), by rw [size_swp]; exact zs, by dsimp only; omega, by dsimp only; omega, ?_⟩, Ent.mkC [some 0] ?_, ?_⟩
          ·rw [← hz]
           conv => rhs; unfold shiftUp
           rw [if_pos (show z < b by omega), if_neg hl]
          ·refine ⟨⟨_, rfl, ?_⟩, trivial⟩
           simp only [iz, iz1, Nat.zero_add]
           exact uswp (by omega) (by omega)
          ·show b - (z + 1) < b - z
           omega
        ·have e0 : D3 = dz := by
          rw [← hz]
          unfold shiftUp
          rw [if_neg (by omega)]
         subst e0
         refine goA ?_
         exact ⟨(), Ent.mkA [some 0]⟩
      ·have hb2 : ¬ b - I ≥ 2 := by omega
       rw [if_neg hb2] at hR
       refine goA ?_
       refine ⟨⟨k + 1, I, (swp d I (I - 1)), by omega, s1, by omega, by omega, by rw [show 5 - (k + 1) = 4 - k from by omega]; exact hR⟩, Ent.mk' [some 0] (by kernel_rfl) ⟨AVE.refl _, AVE.refl _, AVE.refl _, AVE.refl _, AVE.int (by dsimp only; omega), trivial⟩ ⟨⟨_, rfl, by simp only [iI1, iI, Nat.zero_add]; exact uswp (by omega) (by omega)⟩, trivial⟩, ?_⟩
       show 5 - (k + 1) < 5 - k
       omega
  refine AWP.loop (X := { y : Nat // a < y ∧ y ≤ b ∧ scanSorted nlt d b y = I }) (fun y => [(0, .row 0 1 0 n), (1, AV.int .i64 a), (2, AV.int .i64 b), (7, AV.int .i64 y.1), (8, AV.int .i64 k)]) (fun y => uH n d) (fun y => b - y.1) (⟨i0, by omega, by omega, hI.symm⟩) ?_ fun y => AWP.go (S := sch284) (cfgUOk _ _) (.of_eq (by kernel_rfl)) ?_
  ·exact Ent.mkA [some 0]
  ·obtain ⟨y, hya, hyb, hy⟩ := y
   have iy : ((y : Nat) : Int).toNat = y := by simp
   have iy1 : ((y : Int) - 1).toNat = y - 1 := by omega
   refine goA ?_
   refine ifdA (fun g => ?_) (fun g => ?_) <;> (try dsimp only at g)
   ·refine goA ?_
    refine AFn.useA [] (less_ok _ _) fun _ => ?_
    refine goA ?_
    refine ifdA (fun g2 => ?_) (fun g2 => ?_) <;> (try dsimp only at g2)
    ·have hc : (decide (y < b) && !nlt d[y]! d[y - 1]!) = true := by simp only [iy, iy1, Nat.zero_add] at g2; simp only [Bool.and_eq_true, decide_eq_true_eq]; exact ⟨by omega, by simpa [nlt] using g2⟩
     refine goA ?_
     refine ⟨⟨y + 1, by omega, by omega, ?_⟩, Ent.mkC [some 0] ?_, ?_⟩
     ·rw [← hy]
      conv => rhs; unfold scanSorted
      rw [if_pos hc]
     ·exact subC
     ·show b - (y + 1) < b - y
      omega
    ·have hc : ¬ (decide (y < b) && !nlt d[y]! d[y - 1]!) = true := by simp only [iy, iy1, Nat.zero_add] at g2; simp only [Bool.and_eq_true, decide_eq_true_eq]; exact fun h => by have := h.2; simp [nlt] at this; omega
     have e0 : I = y := by
      rw [← hy]
      unfold scanSorted
      rw [if_neg hc]
     refine goA ?_
     exact ⟨(), Ent.mk' [some 0] (by kernel_rfl) ⟨AVE.refl _, AVE.refl _, AVE.refl _, AVE.int (congrArg Int.ofNat e0.symm), AVE.refl _, trivial⟩ (by exact subC)⟩
   ·have e0 : I = y := by
     rw [← hy]
     unfold scanSorted
     rw [if_neg (by simp only [Bool.and_eq_true, decide_eq_true_eq]; exact fun h => by have := h.1; omega)]
    refine goA ?_
    exact ⟨(), Ent.mk' [some 0] (by kernel_rfl) ⟨AVE.refl _, AVE.refl _, AVE.refl _, AVE.int (congrArg Int.ofNat e0.symm), AVE.refl _, trivial⟩ (by exact subC)⟩
  end Go.Proofs.YtgfkepebfaiepaaGreatDoor.Ax

namespace Go.Proofs.YtgfkepebfaiepaaGreatDoor.Ax
open Go.RowKit Go.Sort
set_option maxRecDepth 100000
structure PX (n w : Nat) (R : Array Nat) where
 a : Nat
 b : Nat
 lim : Nat
 wb : Bool
 wp : Bool
 d : Array Nat
 hs : d.size = n
 hab : a ≤ b
 hb : b ≤ n
 hl : lim ≤ 100
 hw : b - a ≤ w
 hB : Go.Sort.Below nlt a b d
 hR : pdq nlt d a b lim wb wp = R
set_option maxHeartbeats 8000000 in
theorem pdq_ok (n : Nat) (h1000 : n ≤ 1000000) : ∀ (w : Nat) (d : Array Nat) (a b lim : Nat), b - a = w → d.size = n → a ≤ b → b ≤ n → lim ≤ 100 → Go.Sort.Below nlt a b d → AFn Go.Proofs.Tryz.prog 237 [.row 0 1 0 n, AV.int .i64 a, AV.int .i64 b, AV.int .i64 lim] (uH n d) (fun _ : Unit => .tup []) (fun _ => uH n (pdq nlt d a b lim true true)) := by
 intro w
 induction w using Nat.strongRecOn with
 | ind w ih =>
 intro d a b lim hw hn hab hb hl hB
 generalize hR : pdq nlt d a b lim true true = R
 refine ACall.fin ?_
 refine ACall.walk (C := cfgU 134 1) (cfgUOk _ _) sch237 (fn := Go.Proofs.Tryz.f237) (by kernel_rfl) (by kernel_rfl) rfl (by kernel_rfl) (by kernel_rfl) rfl rfl ?_
 refine goA ?_
 refine AWP.loop (X := PX n w R) (fun x => [(0, .row 0 1 0 n), (1, AV.int .i64 x.a), (2, AV.int .i64 x.b), (3, AV.int .i64 x.lim), (8, AV.bool x.wb), (9, AV.bool x.wp)]) (fun x => uH n x.d) (fun x => x.b - x.a) (⟨a, b, lim, true, true, d, hn, hab, hb, hl, by omega, hB, hR⟩) ?_ fun x => AWP.go (S := sch237) (cfgUOk _ _) (.of_eq (by kernel_rfl)) ?_
 ·exact Ent.mkA [some 0]
 ·obtain ⟨a', b', lim', wb, wp, d', hn', hab', hb', hl', hw', hB', hR'⟩ := x
  clear hR hB hab hb hl hw hn
  refine goA ?_
  refine ifdA (fun h12 => ?_) (fun h12 => ?_) <;> (try dsimp only at h12)
  ·have e0 : R = insertionSort nlt d' a' b' := by rw [← hR', pdq_small (by omega)]
   subst e0
   refine goA ?_
   refine AFn.useA [0] (ins_ok n d' a' b' hn' hab' hb' h1000) fun _ => ?_
   refine goA ?_
   refine ⟨_, _, Ent.mk' (e' := [(0, .tup [])]) (H' := uH n (insertionSort nlt d' a' b')) [some 0] (by kernel_rfl) ?_ ?_, (), rfl, rfl⟩
   ·exact ⟨AVE.refl _, trivial⟩
   ·exact subC
  have h12' : ¬ b' - a' ≤ 12 := by omega
  refine goA ?_
  refine ifdA (fun h0 => ?_) (fun h0 => ?_) <;> (try dsimp only at h0)
  ·have e0 : R = heapSort nlt d' a' b' := by rw [← hR', pdq_heap h12' (by omega)]
   subst e0
   refine goA ?_
   refine AFn.useA [0] (heap_ok n d' a' b' hn' (by omega) hb' h1000) fun _ => ?_
   refine goA ?_
   refine ⟨_, _, Ent.mk' (e' := [(0, .tup [])]) (H' := uH n (heapSort nlt d' a' b')) [some 0] (by kernel_rfl) ?_ ?_, (), rfl, rfl⟩
   ·exact ⟨AVE.refl _, trivial⟩
   ·exact subC
  have h0' : ¬ lim' = 0 := by omega
  have F := rd_facts (limit := lim') (wb := wb) (wp := wp) nlt_swo partialInsertionSort_holds reverseRange_holds (show a' < b' by omega) (by rw [hn']; exact hb') hB'
  have hU := pdq_unfold (lt := nlt) (d := d') (a := a') (b := b') (limit := lim') (wb := wb) (wp := wp)
  rw [hR', if_neg h12', if_neg h0'] at hU
  have hf := fun (e : wb = false) => (show breakPatterns d' a' b' = (rd nlt d' a' b' lim' wb wp).d1 ∧ (rd nlt d' a' b' lim' wb wp).lim = lim' - 1 by subst e; exact ⟨rfl, rfl⟩)
  have ht := fun (e : wb = true) => (show d' = (rd nlt d' a' b' lim' wb wp).d1 ∧ (rd nlt d' a' b' lim' wb wp).lim = lim' by subst e; exact ⟨rfl, rfl⟩)
  have hc := rd_c (lt := nlt) (d := d') (a := a') (b := b') (limit := lim') (wb := wb) (wp := wp)
  have hd := rd_dec (lt := nlt) (d := d') (a := a') (b := b') (limit := lim') (wb := wb) (wp := wp)
  have hnd := rd_not (lt := nlt) (d := d') (a := a') (b := b') (limit := lim') (wb := wb) (wp := wp)
  have hpy := rd_pi_yes (lt := nlt) (d := d') (a := a') (b := b') (limit := lim') (wb := wb) (wp := wp)
  have hpn := rd_pi_no (lt := nlt) (d := d') (a := a') (b := b') (limit := lim') (wb := wb) (wp := wp)
  have hll := rd_lim_le (lt := nlt) (d := d') (a := a') (b := b') (limit := lim') (wb := wb) (wp := wp)
  generalize rd nlt d' a' b' lim' wb wp = r at F hU hf ht hc hd hnd hpy hpn hll
  obtain ⟨d1, lm, ⟨pv, hint0⟩, d2, pivot, hint, pi⟩ := r
  dsimp only at F hU hf ht hc hd hnd hpy hpn hll
  obtain ⟨s1, B1, ⟨c1, c2⟩, s2, B2, ⟨p1, p2⟩, s3, B3⟩ := F
  have hpiv := pivot_ok n d1 a' b' (by omega) (by omega) hb' h1000
  rw [← hc] at hpiv
  dsimp only at hpiv
  have hrev : hint0 = .decreasing → AFn Go.Proofs.Tryz.prog 283 [.row 0 1 0 n, AV.int .i64 a', AV.int .i64 b'] (uH n d1) (fun _ : Unit => .tup []) (fun _ => uH n d2) := fun e => (hd e).1 ▸ rev_ok n d1 a' b' (by omega) (by omega) hb' h1000
  have hpart := partial_ok n d2 a' b' (by omega) (by omega) hb' h1000
  rcases wb with _ | _
  obtain ⟨hf1, hf2⟩ := hf rfl
  have hbrk := brk_ok n d' a' b' hn' (by omega) hb' h1000
  rw [hf1] at hbrk
  refine goA ?_
  refine AFn.useA [0] (hbrk) fun _ => ?_
  refine goA ?_
  generalize hLd : ((lim' : Nat) : Int) - 1 = Lm
  have hLI : Lm = ((lm : Nat) : Int) := by omega
  refine AFn.useA [0] (hpiv) fun _ => ?_
  refine goA ?_
  rcases hint0 with _ | _ | _
  obtain ⟨hd1, hd2, hd3⟩ := hnd (by decide)
  subst hd1
  obtain ⟨P, hPd⟩ : ∃ P : Int, P = ((pv : Nat) : Int) := ⟨_, rfl⟩
  refine goA ?_
  rw [← hPd]
  have hPI : P = ((pivot : Nat) : Int) := by rw [hPd, hd2]
  have hpi := hpn (by first | rfl | (rw [hd3]; rfl))
  subst hpi
  dsimp only at hU s3 B3
  rw [if_neg (by decide)] at hU
  obtain ⟨D, hD⟩ : ∃ D, D = d2 := ⟨_, rfl⟩
  subst hD
  refine goA ?_
  refine goA ?_
  rotate_left
  obtain ⟨hd1, hd2, hd3⟩ := hnd (by decide)
  subst hd1
  obtain ⟨P, hPd⟩ : ∃ P : Int, P = ((pv : Nat) : Int) := ⟨_, rfl⟩
  refine goA ?_
  rw [← hPd]
  have hPI : P = ((pivot : Nat) : Int) := by rw [hPd, hd2]
  have hpi := hpn (by first | rfl | (rw [hd3]; rfl))
  subst hpi
  dsimp only at hU s3 B3
  rw [if_neg (by decide)] at hU
  obtain ⟨D, hD⟩ : ∃ D, D = d2 := ⟨_, rfl⟩
  subst hD
  refine goA ?_
  refine goA ?_
  rotate_left
  obtain ⟨hd1, hd2, hd3⟩ := hd rfl
  have hrv := hrev rfl
  refine goA ?_
  refine AFn.useA [0] (hrv) fun _ => ?_
  refine goA ?_
  generalize hPd : (b' : Int) - 1 - ((pv : Int) - a') = P
  have hPI : P = ((pivot : Nat) : Int) := by omega
  have hpi := hpn (by first | rfl | (rw [hd3]; rfl))
  subst hpi
  dsimp only at hU s3 B3
  rw [if_neg (by decide)] at hU
  obtain ⟨D, hD⟩ : ∃ D, D = d2 := ⟨_, rfl⟩
  subst hD
  refine goA ?_
  refine goA ?_
  rotate_left
  obtain ⟨ht1, ht2⟩ := ht rfl
  subst ht1
  obtain ⟨Lm, hLd⟩ : ∃ Lm : Int, Lm = ((lim' : Nat) : Int) := ⟨_, rfl⟩
  refine goA ?_
  rw [← hLd]
  have hLI : Lm = ((lm : Nat) : Int) := by rw [hLd, ht2]
  rcases wp with _ | _
  refine AFn.useA [0] (hpiv) fun _ => ?_
  refine goA ?_
  rcases hint0 with _ | _ | _
  obtain ⟨hd1, hd2, hd3⟩ := hnd (by decide)
  subst hd1
  obtain ⟨P, hPd⟩ : ∃ P : Int, P = ((pv : Nat) : Int) := ⟨_, rfl⟩
  refine goA ?_
  rw [← hPd]
  have hPI : P = ((pivot : Nat) : Int) := by rw [hPd, hd2]
  have hpi := hpn (by first | rfl | (rw [hd3]; rfl))
  subst hpi
  dsimp only at hU s3 B3
  rw [if_neg (by decide)] at hU
  obtain ⟨D, hD⟩ : ∃ D, D = d2 := ⟨_, rfl⟩
  subst hD
  refine goA ?_
  refine goA ?_
  rotate_left
  obtain ⟨hd1, hd2, hd3⟩ := hnd (by decide)
  subst hd1
  obtain ⟨P, hPd⟩ : ∃ P : Int, P = ((pv : Nat) : Int) := ⟨_, rfl⟩
  refine goA ?_
  rw [← hPd]
  have hPI : P = ((pivot : Nat) : Int) := by rw [hPd, hd2]
  have hpi := hpn (by first | rfl | (rw [hd3]; rfl))
  subst hpi
  dsimp only at hU s3 B3
  rw [if_neg (by decide)] at hU
  obtain ⟨D, hD⟩ : ∃ D, D = d2 := ⟨_, rfl⟩
  subst hD
  refine goA ?_
  refine goA ?_
  rotate_left
  obtain ⟨hd1, hd2, hd3⟩ := hd rfl
  have hrv := hrev rfl
  refine goA ?_
  refine AFn.useA [0] (hrv) fun _ => ?_
  refine goA ?_
  generalize hPd : (b' : Int) - 1 - ((pv : Int) - a') = P
  have hPI : P = ((pivot : Nat) : Int) := by omega
  have hpi := hpn (by first | rfl | (rw [hd3]; rfl))
  subst hpi
  dsimp only at hU s3 B3
  rw [if_neg (by decide)] at hU
  obtain ⟨D, hD⟩ : ∃ D, D = d2 := ⟨_, rfl⟩
  subst hD
  refine goA ?_
  refine goA ?_
  rotate_left
  refine AFn.useA [0] (hpiv) fun _ => ?_
  refine goA ?_
  rcases hint0 with _ | _ | _
  obtain ⟨hd1, hd2, hd3⟩ := hnd (by decide)
  subst hd1
  obtain ⟨P, hPd⟩ : ∃ P : Int, P = ((pv : Nat) : Int) := ⟨_, rfl⟩
  refine goA ?_
  rw [← hPd]
  have hPI : P = ((pivot : Nat) : Int) := by rw [hPd, hd2]
  have hpi := hpn (by first | rfl | (rw [hd3]; rfl))
  subst hpi
  dsimp only at hU s3 B3
  rw [if_neg (by decide)] at hU
  obtain ⟨D, hD⟩ : ∃ D, D = d2 := ⟨_, rfl⟩
  subst hD
  refine goA ?_
  refine goA ?_
  rotate_left
  obtain ⟨hd1, hd2, hd3⟩ := hnd (by decide)
  subst hd1
  obtain ⟨P, hPd⟩ : ∃ P : Int, P = ((pv : Nat) : Int) := ⟨_, rfl⟩
  refine goA ?_
  rw [← hPd]
  have hPI : P = ((pivot : Nat) : Int) := by rw [hPd, hd2]
  have hpi := hpy (by rw [hd3]; rfl)
  rw [← hpi] at hpart
  obtain ⟨D, done⟩ := pi
  dsimp only at hpart hU s3 B3
  refine goA ?_
  refine AFn.useA [0] (hpart) fun _ => ?_
  refine goA ?_
  refine ifdA (fun gd => ?_) (fun gd => ?_) <;> (try dsimp only at gd)
  ·subst gd
   rw [if_pos rfl] at hU
   subst hU
   refine goA ?_
   refine ⟨_, _, Ent.mk' (e' := [(0, .tup [])]) (H' := uH n R) [some 0] (by kernel_rfl) ?_ ?_, (), rfl, rfl⟩
   ·exact ⟨AVE.refl _, trivial⟩
   ·exact subC
  subst gd
  rw [if_neg (by decide)] at hU
  refine goA ?_
  rotate_left
  obtain ⟨hd1, hd2, hd3⟩ := hd rfl
  have hrv := hrev rfl
  refine goA ?_
  refine AFn.useA [0] (hrv) fun _ => ?_
  refine goA ?_
  generalize hPd : (b' : Int) - 1 - ((pv : Int) - a') = P
  have hPI : P = ((pivot : Nat) : Int) := by omega
  have hpi := hpy (by rw [hd3]; rfl)
  rw [← hpi] at hpart
  obtain ⟨D, done⟩ := pi
  dsimp only at hpart hU s3 B3
  refine goA ?_
  refine AFn.useA [0] (hpart) fun _ => ?_
  refine goA ?_
  refine ifdA (fun gd => ?_) (fun gd => ?_) <;> (try dsimp only at gd)
  ·subst gd
   rw [if_pos rfl] at hU
   subst hU
   refine goA ?_
   refine ⟨_, _, Ent.mk' (e' := [(0, .tup [])]) (H' := uH n R) [some 0] (by kernel_rfl) ?_ ?_, (), rfl, rfl⟩
   ·exact ⟨AVE.refl _, trivial⟩
   ·exact subC
  subst gd
  rw [if_neg (by decide)] at hU
  refine goA ?_
  rotate_left
  all_goals
   refine ifdA (fun ga => ?_) (fun ga => ?_) <;> (try dsimp only at ga)
   ·have ia : ((a' : Int) - 1).toNat = a' - 1 := by omega
    have ip : P.toNat = pivot := by omega
    refine goA ?_
    refine AFn.useA [] (less_ok _ _) fun _ => ?_
    refine goA ?_
    refine ifdA (fun gl => ?_) (fun gl => ?_) <;> (try dsimp only at gl)
    ·have hc2 : (decide (a' > 0) && !nlt D[a' - 1]! D[pivot]!) = true := by simp only [ia, ip, Nat.zero_add] at gl; simp only [Bool.and_eq_true, decide_eq_true_eq]; exact ⟨by omega, by simpa [nlt] using gl⟩
     rw [if_pos hc2] at hU
     have hnl : nlt D[a' - 1]! D[pivot]! = false := by simp only [Bool.and_eq_true] at hc2; simpa using hc2.2
     have hpe := partEq_ok n D a' b' pivot (by omega) (by omega) hb' p1 p2 h1000
     generalize hE : partitionEqual nlt D a' b' pivot = E at hU hpe
     obtain ⟨mid, d4⟩ := E
     obtain ⟨m1, m2, m3, m4, _⟩ := round_eq nlt_swo (partitionEqual_holds nlt) (show 0 < a' by omega) p1 p2 (by rw [s3]; omega) B3 hnl hE
     dsimp only at hU hpe
     rw [if_pos ⟨m1, m2⟩] at hU
     refine goA ?_
     refine ACall.eqArgs (args' := [.row 0 1 0 n, AV.int .i64 a', AV.int .i64 b', AV.int .i64 (pivot : Nat)]) (show [AV.row 0 1 0 n, AV.int .i64 a', AV.int .i64 b', AV.int .i64 P] = [AV.row 0 1 0 n, AV.int .i64 a', AV.int .i64 b', AV.int .i64 (pivot : Nat)] by rw [hPI]) ?_
     refine AFn.useA [0] (hpe) fun _ => ?_
     refine goA ?_
     refine ⟨⟨mid, b', lm, _, _, d4, by omega, by omega, hb', by omega, by omega, m4, hU.symm⟩, Ent.mk' [some 0] (by kernel_rfl) ⟨AVE.refl _, AVE.refl _, AVE.refl _, AVE.int hLI, AVE.refl _, AVE.refl _, trivial⟩ (by exact subC), ?_⟩
     show b' - mid < b' - a'
     omega
    ·have hc2 : ¬ (decide (a' > 0) && !nlt D[a' - 1]! D[pivot]!) = true := by simp only [ia, ip, Nat.zero_add] at gl; simp only [Bool.and_eq_true]; exact fun h => by have := h.2; simp [nlt] at this; omega
     rw [if_neg hc2] at hU
     have hpt := part_ok n D a' b' pivot (by omega) (by omega) hb' p1 p2 h1000
     generalize hE : partition nlt D a' b' pivot = E at hU hpt
     obtain ⟨mid, ap, d4⟩ := E
     obtain ⟨m1, m2, m3, m4, m5, m6, m7⟩ := round_part nlt_swo (partition_holds nlt) p1 p2 (by rw [s3]; omega) B3 hE
     dsimp only at hU hpt
     rw [if_pos ⟨m1, m2⟩] at hU
     refine goA ?_
     refine ACall.eqArgs (args' := [.row 0 1 0 n, AV.int .i64 a', AV.int .i64 b', AV.int .i64 (pivot : Nat)]) (show [AV.row 0 1 0 n, AV.int .i64 a', AV.int .i64 b', AV.int .i64 P] = [AV.row 0 1 0 n, AV.int .i64 a', AV.int .i64 b', AV.int .i64 (pivot : Nat)] by rw [hPI]) ?_
     refine AFn.useA [0] (hpt) fun _ => ?_
     refine goA ?_
     refine ifdA (fun gs => ?_) (fun gs => ?_) <;> (try dsimp only at gs)
     ·rw [if_pos (by omega)] at hU
      have q := pdq_sorts nlt nlt_swo d4 a' mid lm true true m1 (by omega) m4
      have hrec := ih (mid - a') (by omega) d4 a' mid lm rfl (by omega) m1 (by omega) (by omega) m4
      obtain ⟨q1, q2⟩ := q
      have q3 := m6 _ q1 q2
      have q4 := q1.1
      generalize pdq nlt d4 a' mid lm true true = d5 at hU hrec q1 q2 q3 q4
      refine goA ?_
      refine ACall.eqArgs (args' := [.row 0 1 0 n, AV.int .i64 a', AV.int .i64 mid, AV.int .i64 (lm : Nat)]) (show [AV.row 0 1 0 n, AV.int .i64 a', AV.int .i64 mid, AV.int .i64 Lm] = [AV.row 0 1 0 n, AV.int .i64 a', AV.int .i64 mid, AV.int .i64 (lm : Nat)] by rw [hLI]) ?_
      refine AFn.useA [0] (hrec) fun _ => ?_
      refine goA ?_
      refine ⟨⟨mid + 1, b', lm, _, _, d5, by omega, by omega, hb', by omega, by omega, q3.1, hU.symm⟩, Ent.mk' [some 0] (by kernel_rfl) ⟨AVE.refl _, AVE.int (by dsimp only; omega), AVE.refl _, AVE.int hLI, AVE.bool (decide_eq_decide.2 (by dsimp only; omega)), AVE.refl _, trivial⟩ (by exact subC), ?_⟩
      show b' - (mid + 1) < b' - a'
      omega
     ·rw [if_neg (by omega)] at hU
      have q := pdq_sorts nlt nlt_swo d4 (mid + 1) b' lm true true (by omega) (by omega) m5
      have hrec := ih (b' - (mid + 1)) (by omega) d4 (mid + 1) b' lm rfl (by omega) (by omega) (by omega) (by omega) m5
      obtain ⟨q1, q2⟩ := q
      have q3 := m7 _ q1 q2
      have q4 := q1.1
      generalize pdq nlt d4 (mid + 1) b' lm true true = d5 at hU hrec q1 q2 q3 q4
      refine goA ?_
      refine ACall.eqArgs (args' := [.row 0 1 0 n, AV.int .i64 (mid + 1 : Nat), AV.int .i64 b', AV.int .i64 (lm : Nat)]) (show [AV.row 0 1 0 n, AV.int .i64 ((mid : Int) + 1), AV.int .i64 b', AV.int .i64 Lm] = [AV.row 0 1 0 n, AV.int .i64 (mid + 1 : Nat), AV.int .i64 b', AV.int .i64 (lm : Nat)] by rw [hLI]; rfl) ?_
      refine AFn.useA [0] (hrec) fun _ => ?_
      refine goA ?_
      refine ⟨⟨a', mid, lm, _, _, d5, by omega, by omega, by omega, by omega, by omega, q3.1, hU.symm⟩, Ent.mk' [some 0] (by kernel_rfl) ⟨AVE.refl _, AVE.refl _, AVE.refl _, AVE.int hLI, AVE.bool (decide_eq_decide.2 (by dsimp only; omega)), AVE.refl _, trivial⟩ (by exact subC), ?_⟩
      show mid - a' < b' - a'
      omega
   ·have hc2 : ¬ (decide (a' > 0) && !nlt D[a' - 1]! D[pivot]!) = true := by simp only [Bool.and_eq_true, decide_eq_true_eq]; exact fun h => by have := h.1; omega
    rw [if_neg hc2] at hU
    have hpt := part_ok n D a' b' pivot (by omega) (by omega) hb' p1 p2 h1000
    generalize hE : partition nlt D a' b' pivot = E at hU hpt
    obtain ⟨mid, ap, d4⟩ := E
    obtain ⟨m1, m2, m3, m4, m5, m6, m7⟩ := round_part nlt_swo (partition_holds nlt) p1 p2 (by rw [s3]; omega) B3 hE
    dsimp only at hU hpt
    rw [if_pos ⟨m1, m2⟩] at hU
    refine goA ?_
    refine ACall.eqArgs (args' := [.row 0 1 0 n, AV.int .i64 a', AV.int .i64 b', AV.int .i64 (pivot : Nat)]) (show [AV.row 0 1 0 n, AV.int .i64 a', AV.int .i64 b', AV.int .i64 P] = [AV.row 0 1 0 n, AV.int .i64 a', AV.int .i64 b', AV.int .i64 (pivot : Nat)] by rw [hPI]) ?_
    refine AFn.useA [0] (hpt) fun _ => ?_
    refine goA ?_
    refine ifdA (fun gs => ?_) (fun gs => ?_) <;> (try dsimp only at gs)
    ·rw [if_pos (by omega)] at hU
     have q := pdq_sorts nlt nlt_swo d4 a' mid lm true true m1 (by omega) m4
     have hrec := ih (mid - a') (by omega) d4 a' mid lm rfl (by omega) m1 (by omega) (by omega) m4
     obtain ⟨q1, q2⟩ := q
     have q3 := m6 _ q1 q2
     have q4 := q1.1
     generalize pdq nlt d4 a' mid lm true true = d5 at hU hrec q1 q2 q3 q4
     refine goA ?_
     refine ACall.eqArgs (args' := [.row 0 1 0 n, AV.int .i64 a', AV.int .i64 mid, AV.int .i64 (lm : Nat)]) (show [AV.row 0 1 0 n, AV.int .i64 a', AV.int .i64 mid, AV.int .i64 Lm] = [AV.row 0 1 0 n, AV.int .i64 a', AV.int .i64 mid, AV.int .i64 (lm : Nat)] by rw [hLI]) ?_
     refine AFn.useA [0] (hrec) fun _ => ?_
     refine goA ?_
     refine ⟨⟨mid + 1, b', lm, _, _, d5, by omega, by omega, hb', by omega, by omega, q3.1, hU.symm⟩, Ent.mk' [some 0] (by kernel_rfl) ⟨AVE.refl _, AVE.int (by dsimp only; omega), AVE.refl _, AVE.int hLI, AVE.bool (decide_eq_decide.2 (by dsimp only; omega)), AVE.refl _, trivial⟩ (by exact subC), ?_⟩
     show b' - (mid + 1) < b' - a'
     omega
    ·rw [if_neg (by omega)] at hU
     have q := pdq_sorts nlt nlt_swo d4 (mid + 1) b' lm true true (by omega) (by omega) m5
     have hrec := ih (b' - (mid + 1)) (by omega) d4 (mid + 1) b' lm rfl (by omega) (by omega) (by omega) (by omega) m5
     obtain ⟨q1, q2⟩ := q
     have q3 := m7 _ q1 q2
     have q4 := q1.1
     generalize pdq nlt d4 (mid + 1) b' lm true true = d5 at hU hrec q1 q2 q3 q4
     refine goA ?_
     refine ACall.eqArgs (args' := [.row 0 1 0 n, AV.int .i64 (mid + 1 : Nat), AV.int .i64 b', AV.int .i64 (lm : Nat)]) (show [AV.row 0 1 0 n, AV.int .i64 ((mid : Int) + 1), AV.int .i64 b', AV.int .i64 Lm] = [AV.row 0 1 0 n, AV.int .i64 (mid + 1 : Nat), AV.int .i64 b', AV.int .i64 (lm : Nat)] by rw [hLI]; rfl) ?_
     refine AFn.useA [0] (hrec) fun _ => ?_
     refine goA ?_
     refine ⟨⟨a', mid, lm, _, _, d5, by omega, by omega, by omega, by omega, by omega, q3.1, hU.symm⟩, Ent.mk' [some 0] (by kernel_rfl) ⟨AVE.refl _, AVE.refl _, AVE.refl _, AVE.int hLI, AVE.bool (decide_eq_decide.2 (by dsimp only; omega)), AVE.refl _, trivial⟩ (by exact subC), ?_⟩
     show mid - a' < b' - a'
     omega
end Go.Proofs.YtgfkepebfaiepaaGreatDoor.Ax

namespace Go.Proofs.YtgfkepebfaiepaaGreatDoor.Ax
open Go.RowKit Go.Sort
set_option maxRecDepth 100000
def sortU (l : List Nat) : List Nat := l.mergeSort fun x y => !nlt y x
theorem sortU_of (l : List Nat) (lim : Nat) : pdq nlt l.toArray 0 l.length lim true true = (sortU l).toArray := by
 have h := pdq_sorts nlt nlt_swo l.toArray 0 l.length lim true true (Nat.zero_le _) (by simp) (Or.inl rfl)
 have hz : l.length = l.toArray.size := by simp
 rw [hz] at h ⊢
 have h2 := sorted_unique_holds (lt := nlt) nlt_swo (fun x y h1 h2 => by simp only [nlt, decide_eq_false_iff_not] at h1 h2; omega) l.toArray _ h.1 h.2
 show _ = (l.mergeSort fun x y => !nlt y x).toArray
 rw [← h2]
theorem sort_ok (l : List Nat) (h1000 : l.length ≤ 1000000) : AFn Go.Proofs.Tryz.prog 169 [.row 0 1 0 l.length] (uH l.length l.toArray) (fun _ : Unit => .tup []) (fun _ => uH l.length (sortU l).toArray) := by
 have hb := bitsLen_small (show l.length ≤ 1000000 by omega)
 have hp := pdq_ok l.length h1000 l.length l.toArray 0 l.length (bitsLen l.length) (by omega) (by simp) (Nat.zero_le _) (Nat.le_refl _) (by omega) (Or.inl rfl)
 rw [sortU_of] at hp
 refine ACall.fin ?_
 refine ACall.walk (C := cfgU 11 1) (cfgUOk _ _) [] (fn := Go.Proofs.Tryz.f169) (by kernel_rfl) (by kernel_rfl) rfl (by kernel_rfl) (by kernel_rfl) rfl rfl ?_
 refine goA ?_
 refine AFn.useA [] (len_u l.length (by omega)) fun _ => ?_
 refine goA ?_
 refine AFn.useA [0] (hp) fun _ => ?_
 refine goA ?_
 refine ⟨_, _, Ent.mk' (e' := [(0, .tup [])]) (H' := uH l.length (sortU l).toArray) [some 0] (by kernel_rfl) ?_ ?_, (), rfl, rfl⟩
 ·exact ⟨AVE.refl _, trivial⟩
 ·exact subC
def ddGo (p : Nat) : List Nat → List Nat
 | [] => []
 | y :: ys => if y = p then ddGo p ys else y :: ddGo y ys
def dd : List Nat → List Nat
 | [] => []
 | x :: xs => x :: ddGo x xs
theorem ddGo_snoc : ∀ (xs : List Nat) (p y : Nat), ddGo p (xs ++ [y]) = if (p :: xs).getLast (by simp) = y then ddGo p xs else ddGo p xs ++ [y]
 | [], p, y => by
   simp only [List.nil_append, ddGo, List.getLast_singleton]
   by_cases h : y = p
   ·simp [h]
   ·simp [h, Ne.symm h]
 | x :: xs, p, y => by
   simp only [List.cons_append, ddGo]
   have ih := ddGo_snoc xs
   by_cases h : x = p
   ·subst h
    simp only [if_true]
    rw [ih x y]
    rfl
   ·simp only [if_neg h]
    rw [ih x y]
    have e : (p :: x :: xs).getLast (by simp) = (x :: xs).getLast (by simp) := rfl
    rw [e]
    split <;> rfl
theorem dd_take {D : List Nat} {m : Nat} (h0 : 0 < m) (hm : m < D.length) : dd (D.take (m + 1)) = if D.getD m 0 = D.getD (m - 1) 0 then dd (D.take m) else dd (D.take m) ++ [D.getD m 0] := by
 rw [List.take_succ_eq_append_getElem hm]
 have hne : D.take m ≠ [] := fun e => by
  have := congrArg List.length e
  rw [List.length_take, List.length_nil] at this
  omega
 obtain ⟨x, xs, hx⟩ := List.exists_cons_of_ne_nil hne
 have hl : (x :: xs).getLast (by simp) = D.getD (m - 1) 0 := by
  have h1 : (D.take m).getLast hne = D.getD (m - 1) 0 := by
   rw [List.getLast_eq_getElem]
   simp [List.getD, show m - 1 < D.length by omega, Nat.min_eq_left (Nat.le_of_lt hm)]
  simp only [hx] at h1
  exact h1
 have hg : D[m] = D.getD m 0 := by simp [List.getD, hm]
 rw [hx, List.cons_append]
 show x :: ddGo x (xs ++ [D[m]]) = _
 rw [ddGo_snoc, hl, hg]
 by_cases h : D.getD m 0 = D.getD (m - 1) 0
 ·rw [if_pos h, if_pos h.symm]; rfl
 ·rw [if_neg h, if_neg (Ne.symm h)]; rfl
theorem dd_small {D : List Nat} (h : D.length < 2) : dd D = D := by
 match D, h with
 | [], _ => rfl
 | [x], _ => rfl
theorem dd_len (D : List Nat) (m : Nat) : (dd (D.take m)).length ≤ m := by
 induction m with
 | zero => simp [dd]
 | succ m ih =>
   by_cases hm : m < D.length
   ·rcases Nat.eq_zero_or_pos m with h0 | h0
    ·subst h0
     match D, hm with
     | x :: xs, _ => simp [dd, ddGo]
    ·rw [dd_take h0 hm]
     split
     ·omega
     ·simp; omega
   ·rw [List.take_of_length_le (by omega)]
    rw [List.take_of_length_le (by omega)] at ih
    omega
theorem uset {e n : Nat} {d : Array Nat} {i v : Nat} (hi : i < d.size) : ChE (.rowc e 1 n fun k => if k = i then layI (uF d i) 0 [.v (.int .u64 (v : Nat))] else uF d k) (.rowc e 1 n (uF (d.setIfInBounds i v))) :=
 ChE.row (Nat.le_refl _) fun k hk => by
  have e1 : layI (uF d i) 0 [IV.v (.int .u64 (v : Nat))] = [.v (.int .u64 (v : Nat))] := layI_one rfl
  rw [e1]
  unfold uF
  by_cases h : k = i
  ·subst h
   simp [hi]
  ·rw [if_neg h]
   simp [Array.getElem!_eq_getD, Array.getD_eq_getD_getElem?, Ne.symm h]
end Go.Proofs.YtgfkepebfaiepaaGreatDoor.Ax

namespace Go.Proofs.YtgfkepebfaiepaaGreatDoor.Ax
open Go.RowKit Go.Sort
set_option maxRecDepth 100000
theorem bang_getD (D : List Nat) (i : Nat) : D.toArray[i]! = D.getD i 0 := by
 simp [List.getD, Array.getElem!_eq_getD, Array.getD_eq_getD_getElem?]
structure CX (D : List Nat) (k0 : Nat) where
 k : Nat
 k2 : Nat
 e : Array Nat
 hs : e.size = D.length
 h1 : k0 ≤ k
 h2 : k + 1 ≤ k0 + k2
 h3 : k0 + k2 ≤ D.length
 hr : ∀ i, k0 + k2 ≤ i + 1 → i < D.length → e[i]! = D.getD i 0
 hl : (dd (D.take (k0 + k2))).length = k
 hd : ∀ i, i < k → e[i]! = (dd (D.take (k0 + k2))).getD i 0
set_option maxHeartbeats 1000000 in
theorem compact_ok (D : List Nat) (h1000 : D.length ≤ 1000000) : AFn Go.Proofs.Tryz.prog 170 [.row 0 1 0 D.length] (uH D.length D.toArray) (fun _ : Unit => .row 0 1 0 (dd D).length) (fun _ => uH (dd D).length (dd D).toArray) := by
 have hn : ((D.length : Nat) : Int).toNat = D.length := by simp
 refine ACall.fin ?_
 refine ACall.walk (C := cfgU 61 1) (cfgUOk _ _) sch170 (fn := Go.Proofs.Tryz.f170) (by kernel_rfl) (by kernel_rfl) rfl (by kernel_rfl) (by kernel_rfl) rfl rfl ?_
 refine goA ?_
 refine ifdA (fun h => ?_) (fun h => ?_) <;> (try dsimp only at h)
 ·have e : dd D = D := dd_small (by omega)
  rw [e]
  refine goA ?_
  refine ⟨_, _, Ent.mk' (e' := [(0, .row 0 1 0 D.length)]) (H' := uH D.length D.toArray) [some 0] (by kernel_rfl) ?_ ?_, (), rfl, rfl⟩
  ·exact ⟨AVE.refl _, trivial⟩
  ·exact subC
 refine goA ?_
 refine AWP.loop (X := { x : Nat // 1 ≤ x ∧ x ≤ D.length ∧ dd (D.take x) = D.take x }) (fun x => [(0, .row 0 1 0 D.length), (3, AV.int .i64 x.1)]) (fun x => uH D.length D.toArray) (fun x => D.length - x.1) (⟨1, by omega, by omega, dd_small (by simp; omega)⟩) ?_ fun x => AWP.go (S := sch170) (cfgUOk _ _) (.of_eq (by kernel_rfl)) ?_
 ·exact Ent.mkA [some 0]
 ·obtain ⟨k, hk1, hkn, hkd⟩ := x
  have ik : ((k : Nat) : Int).toNat = k := by simp
  have ik1 : ((k : Int) - 1).toNat = k - 1 := by omega
  refine goA ?_
  refine ifdA (fun g => ?_) (fun g => ?_) <;> (try dsimp only at g)
  ·refine goA ?_
   refine ifdA (fun g2 => ?_) (fun g2 => ?_) <;> (try dsimp only at g2)
   ·have g3 : D.getD k 0 = D.getD (k - 1) 0 := by
     simp only [ik, ik1, Nat.zero_add, bang_getD] at g2
     omega
    have hd1 : dd (D.take (k + 1)) = D.take k := by rw [dd_take (by omega) (by omega), if_pos g3, hkd]
    refine goA ?_
    refine AWP.loop (X := CX D k) (fun y => [(0, .row 0 1 0 D.length), (3, AV.int .i64 y.k), (4, .row 0 1 k (D.length - k)), (5, AV.int .i64 y.k2)]) (fun y => uH D.length y.e) (fun y => D.length - y.k2) (⟨k, 1, D.toArray, by simp, Nat.le_refl _, by omega, by omega, fun i _ _ => bang_getD D i, by rw [hd1]; simp; omega, fun i hi => by rw [hd1, bang_getD]; simp [List.getD, hi]⟩) ?_ fun y => AWP.go (S := sch170) (cfgUOk _ _) (.of_eq (by kernel_rfl)) ?_
    ·refine Ent.mk' [some 0] (by kernel_rfl) ?_ ?_
     ·exact ⟨AVE.refl _, AVE.refl _, AVE.of_eq (by show AV.row 0 1 (0 + ((k : Nat) : Int).toNat) (((D.length : Nat) : Int).toNat - ((k : Nat) : Int).toNat) = AV.row 0 1 k (D.length - k); rw [ik, hn, Nat.zero_add]), AVE.refl _, trivial⟩
     ·exact subC
    ·obtain ⟨k', k2, e, hs, h1, h2, h3, hr, hl, hd⟩ := y
     have i2 : ((k2 : Nat) : Int).toNat = k2 := by simp
     have i21 : ((k2 : Int) - 1).toNat = k2 - 1 := by omega
     have ik' : ((k' : Nat) : Int).toNat = k' := by simp
     refine goA ?_
     refine ifdA (fun g4 => ?_) (fun g4 => ?_) <;> (try dsimp only at g4)
     ·have hlt : k + k2 < D.length := by omega
      have ht := dd_take (D := D) (m := k + k2) (by omega) hlt
      have r1 := hr (k + k2) (by omega) hlt
      have r2 := hr (k + k2 - 1) (by omega) (by omega)
      refine goA ?_
      refine ifdA (fun g5 => ?_) (fun g5 => ?_) <;> (try dsimp only at g5)
      ·have g6 : ¬ D.getD (k + k2) 0 = D.getD (k + k2 - 1) 0 := by
        simp only [i2, i21] at g5
        rw [r1, show k + (k2 - 1) = k + k2 - 1 by omega, r2] at g5
        omega
       rw [if_neg g6] at ht
       refine goA ?_
       refine ⟨⟨k' + 1, k2 + 1, e.setIfInBounds k' (D.getD (k + k2) 0), by simp; exact hs, by omega, by omega, by omega, fun i q1 q2 => ?_, ?_, fun i hi => ?_⟩, Ent.mkC [some 0] ?_, ?_⟩
       ·rw [Array.getElem!_eq_getD, Array.getD_eq_getD_getElem?, Array.getElem?_setIfInBounds, if_neg (by omega), ← Array.getD_eq_getD_getElem?, ← Array.getElem!_eq_getD]
        exact hr i (by omega) q2
       ·rw [show k + (k2 + 1) = k + k2 + 1 by omega, ht]
        simp [hl]
       ·rw [show k + (k2 + 1) = k + k2 + 1 by omega, ht, Array.getElem!_eq_getD, Array.getD_eq_getD_getElem?, Array.getElem?_setIfInBounds]
        by_cases hik : k' = i
        ·subst hik
         simp [hs, List.getD, hl, show k' < D.length by omega]
        ·rw [if_neg hik, ← Array.getD_eq_getD_getElem?, ← Array.getElem!_eq_getD, hd i (by omega)]
         simp [List.getD, List.getElem?_append_left, hl, show i < k' by omega]
       ·refine ⟨⟨_, rfl, ?_⟩, trivial⟩
        simp only [i2, ik', Nat.zero_add]
        rw [r1]
        exact uset (by omega)
       ·show D.length - (k2 + 1) < D.length - k2
        omega
      ·have g6 : D.getD (k + k2) 0 = D.getD (k + k2 - 1) 0 := by
        simp only [i2, i21] at g5
        rw [r1, show k + (k2 - 1) = k + k2 - 1 by omega, r2] at g5
        omega
       rw [if_pos g6] at ht
       refine goA ?_
       refine ⟨⟨k', k2 + 1, e, hs, h1, by omega, by omega, fun i q1 q2 => hr i (by omega) q2, by rw [show k + (k2 + 1) = k + k2 + 1 by omega, ht]; exact hl, fun i hi => by rw [show k + (k2 + 1) = k + k2 + 1 by omega, ht]; exact hd i hi⟩, Ent.mkC [some 0] ?_, ?_⟩
       ·exact subC
       ·show D.length - (k2 + 1) < D.length - k2
        omega
     ·have hall : k + k2 = D.length := by omega
      rw [hall, List.take_length] at hl hd
      refine goA ?_
      refine ⟨_, _, Ent.mk' (e' := [(0, .row 0 1 0 (dd D).length)]) (H' := uH (dd D).length (dd D).toArray) [some 0] (by kernel_rfl) ?_ ?_, (), rfl, rfl⟩
      ·refine ⟨AVE.of_eq ?_, trivial⟩
       show AV.row 0 1 (0 + Int.toNat 0) ((k' : Int).toNat - Int.toNat 0) = AV.row 0 1 0 (dd D).length
       rw [ik', hl]
       rfl
      ·refine ⟨⟨_, rfl, ?_⟩, trivial⟩
       refine ChE.row (by omega) fun i hi => ?_
       show clearF IntKind.u64 0 (0 + (k' : Int).toNat) ((D.length : Int).toNat - (k' : Int).toNat) (uF e) i = uF (dd D).toArray i
       unfold clearF
       rw [ik', if_neg (by omega)]
       unfold uF
       rw [hd i (by omega), bang_getD]
   ·have g3 : ¬ D.getD k 0 = D.getD (k - 1) 0 := by
     simp only [ik, ik1, Nat.zero_add, bang_getD] at g2
     omega
    refine goA ?_
    refine ⟨⟨k + 1, by omega, by omega, ?_⟩, Ent.mkC [some 0] ?_, ?_⟩
    ·rw [dd_take (by omega) (by omega), if_neg g3, hkd]
     rw [List.take_succ_eq_append_getElem (by omega)]
     simp [List.getD, show k < D.length by omega]
    ·exact subC
    ·show D.length - (k + 1) < D.length - k
     omega
  ·have hk : k = D.length := by omega
   subst hk
   have e : dd D = D := by rw [List.take_length] at hkd; exact hkd
   rw [e]
   refine goA ?_
   refine ⟨_, _, Ent.mk' (e' := [(0, .row 0 1 0 D.length)]) (H' := uH D.length D.toArray) [some 0] (by kernel_rfl) ?_ ?_, (), rfl, rfl⟩
   ·exact ⟨AVE.refl _, trivial⟩
   ·exact subC
end Go.Proofs.YtgfkepebfaiepaaGreatDoor.Ax
