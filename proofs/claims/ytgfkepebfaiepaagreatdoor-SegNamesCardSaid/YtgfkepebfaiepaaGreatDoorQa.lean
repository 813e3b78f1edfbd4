/-
  Sorting numbers.
-/
import Derived.Test.YtgfkepebfaiepaaGreatDoorUa
import Derived.Sort.LotD1
import Derived.Sort.LotD4
import Derived.Sort.LotC
import Derived.Test.YtgfkepebfaiepaaGreatDoorQt
import Derived.Sort.LotD5
import Derived.Sort.WalkA14
namespace Go.Proofs.YtgfkepebfaiepaaGreatDoor.Ax
open Go.RowKit Go.Sort
set_option maxRecDepth 100000
theorem rev_ok (n : Nat) (d : Array Nat) (a b : Nat) (hn : d.size = n) (hab : a < b) (hb : b ≤ n) (h1000 : n ≤ 1000000) : AFn Go.Proofs.Tryz.prog 283 [.row 0 1 0 n, AV.int .i64 a, AV.int .i64 b] (uH n d) (fun _ : Unit => .tup []) (fun _ => uH n (reverseRange d a b)) := by
 generalize hR : reverseRange d a b = R
 refine ACall.fin ?_
 refine ACall.walk (C := cfgU 32 1) (cfgUOk _ _) sch283 (fn := Go.Proofs.Tryz.f283) (by kernel_rfl) (by kernel_rfl) rfl (by kernel_rfl) (by kernel_rfl) rfl rfl ?_
 refine goA ?_
 refine AWP.loop (X := { x : Nat × Nat × Array Nat // x.2.2.size = n ∧ x.1 ≤ n ∧ x.2.1 < n ∧ reverseLoop x.1 x.2.1 x.2.2 = R }) (fun x => [(0, .row 0 1 0 n), (6, AV.int .i64 x.1.1), (7, AV.int .i64 x.1.2.1)]) (fun x => uH n x.1.2.2) (fun x => x.1.2.1 - x.1.1) (⟨(a, b - 1, d), hn, by dsimp only; omega, by dsimp only; omega, hR⟩) ?_ fun x => AWP.go (S := sch283) (cfgUOk _ _) (.of_eq (by kernel_rfl)) ?_
 ·exact Ent.mkA [some 0]
 ·obtain ⟨⟨i, j, dk⟩, hs, hi, hj, ho⟩ := x
  dsimp only at hs hi hj ho
  have hix : ((i : Nat) : Int).toNat = i := by simp
  have hjx : ((j : Nat) : Int).toNat = j := by simp
  refine goA ?_
  refine ifdA (fun h => ?_) (fun h => ?_) <;> (try dsimp only at h)
  ·refine goA ?_
   refine ⟨⟨(i + 1, j - 1, swp dk i j), by rw [size_swp]; exact hs, by dsimp only; omega, by dsimp only; omega, ?_⟩, Ent.mkC [some 0] ?_, ?_⟩
   ·rw [← ho]
    conv => rhs; unfold reverseLoop
    rw [if_pos (by omega)]
   ·refine ⟨⟨_, rfl, ?_⟩, trivial⟩
    simp only [hix, hjx, Nat.zero_add]
    exact uswp (by omega) (by omega)
   ·show j - 1 - (i + 1) < j - i
    omega
  ·refine goA ?_
   have e0 : R = dk := by
    rw [← ho]
    unfold reverseLoop
    rw [if_neg (by omega)]
   subst e0
   refine ⟨_, _, Ent.mk' (e' := [(0, .tup [])]) (H' := uH n R) [some 0] (by kernel_rfl) ?_ ?_, (), rfl, rfl⟩
   ·exact ⟨AVE.refl _, trivial⟩
   ·exact subC
theorem size_siftDown (hi first : Nat) : ∀ (root : Nat) (d : Array Nat), (siftDown nlt hi first root d).size = d.size := by
 intro root
 generalize hm : hi - root = m
 induction m using Nat.strongRecOn generalizing root with
 | ind m ih =>
   intro d
   unfold siftDown
   split
   ·rfl
   ·split
    ·split
     ·rfl
     ·split
      ·rw [ih (hi - (2 * root + 2)) (by omega) _ rfl, size_swp]
      ·rfl
    ·split
     ·rfl
     ·rw [ih (hi - (2 * root + 1)) (by omega) _ rfl, size_swp]
set_option maxHeartbeats 2000000 in
theorem sift_ok (n : Nat) (d : Array Nat) (lo hi first : Nat) (hn : d.size = n) (hlo : lo ≤ n) (hb : first + hi ≤ n) (h1000 : n ≤ 1000000) : AFn Go.Proofs.Tryz.prog 314 [.row 0 1 0 n, AV.int .i64 lo, AV.int .i64 hi, AV.int .i64 first] (uH n d) (fun _ : Unit => .tup []) (fun _ => uH n (siftDown nlt hi first lo d)) := by
 generalize hR : siftDown nlt hi first lo d = R
 refine ACall.fin ?_
 refine ACall.walk (C := cfgU 76 1) (cfgUOk _ _) sch314 (fn := Go.Proofs.Tryz.f314) (by kernel_rfl) (by kernel_rfl) rfl (by kernel_rfl) (by kernel_rfl) rfl rfl ?_
 refine goA ?_
 refine AWP.loop (X := { x : Nat × Array Nat // x.2.size = n ∧ x.1 ≤ n ∧ siftDown nlt hi first x.1 x.2 = R }) (fun x => [(0, .row 0 1 0 n), (2, AV.int .i64 hi), (3, AV.int .i64 first), (8, AV.int .i64 x.1.1)]) (fun x => uH n x.1.2) (fun x => hi - x.1.1) (⟨(lo, d), hn, hlo, hR⟩) ?_ fun x => AWP.go (S := sch314) (cfgUOk _ _) (.of_eq (by kernel_rfl)) ?_
 ·exact Ent.mkA [some 0]
 ·obtain ⟨⟨r, dk⟩, hs, hr, ho⟩ := x
  dsimp only at hs hr ho
  have i1 : ((first : Int) + (2 * (r : Int) + 1)).toNat = first + (2 * r + 1) := by omega
  have i2 : ((first : Int) + (2 * (r : Int) + 1) + 1).toNat = first + (2 * r + 1) + 1 := by omega
  have i3 : ((first : Int) + (2 * (r : Int) + 1 + 1)).toNat = first + (2 * r + 2) := by omega
  have i4 : ((first : Int) + (r : Int)).toNat = first + r := by omega
  refine goA ?_
  refine ifdA (fun h => ?_) (fun h => ?_) <;> (try dsimp only at h)
  ·refine goA ?_
   have e0 : R = dk := by
    rw [← ho]
    unfold siftDown
    rw [dif_pos (by omega)]
   subst e0
   refine ⟨_, _, Ent.mk' (e' := [(0, .tup [])]) (H' := uH n R) [some 0] (by kernel_rfl) ?_ ?_, (), rfl, rfl⟩
   ·exact ⟨AVE.refl _, trivial⟩
   ·exact subC
  ·refine goA ?_
   refine ifdA (fun g => ?_) (fun g => ?_) <;> (try dsimp only at g)
   ·refine goA ?_
    refine AFn.useA [] (less_ok _ _) fun _ => ?_
    refine goA ?_
    refine ifdA (fun g2 => ?_) (fun g2 => ?_) <;> (try dsimp only at g2)
    ·have hc : (decide (2 * r + 1 + 1 < hi) && nlt dk[first + (2 * r + 1)]! dk[first + (2 * r + 1) + 1]!) = true := by simp only [i1, i2, Nat.zero_add] at g2; simp only [Bool.and_eq_true, decide_eq_true_eq, nlt]; exact ⟨by omega, g2⟩
     refine goA ?_
     refine AFn.useA [] (less_ok _ _) fun _ => ?_
     refine goA ?_
     refine ifdA (fun g3 => ?_) (fun g3 => ?_) <;> (try dsimp only at g3)
     ·have g4 : nlt dk[first + r]! dk[first + (2 * r + 2)]! = false := by simp only [i3, i4, Nat.zero_add] at g3; simpa [nlt] using g3
      have e0 : R = dk := by
       rw [← ho]
       unfold siftDown
       rw [dif_neg (by omega), if_pos hc, if_pos (by rw [g4]; rfl)]
      subst e0
      refine goA ?_
      refine ⟨_, _, Ent.mk' (e' := [(0, .tup [])]) (H' := uH n R) [some 0] (by kernel_rfl) ?_ ?_, (), rfl, rfl⟩
      ·exact ⟨AVE.refl _, trivial⟩
      ·exact subC
     ·have g4 : nlt dk[first + r]! dk[first + (2 * r + 2)]! = true := by simp only [i3, i4, Nat.zero_add] at g3; simpa [nlt] using g3
      refine goA ?_
      refine ⟨⟨(2 * r + 2, swp dk (first + r) (first + (2 * r + 2))), by rw [size_swp]; exact hs, by dsimp only; omega, ?_⟩, Ent.mkC [some 0] ?_, ?_⟩
      ·rw [← ho]
       conv => rhs; unfold siftDown
       rw [dif_neg (by omega), if_pos hc, if_neg (by rw [g4]; decide), dif_pos (by omega)]
      ·refine ⟨⟨_, rfl, ?_⟩, trivial⟩
       simp only [i3, i4, Nat.zero_add]
       exact uswp (by omega) (by omega)
      ·show hi - (2 * r + 2) < hi - r
       omega
    ·have hc : ¬ (decide (2 * r + 1 + 1 < hi) && nlt dk[first + (2 * r + 1)]! dk[first + (2 * r + 1) + 1]!) = true := by simp only [i1, i2, Nat.zero_add] at g2; simp only [Bool.and_eq_true, decide_eq_true_eq, nlt]; exact fun h => g2 h.2
     refine goA ?_
     refine AFn.useA [] (less_ok _ _) fun _ => ?_
     refine goA ?_
     refine ifdA (fun g3 => ?_) (fun g3 => ?_) <;> (try dsimp only at g3)
     ·have g4 : nlt dk[first + r]! dk[first + (2 * r + 1)]! = false := by simp only [i1, i4, Nat.zero_add] at g3; simpa [nlt] using g3
      have e0 : R = dk := by
       rw [← ho]
       unfold siftDown
       rw [dif_neg (by omega), if_neg hc, if_pos (by rw [g4]; rfl)]
      subst e0
      refine goA ?_
      refine ⟨_, _, Ent.mk' (e' := [(0, .tup [])]) (H' := uH n R) [some 0] (by kernel_rfl) ?_ ?_, (), rfl, rfl⟩
      ·exact ⟨AVE.refl _, trivial⟩
      ·exact subC
     ·have g4 : nlt dk[first + r]! dk[first + (2 * r + 1)]! = true := by simp only [i1, i4, Nat.zero_add] at g3; simpa [nlt] using g3
      refine goA ?_
      refine ⟨⟨(2 * r + 1, swp dk (first + r) (first + (2 * r + 1))), by rw [size_swp]; exact hs, by dsimp only; omega, ?_⟩, Ent.mkC [some 0] ?_, ?_⟩
      ·rw [← ho]
       conv => rhs; unfold siftDown
       rw [dif_neg (by omega), if_neg hc, if_neg (by rw [g4]; decide)]
      ·refine ⟨⟨_, rfl, ?_⟩, trivial⟩
       simp only [i1, i4, Nat.zero_add]
       exact uswp (by omega) (by omega)
      ·show hi - (2 * r + 1) < hi - r
       omega
   ·have hc : ¬ (decide (2 * r + 1 + 1 < hi) && nlt dk[first + (2 * r + 1)]! dk[first + (2 * r + 1) + 1]!) = true := by simp only [Bool.and_eq_true, decide_eq_true_eq]; exact fun h => by omega
    refine goA ?_
    refine AFn.useA [] (less_ok _ _) fun _ => ?_
    refine goA ?_
    refine ifdA (fun g3 => ?_) (fun g3 => ?_) <;> (try dsimp only at g3)
    ·have g4 : nlt dk[first + r]! dk[first + (2 * r + 1)]! = false := by simp only [i1, i4, Nat.zero_add] at g3; simpa [nlt] using g3
     have e0 : R = dk := by
      rw [← ho]
      unfold siftDown
      rw [dif_neg (by omega), if_neg hc, if_pos (by rw [g4]; rfl)]
     subst e0
     refine goA ?_
     refine ⟨_, _, Ent.mk' (e' := [(0, .tup [])]) (H' := uH n R) [some 0] (by kernel_rfl) ?_ ?_, (), rfl, rfl⟩
     ·exact ⟨AVE.refl _, trivial⟩
     ·exact subC
    ·have g4 : nlt dk[first + r]! dk[first + (2 * r + 1)]! = true := by simp only [i1, i4, Nat.zero_add] at g3; simpa [nlt] using g3
     refine goA ?_
     refine ⟨⟨(2 * r + 1, swp dk (first + r) (first + (2 * r + 1))), by rw [size_swp]; exact hs, by dsimp only; omega, ?_⟩, Ent.mkC [some 0] ?_, ?_⟩
     ·rw [← ho]
      conv => rhs; unfold siftDown
      rw [dif_neg (by omega), if_neg hc, if_neg (by rw [g4]; decide)]
     ·refine ⟨⟨_, rfl, ?_⟩, trivial⟩
      simp only [i1, i4, Nat.zero_add]
      exact uswp (by omega) (by omega)
     ·show hi - (2 * r + 1) < hi - r
      omega
theorem size_heapBuild (hi first : Nat) : ∀ (k : Nat) (d : Array Nat), (heapBuild nlt hi first k d).size = d.size
 | 0, _ => rfl
 | k + 1, d => by
   show (heapBuild nlt hi first k (siftDown nlt hi first k d)).size = d.size
   rw [size_heapBuild hi first k, size_siftDown]
theorem heap_ok (n : Nat) (d : Array Nat) (a b : Nat) (hn : d.size = n) (hab : a < b) (hb : b ≤ n) (h1000 : n ≤ 1000000) : AFn Go.Proofs.Tryz.prog 280 [.row 0 1 0 n, AV.int .i64 a, AV.int .i64 b] (uH n d) (fun _ : Unit => .tup []) (fun _ => uH n (heapSort nlt d a b)) := by
 generalize hR : heapSort nlt d a b = R
 unfold heapSort at hR
 generalize hB : heapBuild nlt (b - a) a ((b - a - 1) / 2 + 1) d = B at hR
 have hBs : B.size = n := by rw [← hB, size_heapBuild]; exact hn
 refine ACall.fin ?_
 refine ACall.walk (C := cfgU 56 1) (cfgUOk _ _) sch280 (fn := Go.Proofs.Tryz.f280) (by kernel_rfl) (by kernel_rfl) rfl (by kernel_rfl) (by kernel_rfl) rfl rfl ?_
 refine goA ?_
 refine AWP.loop (X := { x : Int × Array Nat // x.2.size = n ∧ -1 ≤ x.1 ∧ x.1 < b - a ∧ heapBuild nlt (b - a) a (x.1 + 1).toNat x.2 = B }) (fun x => [(0, .row 0 1 0 n), (6, AV.int .i64 a), (7, AV.int .i64 (0 : Nat)), (8, AV.int .i64 ((b - a : Nat) : Int)), (9, AV.int .i64 x.1.1)]) (fun x => uH n x.1.2) (fun x => (x.1.1 + 1).toNat) (⟨(((b - a - 1) / 2 : Nat), d), hn, by dsimp only; omega, by dsimp only; omega, by rw [← hB]; congr 1⟩) ?_ fun x => AWP.go (S := sch280) (cfgUOk _ _) (.of_eq (by kernel_rfl)) ?_
 ·refine Ent.mk' [some 0] (by kernel_rfl) ?_ ?_
  ·refine ⟨AVE.refl _, AVE.refl _, AVE.refl _, AVE.int (by omega), AVE.int ?_, trivial⟩
   have h1 : ((b : Int) - a - 1) = ((b - a - 1 : Nat) : Int) := by omega
   rw [h1]
   rfl
  ·exact subC
 ·obtain ⟨⟨i, dk⟩, hs, hk1, hk2, ho⟩ := x
  dsimp only at hs hk1 hk2 ho
  refine goA ?_
  refine ifdA (fun h => ?_) (fun h => ?_) <;> (try dsimp only at h)
  ·obtain ⟨m, rfl⟩ := Int.eq_ofNat_of_zero_le h
   refine goA ?_
   refine AFn.useA [0] (sift_ok n dk m (b - a) a hs (by omega) (by omega) h1000) fun _ => ?_
   refine goA ?_
   refine ⟨⟨((m : Int) - 1, siftDown nlt (b - a) a m dk), by rw [size_siftDown]; exact hs, by dsimp only; omega, by dsimp only; omega, ?_⟩, Ent.mkC [some 0] ?_, ?_⟩
   ·have e1 : ((m : Int) + 1).toNat = m + 1 := by omega
    have e2 : ((m : Int) - 1 + 1).toNat = m := by omega
    rw [e1] at ho
    dsimp only
    rw [e2]
    exact ho
   ·exact subC
   ·show ((m : Int) - 1 + 1).toNat < ((m : Int) + 1).toNat
    omega
  ·have e0 : B = dk := by
    have e1 : (i + 1).toNat = 0 := by omega
    rw [e1] at ho
    exact ho.symm
   subst e0
   refine goA ?_
   refine AWP.loop (X := { x : Int × Array Nat // x.2.size = n ∧ -1 ≤ x.1 ∧ x.1 < b - a ∧ heapPop nlt a (x.1 + 1).toNat x.2 = R }) (fun x => [(0, .row 0 1 0 n), (6, AV.int .i64 a), (7, AV.int .i64 (0 : Nat)), (10, AV.int .i64 x.1.1)]) (fun x => uH n x.1.2) (fun x => (x.1.1 + 1).toNat) (⟨(((b - a : Nat) : Int) - 1, B), hBs, by dsimp only; omega, by dsimp only; omega, by rw [← hR]; congr 1; omega⟩) ?_ fun x => AWP.go (S := sch280) (cfgUOk _ _) (.of_eq (by kernel_rfl)) ?_
   ·exact Ent.mkA [some 0]
   ·obtain ⟨⟨i, dk⟩, hs, hk1, hk2, ho⟩ := x
    dsimp only at hs hk1 hk2 ho
    refine goA ?_
    refine ifdA (fun h2 => ?_) (fun h2 => ?_) <;> (try dsimp only at h2)
    ·obtain ⟨m, rfl⟩ := Int.eq_ofNat_of_zero_le h2
     have i1 : ((a : Int) + (m : Int)).toNat = a + m := by omega
     have i2 : ((a : Nat) : Int).toNat = a := by simp
     refine goA ?_
     refine ACall.hent (HEnt.chunk (h := 0) (c' := .rowc 38 1 n (uF (swp dk a (a + m)))) rfl ?_) ?_
     ·simp only [i1, i2, Nat.zero_add]
      exact uswp (by omega) (by omega)
     refine AFn.useA [0] (sift_ok n (swp dk a (a + m)) 0 m a (by rw [size_swp]; exact hs) (by omega) (by omega) h1000) fun _ => ?_
     refine ⟨_, HEnt.refl _, ?_⟩
     refine goA ?_
     refine ⟨⟨((m : Int) - 1, siftDown nlt m a 0 (swp dk a (a + m))), by rw [size_siftDown, size_swp]; exact hs, by dsimp only; omega, by dsimp only; omega, ?_⟩, Ent.mkC [some 0] ?_, ?_⟩
     ·have e1 : ((m : Int) + 1).toNat = m + 1 := by omega
      have e2 : ((m : Int) - 1 + 1).toNat = m := by omega
      rw [e1] at ho
      dsimp only
      rw [e2]
      exact ho
     ·exact subC
     ·show ((m : Int) - 1 + 1).toNat < ((m : Int) + 1).toNat
      omega
    ·have e0 : R = dk := by
      have e1 : (i + 1).toNat = 0 := by omega
      rw [e1] at ho
      exact ho.symm
     subst e0
     refine goA ?_
     refine ⟨_, _, Ent.mk' (e' := [(0, .tup [])]) (H' := uH n R) [some 0] (by kernel_rfl) ?_ ?_, (), rfl, rfl⟩
     ·exact ⟨AVE.refl _, trivial⟩
     ·exact subC
end Go.Proofs.YtgfkepebfaiepaaGreatDoor.Ax

namespace Go.Proofs.YtgfkepebfaiepaaGreatDoor.Ax
open Go.RowKit Go.Sort
set_option maxRecDepth 100000
@[reducible] def uSH (n : Nat) (d : Array Nat) (s : Nat) : AH := ⟨2, [(0, .rowc 38 1 n (uF d)), (1, .cells 3 [AV.int .i64 s])]⟩
theorem order2_ok (n : Nat) (d : Array Nat) (a b s : Nat) (_hn : d.size = n) (ha : a < n) (hb : b < n) (hs : s ≤ 1000) (_h1000 : n ≤ 1000000) : AFn Go.Proofs.Tryz.prog 329 [.row 0 1 0 n, AV.int .i64 a, AV.int .i64 b, .ptr 1 0] (uSH n d s) (fun _ : Unit => .tup [AV.int .i64 (order2 nlt d a b s).1, AV.int .i64 (order2 nlt d a b s).2.1]) (fun _ => uSH n d (order2 nlt d a b s).2.2) := by
 have i1 : ((a : Nat) : Int).toNat = a := by simp
 have i2 : ((b : Nat) : Int).toNat = b := by simp
 refine ACall.fin ?_
 refine ACall.walk (C := cfgU 28 2) (cfgUOk _ _) sch329 (fn := Go.Proofs.Tryz.f329) (by kernel_rfl) (by kernel_rfl) rfl (by kernel_rfl) (by kernel_rfl) rfl rfl ?_
 refine goA ?_
 refine AFn.useA [] (less_ok _ _) fun _ => ?_
 refine goA ?_
 refine ifdA (fun g => ?_) (fun g => ?_) <;> (try dsimp only at g)
 ·have g4 : nlt d[b]! d[a]! = true := by simp only [i1, i2, Nat.zero_add] at g; simpa [nlt] using g
  have e0 : order2 nlt d a b s = (b, a, s + 1) := by unfold order2; rw [if_pos g4]
  rw [e0]
  refine goA ?_
  refine ⟨_, _, Ent.mk' (e' := [(0, .tup [AV.int .i64 b, AV.int .i64 a])]) (H' := uSH n d (s + 1)) [some 0, some 1] (by kernel_rfl) ?_ ?_, (), rfl, rfl⟩
  ·exact ⟨AVE.refl _, trivial⟩
  ·exact subC
 ·have g4 : ¬ nlt d[b]! d[a]! = true := by simp only [i1, i2, Nat.zero_add] at g; simpa [nlt] using g
  have e0 : order2 nlt d a b s = (a, b, s) := by unfold order2; rw [if_neg g4]
  rw [e0]
  refine goA ?_
  refine ⟨_, _, Ent.mk' (e' := [(0, .tup [AV.int .i64 a, AV.int .i64 b])]) (H' := uSH n d s) [some 0, some 1] (by kernel_rfl) ?_ ?_, (), rfl, rfl⟩
  ·exact ⟨AVE.refl _, trivial⟩
  ·exact subC
theorem ACall.eqArgs {P : Program} {f : FuncId} {args args' : List AV} {H : AH} {K QP : AV → AH → Prop} (e : args = args') (h : ACall P f args' H K QP) : ACall P f args H K QP := e ▸ h
theorem order2_lt {d : Array Nat} {a b s n : Nat} (ha : a < n) (hb : b < n) : (order2 nlt d a b s).1 < n ∧ (order2 nlt d a b s).2.1 < n := by
 rcases order2_mem nlt d a b s with ⟨h1, h2⟩ | ⟨h1, h2⟩ <;> rw [h1, h2] <;> exact ⟨by assumption, by assumption⟩
theorem median_ok (n : Nat) (d : Array Nat) (a b c s : Nat) (hn : d.size = n) (ha : a < n) (hb : b < n) (hc : c < n) (hs : s ≤ 900) (h1000 : n ≤ 1000000) : AFn Go.Proofs.Tryz.prog 318 [.row 0 1 0 n, AV.int .i64 a, AV.int .i64 b, AV.int .i64 c, .ptr 1 0] (uSH n d s) (fun _ : Unit => AV.int .i64 (median nlt d a b c s).1) (fun _ => uSH n d (median nlt d a b c s).2) := by
 have c1 := order2_count (lt := nlt) d a b s
 obtain ⟨l1, l2⟩ := order2_lt (d := d) (s := s) ha hb
 generalize hr1 : order2 nlt d a b s = r1 at *
 have c2 := order2_count (lt := nlt) d r1.2.1 c r1.2.2
 obtain ⟨l3, l4⟩ := order2_lt (d := d) (s := r1.2.2) l2 hc
 generalize hr2 : order2 nlt d r1.2.1 c r1.2.2 = r2 at *
 have c3 := order2_count (lt := nlt) d r1.1 r2.1 r2.2.2
 generalize hr3 : order2 nlt d r1.1 r2.1 r2.2.2 = r3 at *
 have hm : median nlt d a b c s = (r3.2.1, r3.2.2) := by
  unfold median
  simp only [hr1, hr2, hr3]
 rw [hm]
 refine ACall.fin ?_
 refine ACall.walk (C := cfgU 36 2) (cfgUOk _ _) [] (fn := Go.Proofs.Tryz.f318) (by kernel_rfl) (by kernel_rfl) rfl (by kernel_rfl) (by kernel_rfl) rfl rfl ?_
 refine goA ?_
 refine AFn.useA [0, 1] (hr1 ▸ order2_ok n d a b s hn ha hb (by omega) h1000) fun _ => ?_
 refine goA ?_
 refine AFn.useA [0, 1] (hr2 ▸ order2_ok n d r1.2.1 c r1.2.2 hn l2 hc (by omega) h1000) fun _ => ?_
 refine goA ?_
 refine AFn.useA [0, 1] (hr3 ▸ order2_ok n d r1.1 r2.1 r2.2.2 hn l1 l3 (by omega) h1000) fun _ => ?_
 refine goA ?_
 refine ⟨_, _, Ent.mk' (e' := [(0, AV.int .i64 r3.2.1)]) (H' := uSH n d r3.2.2) [some 0, some 1] (by kernel_rfl) ?_ ?_, (), rfl, rfl⟩
 ·exact ⟨AVE.refl _, trivial⟩
 ·exact subC
theorem medAdj_ok (n : Nat) (d : Array Nat) (a s : Nat) (hn : d.size = n) (ha : 1 ≤ a) (hb : a + 1 < n) (hs : s ≤ 900) (h1000 : n ≤ 1000000) : AFn Go.Proofs.Tryz.prog 317 [.row 0 1 0 n, AV.int .i64 a, .ptr 1 0] (uSH n d s) (fun _ : Unit => AV.int .i64 (medianAdjacent nlt d a s).1) (fun _ => uSH n d (medianAdjacent nlt d a s).2) := by
 obtain ⟨m, rfl⟩ : ∃ m, a = m + 1 := ⟨a - 1, by omega⟩
 unfold medianAdjacent
 have h := median_ok n d (m + 1 - 1) (m + 1) (m + 1 + 1) s hn (by omega) (by omega) (by omega) hs h1000
 refine ACall.fin ?_
 refine ACall.walk (C := cfgU 15 2) (cfgUOk _ _) [] (fn := Go.Proofs.Tryz.f317) (by kernel_rfl) (by kernel_rfl) rfl (by kernel_rfl) (by kernel_rfl) rfl rfl ?_
 refine goA ?_
 have e1 : ((m + 1 : Nat) : Int) - 1 = ((m + 1 - 1 : Nat) : Int) := by omega
 have e2 : ((m + 1 : Nat) : Int) + 1 = ((m + 1 + 1 : Nat) : Int) := by omega
 refine ACall.eqArgs (args' := [.row 0 1 0 n, AV.int .i64 (m + 1 - 1 : Nat), AV.int .i64 (m + 1 : Nat), AV.int .i64 (m + 1 + 1 : Nat), .ptr 1 0]) (show [AV.row 0 1 0 n, AV.int .i64 (((m + 1 : Nat) : Int) - 1), AV.int .i64 (m + 1 : Nat), AV.int .i64 (((m + 1 : Nat) : Int) + 1), AV.ptr 1 0] = _ by rw [e1, e2]) ?_
 refine AFn.useA [0, 1] (h) fun _ => ?_
 refine goA ?_
 refine ⟨_, _, Ent.mk' (e' := [(0, AV.int .i64 (median nlt d (m + 1 - 1) (m + 1) (m + 1 + 1) s).1)]) (H' := uSH n d (median nlt d (m + 1 - 1) (m + 1) (m + 1 + 1) s).2) [some 0, some 1] (by kernel_rfl) ?_ ?_, (), rfl, rfl⟩
 ·exact ⟨AVE.refl _, trivial⟩
 ·exact subC
def hintN : Hint → Int
 | .unknown => 0
 | .increasing => 1
 | .decreasing => 2
theorem pivot_ok (n : Nat) (d : Array Nat) (a b : Nat) (hn : d.size = n) (hab : a + 12 < b) (hb : b ≤ n) (h1000 : n ≤ 1000000) : AFn Go.Proofs.Tryz.prog 282 [.row 0 1 0 n, AV.int .i64 a, AV.int .i64 b] (uH n d) (fun _ : Unit => .tup [AV.int .i64 (choosePivot nlt d a b).1, AV.int .i64 (hintN (choosePivot nlt d a b).2)]) (fun _ => uH n d) := by
 have e1 : (a : Int) + ((b : Int) - a) / 4 * 1 = ((a + (b - a) / 4 * 1 : Nat) : Int) := by omega
 have e2 : (a : Int) + ((b : Int) - a) / 4 * 2 = ((a + (b - a) / 4 * 2 : Nat) : Int) := by omega
 have e3 : (a : Int) + ((b : Int) - a) / 4 * 3 = ((a + (b - a) / 4 * 3 : Nat) : Int) := by omega
 refine ACall.fin ?_
 refine ACall.walk (C := cfgU 57 1) (cfgUOk _ _) [] (fn := Go.Proofs.Tryz.f282) (by kernel_rfl) (by kernel_rfl) rfl (by kernel_rfl) (by kernel_rfl) rfl rfl ?_
 refine goA ?_
 refine ifdA (fun h8 => ?_) (fun h8 => ?_) <;> (try dsimp only at h8)
 rotate_left
 ·exact absurd (show (b : Int) - a ≥ 8 by omega) h8
 refine goA ?_
 refine ifdA (fun h50 => ?_) (fun h50 => ?_) <;> (try dsimp only at h50)
 ·have m1 := medAdj_ok n d (a + (b - a) / 4 * 1) 0 hn (by omega) (by omega) (by omega) h1000
  have c1 : (medianAdjacent nlt d (a + (b - a) / 4 * 1) 0).2 ≤ 3 := medianAdjacent_count nlt d _ 0
  have l1 : (medianAdjacent nlt d (a + (b - a) / 4 * 1) 0).1 < n := by rcases medianAdjacent_mem nlt d (a + (b - a) / 4 * 1) 0 with h | h | h <;> rw [h] <;> omega
  generalize hri : medianAdjacent nlt d (a + (b - a) / 4 * 1) 0 = ri at m1 c1 l1
  have m2 := medAdj_ok n d (a + (b - a) / 4 * 2) ri.2 hn (by omega) (by omega) (by omega) h1000
  have c2 : (medianAdjacent nlt d (a + (b - a) / 4 * 2) ri.2).2 ≤ ri.2 + 3 := medianAdjacent_count nlt d _ _
  have l2 : (medianAdjacent nlt d (a + (b - a) / 4 * 2) ri.2).1 < n := by rcases medianAdjacent_mem nlt d (a + (b - a) / 4 * 2) ri.2 with h | h | h <;> rw [h] <;> omega
  generalize hrj : medianAdjacent nlt d (a + (b - a) / 4 * 2) ri.2 = rj at m2 c2 l2
  have m3 := medAdj_ok n d (a + (b - a) / 4 * 3) rj.2 hn (by omega) (by omega) (by omega) h1000
  have c3 : (medianAdjacent nlt d (a + (b - a) / 4 * 3) rj.2).2 ≤ rj.2 + 3 := medianAdjacent_count nlt d _ _
  have l3 : (medianAdjacent nlt d (a + (b - a) / 4 * 3) rj.2).1 < n := by rcases medianAdjacent_mem nlt d (a + (b - a) / 4 * 3) rj.2 with h | h | h <;> rw [h] <;> omega
  generalize hrk : medianAdjacent nlt d (a + (b - a) / 4 * 3) rj.2 = rk at m3 c3 l3
  have m4 := median_ok n d ri.1 rj.1 rk.1 rk.2 hn l1 l2 l3 (by omega) h1000
  generalize hr : median nlt d ri.1 rj.1 rk.1 rk.2 = r at m4
  have hch : choosePivot nlt d a b = (r.1, if r.2 = 0 then .increasing else if r.2 = 12 then .decreasing else .unknown) := by
   unfold choosePivot
   simp only [if_pos (show b - a ≥ 8 by omega), if_pos (show b - a ≥ 50 by omega), hri, hrj, hrk, hr]
  refine goA ?_
  refine ACall.eqArgs (args' := [.row 0 1 0 n, AV.int .i64 (((a + (b - a) / 4 * 1) : Nat) : Int), .ptr 1 0]) (show [AV.row 0 1 0 n, AV.int .i64 ((a : Int) + ((b : Int) - a) / 4 * 1), AV.ptr 1 0] = [.row 0 1 0 n, AV.int .i64 (((a + (b - a) / 4 * 1) : Nat) : Int), .ptr 1 0] by rw [e1]) ?_
  refine AFn.useA [0, 1] (m1) fun _ => ?_
  refine goA ?_
  refine ACall.eqArgs (args' := [.row 0 1 0 n, AV.int .i64 (((a + (b - a) / 4 * 2) : Nat) : Int), .ptr 1 0]) (show [AV.row 0 1 0 n, AV.int .i64 ((a : Int) + ((b : Int) - a) / 4 * 2), AV.ptr 1 0] = [.row 0 1 0 n, AV.int .i64 (((a + (b - a) / 4 * 2) : Nat) : Int), .ptr 1 0] by rw [e2]) ?_
  refine AFn.useA [0, 1] (m2) fun _ => ?_
  refine goA ?_
  refine ACall.eqArgs (args' := [.row 0 1 0 n, AV.int .i64 (((a + (b - a) / 4 * 3) : Nat) : Int), .ptr 1 0]) (show [AV.row 0 1 0 n, AV.int .i64 ((a : Int) + ((b : Int) - a) / 4 * 3), AV.ptr 1 0] = [.row 0 1 0 n, AV.int .i64 (((a + (b - a) / 4 * 3) : Nat) : Int), .ptr 1 0] by rw [e3]) ?_
  refine AFn.useA [0, 1] (m3) fun _ => ?_
  refine goA ?_
  refine AFn.useA [0, 1] (m4) fun _ => ?_
  refine goA ?_
  refine ifdA (fun z0 => ?_) (fun z0 => ?_) <;> (try dsimp only at z0)
  ·have ec : choosePivot nlt d a b = (r.1, .increasing) := by rw [hch, if_pos (by omega)]
   rw [ec]
   refine goA ?_
   refine ⟨_, _, Ent.mk' (e' := [(0, .tup [AV.int .i64 r.1, AV.int .i64 1])]) (H' := uH n d) [some 0] (by kernel_rfl) ?_ ?_, (), rfl, rfl⟩
   ·exact ⟨AVE.refl _, trivial⟩
   ·exact subC
  ·refine goA ?_
   refine ifdA (fun z1 => ?_) (fun z1 => ?_) <;> (try dsimp only at z1)
   ·have ec : choosePivot nlt d a b = (r.1, .decreasing) := by rw [hch, if_neg (by omega), if_pos (by omega)]
    rw [ec]
    refine goA ?_
    refine ⟨_, _, Ent.mk' (e' := [(0, .tup [AV.int .i64 r.1, AV.int .i64 2])]) (H' := uH n d) [some 0] (by kernel_rfl) ?_ ?_, (), rfl, rfl⟩
    ·exact ⟨AVE.refl _, trivial⟩
    ·exact subC
   ·have ec : choosePivot nlt d a b = (r.1, .unknown) := by rw [hch, if_neg (by omega), if_neg (by omega)]
    rw [ec]
    refine goA ?_
    refine ⟨_, _, Ent.mk' (e' := [(0, .tup [AV.int .i64 r.1, AV.int .i64 0])]) (H' := uH n d) [some 0] (by kernel_rfl) ?_ ?_, (), rfl, rfl⟩
    ·exact ⟨AVE.refl _, trivial⟩
    ·exact subC
 ·have m4 := median_ok n d (a + (b - a) / 4 * 1) (a + (b - a) / 4 * 2) (a + (b - a) / 4 * 3) 0 hn (by omega) (by omega) (by omega) (by omega) h1000
  generalize hr : median nlt d (a + (b - a) / 4 * 1) (a + (b - a) / 4 * 2) (a + (b - a) / 4 * 3) 0 = r at m4
  have hch : choosePivot nlt d a b = (r.1, if r.2 = 0 then .increasing else if r.2 = 12 then .decreasing else .unknown) := by
   unfold choosePivot
   simp only [if_pos (show b - a ≥ 8 by omega), if_neg (show ¬ b - a ≥ 50 by omega), hr]
  refine goA ?_
  refine ACall.eqArgs (args' := [.row 0 1 0 n, AV.int .i64 (((a + (b - a) / 4 * 1) : Nat) : Int), AV.int .i64 (((a + (b - a) / 4 * 2) : Nat) : Int), AV.int .i64 (((a + (b - a) / 4 * 3) : Nat) : Int), .ptr 1 0]) (show [AV.row 0 1 0 n, AV.int .i64 ((a : Int) + ((b : Int) - a) / 4 * 1), AV.int .i64 ((a : Int) + ((b : Int) - a) / 4 * 2), AV.int .i64 ((a : Int) + ((b : Int) - a) / 4 * 3), AV.ptr 1 0] = [.row 0 1 0 n, AV.int .i64 (((a + (b - a) / 4 * 1) : Nat) : Int), AV.int .i64 (((a + (b - a) / 4 * 2) : Nat) : Int), AV.int .i64 (((a + (b - a) / 4 * 3) : Nat) : Int), .ptr 1 0] by rw [e1, e2, e3]) ?_
  refine AFn.useA [0, 1] (m4) fun _ => ?_
  refine goA ?_
  refine ifdA (fun z0 => ?_) (fun z0 => ?_) <;> (try dsimp only at z0)
  ·have ec : choosePivot nlt d a b = (r.1, .increasing) := by rw [hch, if_pos (by omega)]
   rw [ec]
   refine goA ?_
   refine ⟨_, _, Ent.mk' (e' := [(0, .tup [AV.int .i64 r.1, AV.int .i64 1])]) (H' := uH n d) [some 0] (by kernel_rfl) ?_ ?_, (), rfl, rfl⟩
   ·exact ⟨AVE.refl _, trivial⟩
   ·exact subC
  ·refine goA ?_
   refine ifdA (fun z1 => ?_) (fun z1 => ?_) <;> (try dsimp only at z1)
   ·have ec : choosePivot nlt d a b = (r.1, .decreasing) := by rw [hch, if_neg (by omega), if_pos (by omega)]
    rw [ec]
    refine goA ?_
    refine ⟨_, _, Ent.mk' (e' := [(0, .tup [AV.int .i64 r.1, AV.int .i64 2])]) (H' := uH n d) [some 0] (by kernel_rfl) ?_ ?_, (), rfl, rfl⟩
    ·exact ⟨AVE.refl _, trivial⟩
    ·exact subC
   ·have ec : choosePivot nlt d a b = (r.1, .unknown) := by rw [hch, if_neg (by omega), if_neg (by omega)]
    rw [ec]
    refine goA ?_
    refine ⟨_, _, Ent.mk' (e' := [(0, .tup [AV.int .i64 r.1, AV.int .i64 0])]) (H' := uH n d) [some 0] (by kernel_rfl) ?_ ?_, (), rfl, rfl⟩
    ·exact ⟨AVE.refl _, trivial⟩
    ·exact subC
end Go.Proofs.YtgfkepebfaiepaaGreatDoor.Ax

namespace Go.Proofs.YtgfkepebfaiepaaGreatDoor.Ax
open Go.RowKit Go.Sort
set_option maxRecDepth 100000
theorem scanUp_le (p : Nat → Bool) (d : Array Nat) (j : Nat) : ∀ (m i : Nat), j + 1 - i = m → i ≤ j + 1 → scanUp p d j i ≤ j + 1
 | 0, i, h, hi => by
   unfold scanUp
   rw [if_neg (by simp; omega)]
   exact hi
 | m + 1, i, h, hi => by
   unfold scanUp
   split
   ·exact scanUp_le p d j m (i + 1) (by omega) (by omega)
   ·exact hi
theorem scanUp_le2 (p : Nat → Bool) (d : Array Nat) (j i n : Nat) (hi : i ≤ n + 1) (hj : j < n) : scanUp p d j i ≤ n + 1 := by
 by_cases h : i ≤ j + 1
 ·have := scanUp_le p d j _ i rfl h
  omega
 ·unfold scanUp
  rw [if_neg (by simp only [Bool.and_eq_true, decide_eq_true_eq]; exact fun h2 => by have := h2.1; omega)]
  exact hi
set_option maxHeartbeats 4000000 in
theorem partEq_ok (n : Nat) (d : Array Nat) (a b p : Nat) (hn : d.size = n) (hab : a + 1 < b) (hb : b ≤ n) (hp1 : a ≤ p) (hp2 : p < b) (h1000 : n ≤ 1000000) : AFn Go.Proofs.Tryz.prog 286 [.row 0 1 0 n, AV.int .i64 a, AV.int .i64 b, AV.int .i64 p] (uH n d) (fun _ : Unit => AV.int .i64 (partitionEqual nlt d a b p).1) (fun _ => uH n (partitionEqual nlt d a b p).2) := by
 generalize hP : partitionEqual nlt d a b p = P
 unfold partitionEqual at hP
 have ia : ((a : Nat) : Int).toNat = a := by simp
 have ip : ((p : Nat) : Int).toNat = p := by simp
 have hs0 : (swp d a p).size = n := by rw [size_swp]; exact hn
 refine ACall.fin ?_
 refine ACall.walk (C := cfgU 84 1) (cfgUOk _ _) sch286 (fn := Go.Proofs.Tryz.f286) (by kernel_rfl) (by kernel_rfl) rfl (by kernel_rfl) (by kernel_rfl) rfl rfl ?_
 refine goA ?_
 refine AWP.loop (X := { x : Nat × Nat × Array Nat // x.2.2.size = n ∧ a < x.1 ∧ x.1 ≤ n + 1 ∧ x.2.1 < n ∧ partEqLoop nlt a x.1 x.2.1 x.2.2 = P }) (fun x => [(0, .row 0 1 0 n), (1, AV.int .i64 a), (9, AV.int .i64 x.1.1), (10, AV.int .i64 x.1.2.1)]) (fun x => uH n x.1.2.2) (fun x => x.1.2.1 + 1 - x.1.1) (⟨(a + 1, b - 1, swp d a p), hs0, by dsimp only; omega, by dsimp only; omega, by dsimp only; omega, hP⟩) ?_ fun x => AWP.go (S := sch286) (cfgUOk _ _) (.of_eq (by kernel_rfl)) ?_
 ·refine Ent.mk' [some 0] (by kernel_rfl) ?_ ?_
  ·exact ⟨AVE.refl _, AVE.refl _, AVE.int (by dsimp only; omega), AVE.int (by dsimp only; omega), trivial⟩
  ·refine ⟨⟨_, rfl, ?_⟩, trivial⟩
   simp only [ia, ip, Nat.zero_add]
   exact uswp (by omega) (by omega)
 ·obtain ⟨⟨i, j, dk⟩, hs, hai, hin, hjn, ho⟩ := x
  dsimp only at hs hai hin hjn ho
  rw [partEqLoop_eq] at ho
  generalize hI : scanUp (fun x => !nlt dk[a]! x) dk j i = I at ho
  generalize hJ : scanDown (fun x => nlt dk[a]! x) dk I j = J at ho
  have hIa : i ≤ I := hI ▸ scanUp_ge _ _ _ _
  have hIn : I ≤ n + 1 := hI ▸ scanUp_le2 _ _ _ _ _ hin hjn
  have hJl : J ≤ j := hJ ▸ scanDown_le _ _ _ _
  refine goA ?_
  refine AWP.merge (Y := Unit) (fun u => [(0, .row 0 1 0 n), (1, AV.int .i64 a), (9, AV.int .i64 I), (10, AV.int .i64 j)]) (fun u => uH n dk) 2 (fun u => ?_) ?_
  ·refine goA ?_
   refine AWP.merge (Y := Unit) (fun u => [(0, .row 0 1 0 n), (1, AV.int .i64 a), (9, AV.int .i64 I), (10, AV.int .i64 J)]) (fun u => uH n dk) 4 (fun u => ?_) ?_
   ·have iI : ((I : Nat) : Int).toNat = I := by simp
    have iJ : ((J : Nat) : Int).toNat = J := by simp
    refine goA ?_
    refine ifdA (fun h => ?_) (fun h => ?_) <;> (try dsimp only at h)
    ·have e0 : P = (I, dk) := by rw [← ho, if_pos (by omega)]
     subst e0
     refine goA ?_
     refine ⟨_, _, Ent.mk' (e' := [(0, AV.int .i64 I)]) (H' := uH n dk) [some 0] (by kernel_rfl) ?_ ?_, (), rfl, rfl⟩
     ·exact ⟨AVE.refl _, trivial⟩
     ·exact subC
    ·rw [if_neg (by omega)] at ho
     refine goA ?_
     refine ⟨⟨(I + 1, J - 1, swp dk I J), by rw [size_swp]; exact hs, by dsimp only; omega, by dsimp only; omega, by dsimp only; omega, ho⟩, Ent.mkC [some 0] ?_, ?_⟩
     ·refine ⟨⟨_, rfl, ?_⟩, trivial⟩
      simp only [iI, iJ, Nat.zero_add]
      exact uswp (by omega) (by omega)
     ·show J - 1 + 1 - (I + 1) < j + 1 - i
      omega
   refine AWP.loop (X := { x : Nat // x < n ∧ scanDown (fun x => nlt dk[a]! x) dk I x = J }) (fun x => [(0, .row 0 1 0 n), (1, AV.int .i64 a), (9, AV.int .i64 I), (10, AV.int .i64 x.1)]) (fun x => uH n dk) (fun x => x.1) (⟨j, hjn, hJ⟩) ?_ fun x => AWP.go (S := sch286) (cfgUOk _ _) (.of_eq (by kernel_rfl)) ?_
   ·exact Ent.mkA [some 0]
   ·obtain ⟨x, hxa, hx⟩ := x
    have ix : ((x : Nat) : Int).toNat = x := by simp
    have ia : ((a : Nat) : Int).toNat = a := by simp
    refine goA ?_
    refine ifdA (fun g => ?_) (fun g => ?_) <;> (try dsimp only at g)
    ·obtain ⟨m, rfl⟩ : ∃ m, x = m + 1 := ⟨x - 1, by omega⟩
     refine goA ?_
     refine AFn.useA [] (less_ok _ _) fun _ => ?_
     refine goA ?_
     refine ifdA (fun g2 => ?_) (fun g2 => ?_) <;> (try dsimp only at g2)
     ·have hp : (decide (I ≤ m + 1) && (fun x => nlt dk[a]! x) dk[m + 1]!) = true := by simp only [ix, ia, Nat.zero_add] at g2; simp only [Bool.and_eq_true, decide_eq_true_eq]; exact ⟨by omega, by simpa [nlt] using g2⟩
      refine goA ?_
      refine ⟨⟨m, by omega, ?_⟩, Ent.mkC [some 0] ?_, ?_⟩
      ·rw [← hx]
       conv => rhs; unfold scanDown
       rw [if_pos hp]
      ·exact subC
      ·show m < m + 1
       omega
     ·have hp : ¬ (decide (I ≤ m + 1) && (fun x => nlt dk[a]! x) dk[m + 1]!) = true := by simp only [ix, ia, Nat.zero_add] at g2; simp only [Bool.and_eq_true, decide_eq_true_eq]; exact fun h => by have := h.2; simp [nlt] at this; omega
      have e0 : J = m + 1 := by
       rw [← hx]
       unfold scanDown
       rw [if_neg hp]
      refine goA ?_
      exact ⟨(), Ent.mk' [some 0] (by kernel_rfl) ⟨AVE.refl _, AVE.refl _, AVE.refl _, AVE.int (congrArg Int.ofNat e0.symm), trivial⟩ (by exact subC)⟩
    ·have e0 : J = x := by
      rw [← hx]
      cases x with
      | zero => rfl
      | succ m =>
        unfold scanDown
        rw [if_neg (by simp only [Bool.and_eq_true, decide_eq_true_eq]; exact fun h => by have := h.1; omega)]
     refine goA ?_
     exact ⟨(), Ent.mk' [some 0] (by kernel_rfl) ⟨AVE.refl _, AVE.refl _, AVE.refl _, AVE.int (congrArg Int.ofNat e0.symm), trivial⟩ (by exact subC)⟩
  refine AWP.loop (X := { x : Nat // a < x ∧ scanUp (fun x => !nlt dk[a]! x) dk j x = I }) (fun x => [(0, .row 0 1 0 n), (1, AV.int .i64 a), (9, AV.int .i64 x.1), (10, AV.int .i64 j)]) (fun x => uH n dk) (fun x => j + 1 - x.1) (⟨i, hai, hI⟩) ?_ fun x => AWP.go (S := sch286) (cfgUOk _ _) (.of_eq (by kernel_rfl)) ?_
  ·exact Ent.mkA [some 0]
  ·obtain ⟨x, hxa, hx⟩ := x
   have ix : ((x : Nat) : Int).toNat = x := by simp
   have ia : ((a : Nat) : Int).toNat = a := by simp
   refine goA ?_
   refine ifdA (fun g => ?_) (fun g => ?_) <;> (try dsimp only at g)
   ·refine goA ?_
    refine AFn.useA [] (less_ok _ _) fun _ => ?_
    refine goA ?_
    refine ifdA (fun g2 => ?_) (fun g2 => ?_) <;> (try dsimp only at g2)
    ·have hp : (decide (x ≤ j) && (fun x => !nlt dk[a]! x) dk[x]!) = true := by simp only [ix, ia, Nat.zero_add] at g2; simp only [Bool.and_eq_true, decide_eq_true_eq]; exact ⟨by omega, by simpa [nlt] using g2⟩
     refine goA ?_
     refine ⟨⟨x + 1, by omega, ?_⟩, Ent.mkC [some 0] ?_, ?_⟩
     ·rw [← hx]
      conv => rhs; unfold scanUp
      rw [if_pos hp]
     ·exact subC
     ·show j + 1 - (x + 1) < j + 1 - x
      omega
    ·have hp : ¬ (decide (x ≤ j) && (fun x => !nlt dk[a]! x) dk[x]!) = true := by simp only [ix, ia, Nat.zero_add] at g2; simp only [Bool.and_eq_true, decide_eq_true_eq]; exact fun h => by have := h.2; simp [nlt] at this; omega
     have e0 : I = x := by
      rw [← hx]
      unfold scanUp
      rw [if_neg hp]
     refine goA ?_
     exact ⟨(), Ent.mk' [some 0] (by kernel_rfl) ⟨AVE.refl _, AVE.refl _, AVE.int (congrArg Int.ofNat e0.symm), AVE.refl _, trivial⟩ (by exact subC)⟩
   ·have hp : ¬ (decide (x ≤ j) && (fun x => !nlt dk[a]! x) dk[x]!) = true := by simp only [Bool.and_eq_true, decide_eq_true_eq]; exact fun h => by have := h.1; omega
    have e0 : I = x := by
     rw [← hx]
     unfold scanUp
     rw [if_neg hp]
    refine goA ?_
    exact ⟨(), Ent.mk' [some 0] (by kernel_rfl) ⟨AVE.refl _, AVE.refl _, AVE.int (congrArg Int.ofNat e0.symm), AVE.refl _, trivial⟩ (by exact subC)⟩
set_option maxHeartbeats 4000000 in
theorem part_ok (n : Nat) (d : Array Nat) (a b p : Nat) (hn : d.size = n) (hab : a + 1 < b) (hb : b ≤ n) (hp1 : a ≤ p) (hp2 : p < b) (h1000 : n ≤ 1000000) : AFn Go.Proofs.Tryz.prog 287 [.row 0 1 0 n, AV.int .i64 a, AV.int .i64 b, AV.int .i64 p] (uH n d) (fun _ : Unit => .tup [AV.int .i64 (partition nlt d a b p).1, AV.bool (partition nlt d a b p).2.1]) (fun _ => uH n (partition nlt d a b p).2.2) := by
 generalize hP : partition nlt d a b p = P
 unfold partition at hP
 have ia : ((a : Nat) : Int).toNat = a := by simp
 have ip : ((p : Nat) : Int).toNat = p := by simp
 have hs0 : (swp d a p).size = n := by rw [size_swp]; exact hn
 obtain ⟨q, hq⟩ : ∃ q, q = b - 1 := ⟨_, rfl⟩
 have hqn : q < n := by omega
 rw [← hq] at hP
 dsimp only at hP
 generalize hI : scanUp (fun x => nlt x (swp d a p)[a]!) (swp d a p) q (a + 1) = I at hP
 generalize hJ : scanDown (fun x => !nlt x (swp d a p)[a]!) (swp d a p) I q = J at hP
 generalize hR : partLoop nlt a (I + 1) (J - 1) (swp (swp d a p) I J) = R at hP
 have hIa : a + 1 ≤ I := hI ▸ scanUp_ge _ _ _ _
 have hIn : I ≤ n + 1 := hI ▸ scanUp_le2 _ _ _ _ _ (by omega) hqn
 have hJl : J ≤ q := hJ ▸ scanDown_le _ _ _ _
 have iI : ((I : Nat) : Int).toNat = I := by simp
 have iJ : ((J : Nat) : Int).toNat = J := by simp
 refine ACall.fin ?_
 refine ACall.walk (C := cfgU 168 1) (cfgUOk _ _) sch287 (fn := Go.Proofs.Tryz.f287) (by kernel_rfl) (by kernel_rfl) rfl (by kernel_rfl) (by kernel_rfl) rfl rfl ?_
 refine goA ?_
 refine AWP.merge (Y := Unit) (fun u => [(0, .row 0 1 0 n), (1, AV.int .i64 a), (10, AV.int .i64 I), (11, AV.int .i64 q)]) (fun u => uH n (swp d a p)) 0 (fun u => ?_) ?_
 ·refine goA ?_
  refine AWP.merge (Y := Unit) (fun u => [(0, .row 0 1 0 n), (1, AV.int .i64 a), (10, AV.int .i64 I), (11, AV.int .i64 J)]) (fun u => uH n (swp d a p)) 2 (fun u => ?_) ?_
  ·refine goA ?_
   refine ifdA (fun h => ?_) (fun h => ?_) <;> (try dsimp only at h)
   ·rw [if_pos (by omega)] at hP
    subst hP
    refine goA ?_
    refine ⟨_, _, Ent.mk' (e' := [(0, .tup [AV.int .i64 J, AV.bool true])]) (H' := uH n (swp (swp d a p) J a)) [some 0] (by kernel_rfl) ?_ ?_, (), rfl, rfl⟩
    ·exact ⟨AVE.refl _, trivial⟩
    ·refine ⟨⟨_, rfl, ?_⟩, trivial⟩
     simp only [ia, iJ, Nat.zero_add]
     exact uswp (by omega) (by omega)
   rw [if_neg (by omega)] at hP
   refine goA ?_
   refine AWP.loop (X := { x : Nat × Nat × Array Nat // x.2.2.size = n ∧ a < x.1 ∧ x.1 ≤ n + 1 ∧ x.2.1 < n ∧ partLoop nlt a x.1 x.2.1 x.2.2 = R }) (fun x => [(0, .row 0 1 0 n), (1, AV.int .i64 a), (10, AV.int .i64 x.1.1), (11, AV.int .i64 x.1.2.1)]) (fun x => uH n x.1.2.2) (fun x => x.1.2.1 + 1 - x.1.1) (⟨(I + 1, J - 1, swp (swp d a p) I J), by dsimp only; rw [size_swp]; exact hs0, by dsimp only; omega, by dsimp only; omega, by dsimp only; omega, hR⟩) ?_ fun x => AWP.go (S := sch287) (cfgUOk _ _) (.of_eq (by kernel_rfl)) ?_
   ·refine Ent.mk' [some 0] (by kernel_rfl) ?_ ?_
    ·exact ⟨AVE.refl _, AVE.refl _, AVE.int (by dsimp only; omega), AVE.int (by dsimp only; omega), trivial⟩
    ·refine ⟨⟨_, rfl, ?_⟩, trivial⟩
     simp only [iI, iJ, Nat.zero_add]
     exact uswp (by omega) (by omega)
   ·obtain ⟨⟨i, j, dk⟩, hs, hai, hin, hjn, ho⟩ := x
    dsimp only at hs hai hin hjn ho
    rw [partLoop_eq] at ho
    generalize hI2 : scanUp (fun x => nlt x dk[a]!) dk j i = I2 at ho
    generalize hJ2 : scanDown (fun x => !nlt x dk[a]!) dk I2 j = J2 at ho
    have hIa2 : i ≤ I2 := hI2 ▸ scanUp_ge _ _ _ _
    have hIn2 : I2 ≤ n + 1 := hI2 ▸ scanUp_le2 _ _ _ _ _ hin hjn
    have hJl2 : J2 ≤ j := hJ2 ▸ scanDown_le _ _ _ _
    have iI2 : ((I2 : Nat) : Int).toNat = I2 := by simp
    have iJ2 : ((J2 : Nat) : Int).toNat = J2 := by simp
    refine goA ?_
    refine AWP.merge (Y := Unit) (fun u => [(0, .row 0 1 0 n), (1, AV.int .i64 a), (10, AV.int .i64 I2), (11, AV.int .i64 j)]) (fun u => uH n dk) 6 (fun u => ?_) ?_
    ·refine goA ?_
     refine AWP.merge (Y := Unit) (fun u => [(0, .row 0 1 0 n), (1, AV.int .i64 a), (10, AV.int .i64 I2), (11, AV.int .i64 J2)]) (fun u => uH n dk) 8 (fun u => ?_) ?_
     ·refine goA ?_
      refine ifdA (fun h2 => ?_) (fun h2 => ?_) <;> (try dsimp only at h2)
      ·rw [if_pos (by omega)] at ho
       subst ho
       subst hP
       refine goA ?_
       refine ⟨_, _, Ent.mk' (e' := [(0, .tup [AV.int .i64 J2, AV.bool false])]) (H' := uH n (swp dk J2 a)) [some 0] (by kernel_rfl) ?_ ?_, (), rfl, rfl⟩
       ·exact ⟨AVE.refl _, trivial⟩
       ·refine ⟨⟨_, rfl, ?_⟩, trivial⟩
        simp only [ia, iJ2, Nat.zero_add]
        exact uswp (by omega) (by omega)
      ·rw [if_neg (by omega)] at ho
       refine goA ?_
       refine ⟨⟨(I2 + 1, J2 - 1, swp dk I2 J2), by rw [size_swp]; exact hs, by dsimp only; omega, by dsimp only; omega, by dsimp only; omega, ho⟩, Ent.mkC [some 0] ?_, ?_⟩
       ·refine ⟨⟨_, rfl, ?_⟩, trivial⟩
        simp only [iI2, iJ2, Nat.zero_add]
        exact uswp (by omega) (by omega)
       ·show J2 - 1 + 1 - (I2 + 1) < j + 1 - i
        omega
     refine AWP.loop (X := { x : Nat // x < n ∧ scanDown (fun x => !nlt x dk[a]!) dk I2 x = J2 }) (fun x => [(0, .row 0 1 0 n), (1, AV.int .i64 a), (10, AV.int .i64 I2), (11, AV.int .i64 x.1)]) (fun x => uH n dk) (fun x => x.1) (⟨j, hjn, hJ2⟩) ?_ fun x => AWP.go (S := sch287) (cfgUOk _ _) (.of_eq (by kernel_rfl)) ?_
     ·exact Ent.mkA [some 0]
     ·obtain ⟨x, hxa, hx⟩ := x
      have ix : ((x : Nat) : Int).toNat = x := by simp
      have ia : ((a : Nat) : Int).toNat = a := by simp
      refine goA ?_
      refine ifdA (fun g => ?_) (fun g => ?_) <;> (try dsimp only at g)
      ·obtain ⟨m, rfl⟩ : ∃ m, x = m + 1 := ⟨x - 1, by omega⟩
       refine goA ?_
       refine AFn.useA [] (less_ok _ _) fun _ => ?_
       refine goA ?_
       refine ifdA (fun g2 => ?_) (fun g2 => ?_) <;> (try dsimp only at g2)
       ·have hp : (decide (I2 ≤ m + 1) && (fun x => !nlt x dk[a]!) dk[m + 1]!) = true := by simp only [ix, ia, Nat.zero_add] at g2; simp only [Bool.and_eq_true, decide_eq_true_eq]; exact ⟨by omega, by simpa [nlt] using g2⟩
        refine goA ?_
        refine ⟨⟨m, by omega, ?_⟩, Ent.mkC [some 0] ?_, ?_⟩
        ·rw [← hx]
         conv => rhs; unfold scanDown
         rw [if_pos hp]
        ·exact subC
        ·show m < m + 1
         omega
       ·have hp : ¬ (decide (I2 ≤ m + 1) && (fun x => !nlt x dk[a]!) dk[m + 1]!) = true := by simp only [ix, ia, Nat.zero_add] at g2; simp only [Bool.and_eq_true, decide_eq_true_eq]; exact fun h => by have := h.2; simp [nlt] at this; omega
        have e0 : J2 = m + 1 := by
         rw [← hx]
         unfold scanDown
         rw [if_neg hp]
        refine goA ?_
        exact ⟨(), Ent.mk' [some 0] (by kernel_rfl) ⟨AVE.refl _, AVE.refl _, AVE.refl _, AVE.int (congrArg Int.ofNat e0.symm), trivial⟩ (by exact subC)⟩
      ·have e0 : J2 = x := by
        rw [← hx]
        cases x with
        | zero => rfl
        | succ m =>
          unfold scanDown
          rw [if_neg (by simp only [Bool.and_eq_true, decide_eq_true_eq]; exact fun h => by have := h.1; omega)]
       refine goA ?_
       exact ⟨(), Ent.mk' [some 0] (by kernel_rfl) ⟨AVE.refl _, AVE.refl _, AVE.refl _, AVE.int (congrArg Int.ofNat e0.symm), trivial⟩ (by exact subC)⟩
    refine AWP.loop (X := { x : Nat // a < x ∧ scanUp (fun x => nlt x dk[a]!) dk j x = I2 }) (fun x => [(0, .row 0 1 0 n), (1, AV.int .i64 a), (10, AV.int .i64 x.1), (11, AV.int .i64 j)]) (fun x => uH n dk) (fun x => j + 1 - x.1) (⟨i, hai, hI2⟩) ?_ fun x => AWP.go (S := sch287) (cfgUOk _ _) (.of_eq (by kernel_rfl)) ?_
    ·exact Ent.mkA [some 0]
    ·obtain ⟨x, hxa, hx⟩ := x
     have ix : ((x : Nat) : Int).toNat = x := by simp
     have ia : ((a : Nat) : Int).toNat = a := by simp
     refine goA ?_
     refine ifdA (fun g => ?_) (fun g => ?_) <;> (try dsimp only at g)
     ·refine goA ?_
      refine AFn.useA [] (less_ok _ _) fun _ => ?_
      refine goA ?_
      refine ifdA (fun g2 => ?_) (fun g2 => ?_) <;> (try dsimp only at g2)
      ·have hp : (decide (x ≤ j) && (fun x => nlt x dk[a]!) dk[x]!) = true := by simp only [ix, ia, Nat.zero_add] at g2; simp only [Bool.and_eq_true, decide_eq_true_eq]; exact ⟨by omega, by simpa [nlt] using g2⟩
       refine goA ?_
       refine ⟨⟨x + 1, by omega, ?_⟩, Ent.mkC [some 0] ?_, ?_⟩
       ·rw [← hx]
        conv => rhs; unfold scanUp
        rw [if_pos hp]
       ·exact subC
       ·show j + 1 - (x + 1) < j + 1 - x
        omega
      ·have hp : ¬ (decide (x ≤ j) && (fun x => nlt x dk[a]!) dk[x]!) = true := by simp only [ix, ia, Nat.zero_add] at g2; simp only [Bool.and_eq_true, decide_eq_true_eq]; exact fun h => by have := h.2; simp [nlt] at this; omega
       have e0 : I2 = x := by
        rw [← hx]
        unfold scanUp
        rw [if_neg hp]
       refine goA ?_
       exact ⟨(), Ent.mk' [some 0] (by kernel_rfl) ⟨AVE.refl _, AVE.refl _, AVE.int (congrArg Int.ofNat e0.symm), AVE.refl _, trivial⟩ (by exact subC)⟩
     ·have hp : ¬ (decide (x ≤ j) && (fun x => nlt x dk[a]!) dk[x]!) = true := by simp only [Bool.and_eq_true, decide_eq_true_eq]; exact fun h => by have := h.1; omega
      have e0 : I2 = x := by
       rw [← hx]
       unfold scanUp
       rw [if_neg hp]
      refine goA ?_
      exact ⟨(), Ent.mk' [some 0] (by kernel_rfl) ⟨AVE.refl _, AVE.refl _, AVE.int (congrArg Int.ofNat e0.symm), AVE.refl _, trivial⟩ (by exact subC)⟩
  refine AWP.loop (X := { x : Nat // x < n ∧ scanDown (fun x => !nlt x (swp d a p)[a]!) (swp d a p) I x = J }) (fun x => [(0, .row 0 1 0 n), (1, AV.int .i64 a), (10, AV.int .i64 I), (11, AV.int .i64 x.1)]) (fun x => uH n (swp d a p)) (fun x => x.1) (⟨q, hqn, hJ⟩) ?_ fun x => AWP.go (S := sch287) (cfgUOk _ _) (.of_eq (by kernel_rfl)) ?_
  ·exact Ent.mkA [some 0]
  ·obtain ⟨x, hxa, hx⟩ := x
   have ix : ((x : Nat) : Int).toNat = x := by simp
   have ia : ((a : Nat) : Int).toNat = a := by simp
   refine goA ?_
   refine ifdA (fun g => ?_) (fun g => ?_) <;> (try dsimp only at g)
   ·obtain ⟨m, rfl⟩ : ∃ m, x = m + 1 := ⟨x - 1, by omega⟩
    refine goA ?_
    refine AFn.useA [] (less_ok _ _) fun _ => ?_
    refine goA ?_
    refine ifdA (fun g2 => ?_) (fun g2 => ?_) <;> (try dsimp only at g2)
    ·have hp : (decide (I ≤ m + 1) && (fun x => !nlt x (swp d a p)[a]!) (swp d a p)[m + 1]!) = true := by simp only [ix, ia, Nat.zero_add] at g2; simp only [Bool.and_eq_true, decide_eq_true_eq]; exact ⟨by omega, by simpa [nlt] using g2⟩
     refine goA ?_
     refine ⟨⟨m, by omega, ?_⟩, Ent.mkC [some 0] ?_, ?_⟩
     ·rw [← hx]
      conv => rhs; unfold scanDown
      rw [if_pos hp]
     ·exact subC
     ·show m < m + 1
      omega
    ·have hp : ¬ (decide (I ≤ m + 1) && (fun x => !nlt x (swp d a p)[a]!) (swp d a p)[m + 1]!) = true := by simp only [ix, ia, Nat.zero_add] at g2; simp only [Bool.and_eq_true, decide_eq_true_eq]; exact fun h => by have := h.2; simp [nlt] at this; omega
     have e0 : J = m + 1 := by
      rw [← hx]
      unfold scanDown
      rw [if_neg hp]
     refine goA ?_
     exact ⟨(), Ent.mk' [some 0] (by kernel_rfl) ⟨AVE.refl _, AVE.refl _, AVE.refl _, AVE.int (congrArg Int.ofNat e0.symm), trivial⟩ (by exact subC)⟩
   ·have e0 : J = x := by
     rw [← hx]
     cases x with
     | zero => rfl
     | succ m =>
       unfold scanDown
       rw [if_neg (by simp only [Bool.and_eq_true, decide_eq_true_eq]; exact fun h => by have := h.1; omega)]
    refine goA ?_
    exact ⟨(), Ent.mk' [some 0] (by kernel_rfl) ⟨AVE.refl _, AVE.refl _, AVE.refl _, AVE.int (congrArg Int.ofNat e0.symm), trivial⟩ (by exact subC)⟩
 refine AWP.loop (X := { x : Nat // a < x ∧ scanUp (fun x => nlt x (swp d a p)[a]!) (swp d a p) q x = I }) (fun x => [(0, .row 0 1 0 n), (1, AV.int .i64 a), (10, AV.int .i64 x.1), (11, AV.int .i64 q)]) (fun x => uH n (swp d a p)) (fun x => q + 1 - x.1) (⟨(a + 1), by omega, hI⟩) ?_ fun x => AWP.go (S := sch287) (cfgUOk _ _) (.of_eq (by kernel_rfl)) ?_
 ·refine Ent.mk' [some 0] (by kernel_rfl) ?_ ?_
  ·exact ⟨AVE.refl _, AVE.refl _, AVE.int (by first | omega | (dsimp only; omega)), AVE.int (by first | omega | (dsimp only; omega)), trivial⟩
  ·refine ⟨⟨_, rfl, ?_⟩, trivial⟩
   simp only [ia, ip, Nat.zero_add]
   exact uswp (by omega) (by omega)
 ·obtain ⟨x, hxa, hx⟩ := x
  have ix : ((x : Nat) : Int).toNat = x := by simp
  have ia : ((a : Nat) : Int).toNat = a := by simp
  refine goA ?_
  refine ifdA (fun g => ?_) (fun g => ?_) <;> (try dsimp only at g)
  ·refine goA ?_
   refine AFn.useA [] (less_ok _ _) fun _ => ?_
   refine goA ?_
   refine ifdA (fun g2 => ?_) (fun g2 => ?_) <;> (try dsimp only at g2)
   ·have hp : (decide (x ≤ q) && (fun x => nlt x (swp d a p)[a]!) (swp d a p)[x]!) = true := by simp only [ix, ia, Nat.zero_add] at g2; simp only [Bool.and_eq_true, decide_eq_true_eq]; exact ⟨by omega, by simpa [nlt] using g2⟩
    refine goA ?_
    refine ⟨⟨x + 1, by omega, ?_⟩, Ent.mkC [some 0] ?_, ?_⟩
    ·rw [← hx]
     conv => rhs; unfold scanUp
     rw [if_pos hp]
    ·exact subC
    ·show q + 1 - (x + 1) < q + 1 - x
     omega
   ·have hp : ¬ (decide (x ≤ q) && (fun x => nlt x (swp d a p)[a]!) (swp d a p)[x]!) = true := by simp only [ix, ia, Nat.zero_add] at g2; simp only [Bool.and_eq_true, decide_eq_true_eq]; exact fun h => by have := h.2; simp [nlt] at this; omega
    have e0 : I = x := by
     rw [← hx]
     unfold scanUp
     rw [if_neg hp]
    refine goA ?_
    exact ⟨(), Ent.mk' [some 0] (by kernel_rfl) ⟨AVE.refl _, AVE.refl _, AVE.int (congrArg Int.ofNat e0.symm), AVE.refl _, trivial⟩ (by exact subC)⟩
  ·have hp : ¬ (decide (x ≤ q) && (fun x => nlt x (swp d a p)[a]!) (swp d a p)[x]!) = true := by simp only [Bool.and_eq_true, decide_eq_true_eq]; exact fun h => by have := h.1; omega
   have e0 : I = x := by
    rw [← hx]
    unfold scanUp
    rw [if_neg hp]
   refine goA ?_
   exact ⟨(), Ent.mk' [some 0] (by kernel_rfl) ⟨AVE.refl _, AVE.refl _, AVE.int (congrArg Int.ofNat e0.symm), AVE.refl _, trivial⟩ (by exact subC)⟩
end Go.Proofs.YtgfkepebfaiepaaGreatDoor.Ax

namespace Go.Proofs.YtgfkepebfaiepaaGreatDoor.Ax
open Go.RowKit Go.Sort
set_option maxRecDepth 100000
theorem AFn.scalar {P : Program} {f : FuncId} {x r : Value} (hfn : ∃ fn, P.funcs[f]? = some fn ∧ (fn.name == "runtime.NumGoroutine") = false ∧ fn.body.isNone = false) (h : ∀ W, Calls P f #[x] W fun e W' => e = .returned r ∧ W' = W) :
 AFn P f [.iv (.v x)] ⟨0, []⟩ (fun _ : Unit => .iv (.v r)) (fun _ => ⟨0, []⟩) :=
 ⟨hfn, fun ρ ι w cargs hG hS hr => by
  simp only [AV.Rs, AV.R, IV.R] at hr
  obtain ⟨u, us, rfl, rfl, rfl⟩ := hr
  refine (h w).mono fun e w' ⟨he, hw⟩ => ?_
  subst he hw
  exact ⟨.iv (.v r), _, ρ, ι, ⟨(), rfl, rfl⟩, by simp only [AV.R, IV.R], hS, Went.refl _ _ _ _⟩⟩
theorem len_u (m : Nat) (hm : m < 4611686018427387904) : AFn Go.Proofs.Tryz.prog 238 [AV.int .u64 m] ⟨0, []⟩ (fun _ : Unit => AV.int .i64 (bitsLen m : Nat)) (fun _ => ⟨0, []⟩) :=
 AFn.scalar ⟨_, Go.Proofs.Tryz.func238, by kernel_rfl, by kernel_rfl⟩ fun W => by
  have h := Any.bits_Len Tryz.bitsLen (m : Int) W (by omega) (by omega)
  have h64 : (2 : Nat) ^ 64 = 18446744073709551616 := by decide
  rw [Int.toNat_natCast, bitLen_eq m (by omega)] at h
  exact h
theorem bitsLen_small {m : Nat} (h : m ≤ 1000000) : bitsLen m ≤ 20 := by
 have h20 : (2 : Nat) ^ 20 = 1048576 := by decide
 exact (bitsLen_le_iff m 20).2 (by omega)
theorem u64wr (a k : Nat) (hk : k ≤ 64) : wrK .u64 ((a : Int) * 2 ^ (min ((k : Nat) : Int).toNat IntKind.u64.bits)) = ((a * 2 ^ k % 18446744073709551616 : Nat) : Int) := by
 have e : min ((k : Nat) : Int).toNat IntKind.u64.bits = k := by
  show min ((k : Nat) : Int).toNat 64 = k
  omega
 rw [e]
 show ((a : Int) * 2 ^ k) % 18446744073709551616 = _
 rw [Int.natCast_emod, Int.natCast_mul, Int.natCast_pow]
 rfl
theorem u64xor (a b : Nat) (ha : a < 18446744073709551616) (hb : b < 18446744073709551616) : bitK .xor .u64 (a : Int) (b : Int) = ((a ^^^ b : Nat) : Int) := by
 have h64 : (2 : Nat) ^ 64 = 18446744073709551616 := by decide
 have hx : a ^^^ b < 2 ^ 64 := Nat.xor_lt_two_pow (by omega) (by omega)
 show IntKind.u64.wrap ((BitVec.ofInt 64 (a : Int) ^^^ BitVec.ofInt 64 (b : Int)).toNat : Nat) = _
 rw [BitVec.ofInt_natCast, BitVec.ofInt_natCast, BitVec.toNat_xor, BitVec.toNat_ofNat, BitVec.toNat_ofNat, Nat.mod_eq_of_lt (by omega), Nat.mod_eq_of_lt (by omega)]
 simp [IntKind.wrap, IntKind.bits, IntKind.signed]
 omega
theorem u64and (a b : Nat) (ha : a < 18446744073709551616) (hb : b < 18446744073709551616) : bitK .and .u64 (a : Int) (b : Int) = ((a &&& b : Nat) : Int) := by
 have h64 : (2 : Nat) ^ 64 = 18446744073709551616 := by decide
 have hx : a &&& b ≤ b := Nat.and_le_right
 show IntKind.u64.wrap ((BitVec.ofInt 64 (a : Int) &&& BitVec.ofInt 64 (b : Int)).toNat : Nat) = _
 rw [BitVec.ofInt_natCast, BitVec.ofInt_natCast, BitVec.toNat_and, BitVec.toNat_ofNat, BitVec.toNat_ofNat, Nat.mod_eq_of_lt (by omega), Nat.mod_eq_of_lt (by omega)]
 simp [IntKind.wrap, IntKind.bits, IntKind.signed]
 omega
theorem pow2_ok (m : Nat) (hm : m ≤ 1000000) : AFn Go.Proofs.Tryz.prog 315 [AV.int .i64 m] ⟨0, []⟩ (fun _ : Unit => AV.int .u64 ((1 <<< bitsLen m : Nat))) (fun _ => ⟨0, []⟩) := by
 have hb := bitsLen_small hm
 have hp : (2 : Nat) ^ bitsLen m ≤ 2 ^ 20 := Nat.pow_le_pow_right (by decide) hb
 have h20 : (2 : Nat) ^ 20 = 1048576 := by decide
 refine ACall.walk (C := cfgU 7 0) (cfgUOk _ _) [] (fn := Go.Proofs.Tryz.f315) (by kernel_rfl) (by kernel_rfl) rfl (by kernel_rfl) (by kernel_rfl) rfl rfl ?_
 refine goA ?_
 refine AFn.useA [] (len_u m (by omega)) fun _ => ?_
 refine goA ?_
 refine ⟨(), ?_, rfl⟩
 have h1 := u64wr 1 (bitsLen m) (by omega)
 rw [Nat.mod_eq_of_lt (by omega)] at h1
 show AV.int .u64 (wrK .u64 (((1 : Nat) : Int) * 2 ^ (min ((bitsLen m : Nat) : Int).toNat IntKind.u64.bits))) = AV.int .u64 ((1 <<< bitsLen m : Nat))
 rw [h1, Nat.shiftLeft_eq]
@[reducible] def xH (x : Nat) : AH := ⟨1, [(0, .cells 388 [AV.int .u64 x])]⟩
theorem xnext_ok (x : Nat) (hx : x < 18446744073709551616) : AFn Go.Proofs.Tryz.prog 316 [.ptr 0 0] (xH x) (fun _ : Unit => AV.int .u64 (xorNextN x)) (fun _ => xH (xorNextN x)) := by
 have h64 : (2 : Nat) ^ 64 = 18446744073709551616 := by decide
 have E : bitK .xor .u64 (bitK .xor .u64 (bitK .xor .u64 (x : Int) (wrK .u64 ((x : Int) * 2 ^ min (Int.toNat 13) IntKind.u64.bits))) (bitK .xor .u64 (x : Int) (wrK .u64 ((x : Int) * 2 ^ min (Int.toNat 13) IntKind.u64.bits)) / 2 ^ min (Int.toNat 7) IntKind.u64.bits)) (wrK .u64 (bitK .xor .u64 (bitK .xor .u64 (x : Int) (wrK .u64 ((x : Int) * 2 ^ min (Int.toNat 13) IntKind.u64.bits))) (bitK .xor .u64 (x : Int) (wrK .u64 ((x : Int) * 2 ^ min (Int.toNat 13) IntKind.u64.bits)) / 2 ^ min (Int.toNat 7) IntKind.u64.bits) * 2 ^ min (Int.toNat 17) IntKind.u64.bits)) = ((xorNextN x : Nat) : Int) := by
  have e1 : wrK .u64 ((x : Int) * 2 ^ min (Int.toNat 13) IntKind.u64.bits) = ((x * 8192 % 18446744073709551616 : Nat) : Int) := u64wr x 13 (by omega)
  rw [e1, u64xor x _ hx (by omega)]
  have hA : x ^^^ (x * 8192 % 18446744073709551616) < 2 ^ 64 := Nat.xor_lt_two_pow (by omega) (by omega)
  have hN : xorNextN x = (let a := x ^^^ (x * 8192 % 18446744073709551616)
   let b := a ^^^ (a / 128)
   b ^^^ (b * 131072 % 18446744073709551616)) := rfl
  rw [hN]
  generalize x ^^^ (x * 8192 % 18446744073709551616) = A at hA ⊢
  have e3 : (A : Int) / 2 ^ min (Int.toNat 7) IntKind.u64.bits = ((A / 128 : Nat) : Int) := by
   show (A : Int) / 128 = _
   omega
  rw [e3, u64xor A _ (by omega) (by omega)]
  have hB : A ^^^ (A / 128) < 2 ^ 64 := Nat.xor_lt_two_pow hA (by omega)
  simp only []
  generalize A ^^^ (A / 128) = B at hB ⊢
  have e4 : wrK .u64 ((B : Int) * 2 ^ min (Int.toNat 17) IntKind.u64.bits) = ((B * 131072 % 18446744073709551616 : Nat) : Int) := u64wr B 17 (by omega)
  rw [e4, u64xor B _ (by omega) (by omega)]
 refine ACall.fin ?_
 refine ACall.walk (C := cfgU 33 1) (cfgUOk _ _) sch316 (fn := Go.Proofs.Tryz.f316) (by kernel_rfl) (by kernel_rfl) rfl (by kernel_rfl) (by kernel_rfl) rfl rfl ?_
 refine goA ?_
 refine ⟨_, _, Ent.mk' (e' := [(0, AV.int .u64 (xorNextN x))]) (H' := xH (xorNextN x)) [some 0] (by kernel_rfl) ?_ ?_, (), rfl, rfl⟩
 ·exact ⟨AVE.int E, trivial⟩
 ·exact ⟨⟨_, rfl, ChE.of_eq (congrArg (fun z => Chunk.cells 388 [AV.int .u64 z]) E)⟩, trivial⟩
def brkN (a length modulus : Nat) : Nat → Nat → UInt64 × Array Nat → UInt64 × Array Nat
 | 0, _, st => st
 | m + 1, idx, st => brkN a length modulus m (idx + 1) (breakStep a length modulus st idx)
set_option maxHeartbeats 1000000 in
theorem brk_ok (n : Nat) (d : Array Nat) (a b : Nat) (hn : d.size = n) (hab : a + 12 < b) (hb : b ≤ n) (h1000 : n ≤ 1000000) : AFn Go.Proofs.Tryz.prog 281 [.row 0 1 0 n, AV.int .i64 a, AV.int .i64 b] (uH n d) (fun _ : Unit => .tup []) (fun _ => uH n (breakPatterns d a b)) := by
 generalize hB : breakPatterns d a b = B
 have hB2 : (brkN a (b - a) (1 <<< bitsLen (b - a)) 3 (a + (b - a) / 4 * 2 - 1) (UInt64.ofNat (b - a), d)).2 = B := by
  rw [← hB]
  unfold breakPatterns
  rw [if_pos (by omega)]
  rfl
 obtain ⟨idx, hidx⟩ : ∃ idx, idx = a + (b - a) / 4 * 2 - 1 := ⟨_, rfl⟩
 rw [← hidx] at hB2
 have hbl := bitsLen_small (show b - a ≤ 1000000 by omega)
 have hp : (2 : Nat) ^ bitsLen (b - a) ≤ 2 ^ 20 := Nat.pow_le_pow_right (by decide) hbl
 have hp2 : 0 < (2 : Nat) ^ bitsLen (b - a) := Nat.pow_pos (by decide)
 have h20 : (2 : Nat) ^ 20 = 1048576 := by decide
 have hml := two_pow_bitsLen_le (n := b - a) (by omega)
 obtain ⟨md, hmd⟩ : ∃ md, md = 1 <<< bitsLen (b - a) := ⟨_, rfl⟩
 have hmd2 : md = 2 ^ bitsLen (b - a) := by rw [hmd, Nat.shiftLeft_eq, Nat.one_mul]
 rw [← hmd] at hB2
 have hpow := pow2_ok (b - a) (by omega)
 rw [← hmd] at hpow
 refine ACall.fin ?_
 refine ACall.walk (C := cfgU 65 1) (cfgUOk _ _) sch281 (fn := Go.Proofs.Tryz.f281) (by kernel_rfl) (by kernel_rfl) rfl (by kernel_rfl) (by kernel_rfl) rfl rfl ?_
 refine goA ?_
 refine ifdA (fun h8 => ?_) (fun h8 => ?_) <;> (try dsimp only at h8)
 rotate_left
 ·exact absurd (show (b : Int) - a ≥ 8 by omega) h8
 refine goA ?_
 refine ACall.eqArgs (args' := [AV.int .i64 ((b - a : Nat) : Int)]) (show [AV.int .i64 ((b : Int) - a)] = [AV.int .i64 ((b - a : Nat) : Int)] by rw [show (b : Int) - a = ((b - a : Nat) : Int) by omega]) ?_
 refine AFn.useA [] (hpow) fun _ => ?_
 refine goA ?_
 refine AWP.loop (X := { x : Nat × UInt64 × Array Nat // x.1 ≤ 3 ∧ x.2.2.size = n ∧ (brkN a (b - a) md x.1 (idx + 3 - x.1) x.2).2 = B }) (fun x => [(0, .row 0 1 0 n), (1, AV.int .i64 a), (6, AV.int .i64 ((b - a : Nat) : Int)), (7, .ptr 1 0), (8, AV.int .u64 md), (9, AV.int .i64 ((idx + 3 - x.1.1 : Nat) : Int))]) (fun x => ⟨2, [(0, .rowc 38 1 n (uF x.1.2.2)), (1, .cells 388 [AV.int .u64 x.1.2.1.toNat])]⟩) (fun x => x.1.1) (⟨(3, UInt64.ofNat (b - a), d), by dsimp only; omega, hn, hB2⟩) ?_ fun x => AWP.go (S := sch281) (cfgUOk _ _) (.of_eq (by kernel_rfl)) ?_
 ·refine Ent.mk' [some 0, some 1] (by kernel_rfl) ?_ ?_
  ·exact ⟨AVE.refl _, AVE.refl _, AVE.int (by omega), AVE.refl _, AVE.refl _, AVE.int (by dsimp only; omega), trivial⟩
  ·refine ⟨⟨_, rfl, ChE.refl _⟩, ⟨_, rfl, ChE.of_eq ?_⟩, trivial⟩
   have he : (UInt64.ofNat (b - a)).toNat = b - a := by
    rw [UInt64.toNat_ofNat']
    omega
   show Chunk.cells 388 [AV.int .u64 ((b : Int) - a)] = Chunk.cells 388 [AV.int .u64 ((UInt64.ofNat (b - a)).toNat : Nat)]
   rw [he, show (b : Int) - a = ((b - a : Nat) : Int) by omega]
 ·obtain ⟨⟨k, r, dk⟩, hk, hs, ho⟩ := x
  dsimp only at hk hs ho
  refine goA ?_
  refine ifdA (fun g => ?_) (fun g => ?_) <;> (try dsimp only at g)
  ·obtain ⟨m, rfl⟩ : ∃ m, k = m + 1 := ⟨k - 1, by omega⟩
   have hr := r.toNat_lt
   have hx := xorNextN_lt r.toNat hr
   have hand : bitK .and .u64 ((xorNextN r.toNat : Nat) : Int) ((md : Int) - 1) = ((xorNextN r.toNat &&& (md - 1) : Nat) : Int) := by
    rw [show (md : Int) - 1 = ((md - 1 : Nat) : Int) by omega]
    exact u64and _ _ hx (by omega)
   have hle : xorNextN r.toNat &&& (md - 1) ≤ md - 1 := Nat.and_le_right
   have hst : brkN a (b - a) md (m + 1) (idx + 3 - (m + 1)) (r, dk) = brkN a (b - a) md m (idx + 3 - m) (breakStep a (b - a) md (r, dk) (idx + 3 - (m + 1))) := by
    show brkN a (b - a) md m (idx + 3 - (m + 1) + 1) _ = _
    rw [show idx + 3 - (m + 1) + 1 = idx + 3 - m by omega]
   rw [hst] at ho
   have hbs : breakStep a (b - a) md (r, dk) (idx + 3 - (m + 1)) = (xorNext r, swp dk (idx + 3 - (m + 1)) (a + (if xorNextN r.toNat &&& (md - 1) ≥ b - a then (xorNextN r.toNat &&& (md - 1)) - (b - a) else xorNextN r.toNat &&& (md - 1)))) := by
    unfold breakStep
    simp only [xorNext_toNat]
   rw [hbs] at ho
   refine goA ?_
   refine AFn.useA [1] (xnext_ok r.toNat hr) fun _ => ?_
   refine goA ?_
   generalize xorNextN r.toNat &&& (md - 1) = o at *
   have i2 : ((idx + 3 - (m + 1) : Nat) : Int).toNat = idx + 3 - (m + 1) := by simp
   refine ifdA (fun h2 => ?_) (fun h2 => ?_) <;> (try dsimp only at h2)
   ·rw [if_pos (by omega)] at ho
    have i1 : ((a : Int) + (bitK .and .u64 ((xorNextN r.toNat : Nat) : Int) ((md : Int) - 1) - ((b - a : Nat) : Int))).toNat = a + (o - (b - a)) := by omega
    refine goA ?_
    refine ⟨⟨(m, xorNext r, swp dk (idx + 3 - (m + 1)) (a + (o - (b - a)))), by dsimp only; omega, by dsimp only; rw [size_swp]; exact hs, ho⟩, Ent.mkC [some 0, some 1] ?_, ?_⟩
    ·refine ⟨⟨_, rfl, ?_⟩, ⟨_, rfl, ChE.of_eq ?_⟩, trivial⟩
     ·simp only [i1, i2, Nat.zero_add]
      exact uswp (by omega) (by omega)
     ·show Chunk.cells 388 [AV.int .u64 (xorNextN r.toNat : Nat)] = Chunk.cells 388 [AV.int .u64 ((xorNext r).toNat : Nat)]
      rw [xorNext_toNat]
    ·show m < m + 1
     omega
   ·rw [if_neg (by omega)] at ho
    have i1 : ((a : Int) + bitK .and .u64 ((xorNextN r.toNat : Nat) : Int) ((md : Int) - 1)).toNat = a + o := by omega
    refine goA ?_
    refine ⟨⟨(m, xorNext r, swp dk (idx + 3 - (m + 1)) (a + o)), by dsimp only; omega, by dsimp only; rw [size_swp]; exact hs, ho⟩, Ent.mkC [some 0, some 1] ?_, ?_⟩
    ·refine ⟨⟨_, rfl, ?_⟩, ⟨_, rfl, ChE.of_eq ?_⟩, trivial⟩
     ·simp only [i1, i2, Nat.zero_add]
      exact uswp (by omega) (by omega)
     ·show Chunk.cells 388 [AV.int .u64 (xorNextN r.toNat : Nat)] = Chunk.cells 388 [AV.int .u64 ((xorNext r).toNat : Nat)]
      rw [xorNext_toNat]
    ·show m < m + 1
     omega
  ·have hk0 : k = 0 := by omega
   subst hk0
   have e0 : B = dk := ho.symm
   subst e0
   refine goA ?_
   refine ⟨_, _, Ent.mk' (e' := [(0, .tup [])]) (H' := uH n B) [some 0] (by kernel_rfl) ?_ ?_, (), rfl, rfl⟩
   ·exact ⟨AVE.refl _, trivial⟩
   ·exact subC
end Go.Proofs.YtgfkepebfaiepaaGreatDoor.Ax
