/-
  slices.Sort at numbers (uint64): Less, the insertion sort.
-/
import Derived.Test.YtgfkepebfaiepaaGreatDoorQz
import Derived.Test.YtgfkepebfaiepaaGreatDoorQt
import Derived.Sort.LotA
namespace Go.Proofs.YtgfkepebfaiepaaGreatDoor.Ax
open Go.RowKit Go.Sort
set_option maxRecDepth 100000
noncomputable def cfgU (N b : Nat) : Cfg := { P := Go.Proofs.Tryz.prog, T := tt, wr := false, N := N, pure := [285], base := b }
theorem cfgUOk (N b : Nat) : (cfgU N b).Ok := ⟨ttOk, ttBytes, by kernel_rfl⟩
def nlt : Nat → Nat → Bool := fun x y => decide (x < y)
theorem nlt_swo : SWO nlt where
 irrefl x := by simp [nlt]
 trans x y z h1 h2 := by simp only [nlt, decide_eq_true_eq] at *; omega
 ntrans x y z h1 h2 := by simp only [nlt, decide_eq_false_iff_not] at *; omega
def uF (d : Array Nat) (i : Nat) : List IV := [.v (.int .u64 (d[i]! : Nat))]
@[reducible] def uH (n : Nat) (d : Array Nat) : AH := ⟨1, [(0, .rowc 38 1 n (uF d))]⟩
theorem layI_one {f : List IV} {y : IV} (h : f.length = 1) : layI f 0 [y] = [y] := by
 obtain ⟨x, rfl⟩ := List.length_eq_one_iff.1 h
 rfl
theorem uswp {e n : Nat} {d : Array Nat} {i j : Nat} (hi : i < d.size) (hj : j < d.size) : ChE (.rowc e 1 n fun k => if k = j then layI (if j = i then layI (uF d i) 0 [.v (.int .u64 (d[j]! : Nat))] else uF d j) 0 [.v (.int .u64 (d[i]! : Nat))] else if k = i then layI (uF d i) 0 [.v (.int .u64 (d[j]! : Nat))] else uF d k) (.rowc e 1 n (uF (swp d i j))) :=
 ChE.row (Nat.le_refl _) fun k hk => by
  have e1 : layI (uF d i) 0 [IV.v (.int .u64 (d[j]! : Nat))] = [.v (.int .u64 (d[j]! : Nat))] := layI_one rfl
  have e2 : layI (if j = i then layI (uF d i) 0 [IV.v (.int .u64 (d[j]! : Nat))] else uF d j) 0 [IV.v (.int .u64 (d[i]! : Nat))] = [.v (.int .u64 (d[i]! : Nat))] := layI_one (by split <;> rfl)
  rw [e1] at e2 ⊢
  rw [e2]
  unfold uF
  rw [swp_get d hi hj]
  by_cases h1 : k = j
  ·simp only [if_pos h1]
  ·by_cases h2 : k = i
   ·simp only [if_neg h1, if_pos h2]
   ·simp only [if_neg h1, if_neg h2]
theorem isNaN_ok (x : Nat) : AFn Go.Proofs.Tryz.prog 319 [AV.int .u64 x] ⟨0, []⟩ (fun _ : Unit => AV.bool false) (fun _ => ⟨0, []⟩) := by
 refine ACall.walk (C := cfgU 6 0) (cfgUOk _ _) [] (fn := Go.Proofs.Tryz.f319) (by kernel_rfl) (by kernel_rfl) rfl (by kernel_rfl) (by kernel_rfl) rfl rfl ?_
 refine goA ?_
 exact ⟨(), by simp, rfl⟩
theorem less_ok (x y : Nat) : AFn Go.Proofs.Tryz.prog 285 [AV.int .u64 x, AV.int .u64 y] ⟨0, []⟩ (fun _ : Unit => AV.bool (nlt x y)) (fun _ => ⟨0, []⟩) := by
 refine ACall.walk (C := cfgU 17 0) (cfgUOk _ _) [] (fn := Go.Proofs.Tryz.f285) (by kernel_rfl) (by kernel_rfl) rfl (by kernel_rfl) (by kernel_rfl) rfl rfl ?_
 refine goA ?_
 refine AFn.useA [] (isNaN_ok x) fun _ => ?_
 refine goA ?_
 exact ⟨(), by simp [nlt], rfl⟩
theorem ins_ok (n : Nat) (d : Array Nat) (a b : Nat) (hn : d.size = n) (hab : a ≤ b) (hb : b ≤ n) (h1000 : n ≤ 1000000) : AFn Go.Proofs.Tryz.prog 279 [.row 0 1 0 n, AV.int .i64 a, AV.int .i64 b] (uH n d) (fun _ : Unit => .tup []) (fun _ => uH n (insertionSort nlt d a b)) := by
 refine ACall.fin ?_
 refine ACall.walk (C := cfgU 49 1) (cfgUOk _ _) sch279 (fn := Go.Proofs.Tryz.f279) (by kernel_rfl) (by kernel_rfl) rfl (by kernel_rfl) (by kernel_rfl) rfl rfl ?_
 refine goA ?_
 refine AWP.loop (X := { x : Nat × Array Nat // x.2.size = n ∧ a < x.1 ∧ x.1 ≤ b + 1 ∧ insOuter nlt a b x.1 x.2 = insOuter nlt a b (a + 1) d }) (fun x => [(0, .row 0 1 0 n), (1, AV.int .i64 a), (2, AV.int .i64 b), (6, AV.int .i64 x.1.1)]) (fun x => uH n x.1.2) (fun x => b + 1 - x.1.1) (⟨(a + 1, d), hn, by omega, by omega, rfl⟩) ?_ fun x => AWP.go (S := sch279) (cfgUOk _ _) (.of_eq (by kernel_rfl)) ?_
 ·exact Ent.mkA [some 0]
 ·obtain ⟨⟨i, dk⟩, hs, hai, hib, ho⟩ := x
  refine goA ?_
  refine ifdA (fun h => ?_) (fun h => ?_) <;> (try dsimp only at h)
  ·refine goA ?_
   refine AWP.loop (X := { y : Nat × Array Nat // y.2.size = n ∧ a ≤ y.1 ∧ y.1 ≤ i ∧ insInner nlt a y.1 y.2 = insInner nlt a i dk }) (fun y => [(0, .row 0 1 0 n), (1, AV.int .i64 a), (2, AV.int .i64 b), (6, AV.int .i64 i), (7, AV.int .i64 y.1.1)]) (fun y => uH n y.1.2) (fun y => y.1.1) (⟨(i, dk), hs, by omega, by omega, rfl⟩) ?_ fun y => AWP.go (S := sch279) (cfgUOk _ _) (.of_eq (by kernel_rfl)) ?_
   ·exact Ent.mkA [some 0]
   ·obtain ⟨⟨j, dj⟩, hsj, haj, hji, hI⟩ := y
    dsimp only at hsj haj hji hI hs hai hib ho
    have hjn : j < n := by omega
    refine goA ?_
    refine ifdA (fun g => ?_) (fun g => ?_) <;> (try dsimp only at g)
    ·have hj1 : ((j : Int) - 1).toNat = j - 1 := by omega
     have hjx : ((j : Nat) : Int).toNat = j := by simp
     refine goA ?_
     refine AFn.useA [] (less_ok (dj[0 + ((j : Nat) : Int).toNat]!) (dj[0 + (((j : Nat) : Int) - 1).toNat]!)) fun _ => ?_
     refine goA ?_
     refine ifdA (fun g2 => ?_) (fun g2 => ?_) <;> (try dsimp only at g2)
     ·refine goA ?_
      have g3 : dj[j]! < dj[j - 1]! := by rw [hjx, hj1, Nat.zero_add, Nat.zero_add] at g2; exact g2
      refine ⟨⟨(j - 1, swp dj j (j - 1)), by rw [size_swp]; exact hsj, by dsimp only; omega, by dsimp only; omega, ?_⟩, Ent.mkC [some 0] ?_, ?_⟩
      ·rw [← hI]
       obtain ⟨m, rfl⟩ : ∃ m, j = m + 1 := ⟨j - 1, by omega⟩
       simp only [Nat.add_sub_cancel] at g3 ⊢
       conv => rhs; unfold insInner
       rw [if_pos (by simp [nlt, g3]; omega)]
      ·refine ⟨⟨_, rfl, ?_⟩, trivial⟩
       simp only [hjx, hj1, Nat.zero_add]
       exact uswp (by omega) (by omega)
      ·show j - 1 < j
       omega
     ·have g3 : ¬ dj[j]! < dj[j - 1]! := by rw [hjx, hj1, Nat.zero_add, Nat.zero_add] at g2; exact g2
      have e1 : insInner nlt a j dj = dj := by
       obtain ⟨m, rfl⟩ : ∃ m, j = m + 1 := ⟨j - 1, by omega⟩
       simp only [Nat.add_sub_cancel] at g3
       unfold insInner
       rw [if_neg (by simp [nlt, g3])]
      refine goA ?_
      refine ⟨⟨(i + 1, dj), hsj, by dsimp only; omega, by dsimp only; omega, ?_⟩, Ent.mkC [some 0] ?_, ?_⟩
      ·rw [← ho]
       conv => rhs; unfold insOuter
       rw [if_pos (by omega : i < b), ← hI, e1]
      ·exact subC
      ·show b + 1 - (i + 1) < b + 1 - i
       omega
    ·have e1 : insInner nlt a j dj = dj := by
      cases j with
      | zero => rfl
      | succ j => unfold insInner; rw [if_neg (by simp; omega)]
     refine goA ?_
     refine ⟨⟨(i + 1, dj), hsj, by dsimp only; omega, by dsimp only; omega, ?_⟩, Ent.mkC [some 0] ?_, ?_⟩
     ·rw [← ho]
      conv => rhs; unfold insOuter
      rw [if_pos (by omega : i < b), ← hI, e1]
     ·exact subC
     ·show b + 1 - (i + 1) < b + 1 - i
      omega
  ·refine goA ?_
   have e0 : insertionSort nlt d a b = dk := by
    have h2 : ¬ i < b := by omega
    unfold insertionSort
    rw [← ho]
    unfold insOuter
    rw [if_neg h2]
   rw [e0]
   refine ⟨_, _, Ent.mk' (e' := [(0, .tup [])]) (H' := uH n dk) [some 0] (by kernel_rfl) ?_ ?_, (), rfl, rfl⟩
   ·exact ⟨AVE.refl _, trivial⟩
   ·exact subC
end Go.Proofs.YtgfkepebfaiepaaGreatDoor.Ax
