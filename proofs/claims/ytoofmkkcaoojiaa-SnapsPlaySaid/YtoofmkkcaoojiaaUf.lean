/-
  slices.Sort at numbers (uint64): pdqsort.
-/
import Derived.Test.YtoofmkkcaoojiaaUe
import Derived.Sort.Walk13a
import Derived.Sort.AssemblyPlain
namespace Go.Proofs.Ytoofmkkcaoojiaa.Ax
open Go.RowKit Go.Sort
set_option maxRecDepth 100000
theorem scanSorted_le (d : Array Nat) (b : Nat) : ∀ (m i : Nat), b - i = m → i ≤ b → scanSorted nlt d b i ≤ b ∧ i ≤ scanSorted nlt d b i
  | 0, i, h, hi => by
    unfold scanSorted
    rw [if_neg (by simp; omega)]
    exact ⟨hi, Nat.le_refl _⟩
  | m + 1, i, h, hi => by
    unfold scanSorted
    split
    · rename_i hc
      have := scanSorted_le d b m (i + 1) (by omega) (by simp at hc; omega)
      omega
    · exact ⟨hi, Nat.le_refl _⟩
set_option maxHeartbeats 1000000 in
theorem partial_ok (n : Nat) (d : Array Nat) (a b : Nat) (hn : d.size = n) (hab : a + 1 < b) (hb : b ≤ n) (h50 : b - a < 50) (h1000 : n ≤ 1000000) : AFn Go.Proofs.Try.prog 57 [.row 0 1 0 n, AV.int .i64 a, AV.int .i64 b] (uH n d) (fun _ : Unit => AV.bool (partialInsertionSort nlt d a b).2) (fun _ => uH n (partialInsertionSort nlt d a b).1) := by
  obtain ⟨I, hI⟩ : ∃ I, I = scanSorted nlt d b (a + 1) := ⟨_, rfl⟩
  obtain ⟨hIb, hIa⟩ := scanSorted_le d b _ (a + 1) rfl (by omega)
  rw [← hI] at hIb hIa
  have hP : partialInsertionSort nlt d a b = (d, decide (I = b)) := by
    show partialIns nlt a b (4 + 1) (a + 1) d = _
    rw [partialIns_succ]
    rw [← hI]
    by_cases h : I = b
    · rw [if_pos h]; simp [h]
    · rw [if_neg h, if_pos h50]; simp [h]
  rw [hP]
  refine ACall.fin ?_
  refine ACall.walk (C := cfgU 133 1) (cfgUOk _ _) sch57 (fn := Go.Proofs.Try.f57) (by kernel_rfl) (by kernel_rfl) rfl (by kernel_rfl) (by kernel_rfl) rfl rfl ?_
  (conv => whnf); repeat ((first | (refine And.intro ?_ ?_; (focus ((repeat' (first | exact trivial | refine And.intro rfl ?_)); done))) | (refine And.intro ?_ ?_; (focus (first | omega | (dsimp -iota only; omega) | (simp -iota; omega) | (simp -iota; done) | decide)))); conv => whnf)
  refine AWP.loop (X := Unit) (fun x => [(0, .row 0 1 0 n), (1, AV.int .i64 a), (2, AV.int .i64 b), (7, AV.int .i64 (a + 1 : Nat)), (8, AV.int .i64 0)]) (fun x => uH n d) (fun x => 0) (()) ?_ fun x => AWP.go (S := sch57) (cfgUOk _ _) (.of_eq (by kernel_rfl)) ?_
  · refine Ent.mk' [some 0] (by kernel_rfl) ⟨AVE.refl _, AVE.refl _, AVE.refl _, AVE.int (by omega), AVE.refl _, trivial⟩ (by (repeat' first | exact trivial | refine ⟨⟨_, rfl, ChE.refl _⟩, ?_⟩))
  · (conv => whnf); repeat ((first | (refine And.intro ?_ ?_; (focus ((repeat' (first | exact trivial | refine And.intro rfl ?_)); done))) | (refine And.intro ?_ ?_; (focus (first | omega | (dsimp -iota only; omega) | (simp -iota; omega) | (simp -iota; done) | decide)))); conv => whnf)
    refine AWP.merge (Y := Unit) (fun u => [(0, .row 0 1 0 n), (1, AV.int .i64 a), (2, AV.int .i64 b), (7, AV.int .i64 I), (8, AV.int .i64 0)]) (fun u => uH n d) 2 (fun u => ?_) ?_
    · (conv => whnf); repeat ((first | (refine And.intro ?_ ?_; (focus ((repeat' (first | exact trivial | refine And.intro rfl ?_)); done))) | (refine And.intro ?_ ?_; (focus (first | omega | (dsimp -iota only; omega) | (simp -iota; omega) | (simp -iota; done) | decide)))); conv => whnf)
      refine branchB_of (fun h => ?_) (fun h => ?_) <;> (first | replace h := not_t h | replace h := not_f h | skip) <;> (first | replace h := of_decide_eq_true h | replace h := of_decide_eq_false h | skip) <;> (first | replace h := Classical.not_not.1 h | skip) <;> (try dsimp only at h)
      · have e : decide (I = b) = true := decide_eq_true (by omega)
        rw [e]
        (conv => whnf); repeat ((first | (refine And.intro ?_ ?_; (focus ((repeat' (first | exact trivial | refine And.intro rfl ?_)); done))) | (refine And.intro ?_ ?_; (focus (first | omega | (dsimp -iota only; omega) | (simp -iota; omega) | (simp -iota; done) | decide)))); conv => whnf)
        refine ⟨_, _, Ent.mk' (e' := [(0, AV.bool true)]) (H' := uH n d) [some 0] (by kernel_rfl) ?_ ?_, (), rfl, rfl⟩
        · exact ⟨AVE.refl _, trivial⟩
        · (repeat' first | exact trivial | refine ⟨⟨_, rfl, ChE.refl _⟩, ?_⟩)
      · have e : decide (I = b) = false := decide_eq_false (by omega)
        rw [e]
        (conv => whnf); repeat ((first | (refine And.intro ?_ ?_; (focus ((repeat' (first | exact trivial | refine And.intro rfl ?_)); done))) | (refine And.intro ?_ ?_; (focus (first | omega | (dsimp -iota only; omega) | (simp -iota; omega) | (simp -iota; done) | decide)))); conv => whnf)
        refine branchB_of (fun h2 => ?_) (fun h2 => ?_) <;> (first | replace h2 := not_t h2 | replace h2 := not_f h2 | skip) <;> (first | replace h2 := of_decide_eq_true h2 | replace h2 := of_decide_eq_false h2 | skip) <;> (first | replace h2 := Classical.not_not.1 h2 | skip) <;> (try dsimp only at h2)
        rotate_left
        · exact absurd (show (b : Int) - a < 50 by omega) h2
        (conv => whnf); repeat ((first | (refine And.intro ?_ ?_; (focus ((repeat' (first | exact trivial | refine And.intro rfl ?_)); done))) | (refine And.intro ?_ ?_; (focus (first | omega | (dsimp -iota only; omega) | (simp -iota; omega) | (simp -iota; done) | decide)))); conv => whnf)
        refine ⟨_, _, Ent.mk' (e' := [(0, AV.bool false)]) (H' := uH n d) [some 0] (by kernel_rfl) ?_ ?_, (), rfl, rfl⟩
        · exact ⟨AVE.refl _, trivial⟩
        · (repeat' first | exact trivial | refine ⟨⟨_, rfl, ChE.refl _⟩, ?_⟩)
    refine AWP.loop (X := { y : Nat // a < y ∧ y ≤ b ∧ scanSorted nlt d b y = I }) (fun y => [(0, .row 0 1 0 n), (1, AV.int .i64 a), (2, AV.int .i64 b), (7, AV.int .i64 y.1), (8, AV.int .i64 0)]) (fun y => uH n d) (fun y => b - y.1) (⟨a + 1, by omega, by omega, hI.symm⟩) ?_ fun y => AWP.go (S := sch57) (cfgUOk _ _) (.of_eq (by kernel_rfl)) ?_
    · exact Ent.mk' [some 0] (by kernel_rfl) (by repeat' first | exact trivial | refine And.intro (AVE.refl _) ?_ | refine And.intro (AVE.int (by first | rfl | omega | (dsimp only; omega) | (simp -iota; omega) | (simp -iota; done))) ?_ | refine And.intro (AVE.bool (by assumption)) ?_ | refine And.intro (AVE.len (by first | rfl | omega | (dsimp only; omega) | (simp -iota; omega) | (simp -iota; done))) ?_) (by repeat' (first | exact trivial | refine ⟨⟨_, rfl, ChE.refl _⟩, ?_⟩))
    · obtain ⟨y, hya, hyb, hy⟩ := y
      have iy : ((y : Nat) : Int).toNat = y := by simp
      have iy1 : ((y : Int) - 1).toNat = y - 1 := by omega
      (conv => whnf); repeat ((first | (refine And.intro ?_ ?_; (focus ((repeat' (first | exact trivial | refine And.intro rfl ?_)); done))) | (refine And.intro ?_ ?_; (focus (first | omega | (dsimp -iota only; omega) | (simp -iota; omega) | (simp -iota; done) | decide)))); conv => whnf)
      refine branchB_of (fun g => ?_) (fun g => ?_) <;> (first | replace g := not_t g | replace g := not_f g | skip) <;> (first | replace g := of_decide_eq_true g | replace g := of_decide_eq_false g | skip) <;> (first | replace g := Classical.not_not.1 g | skip) <;> (try dsimp only at g)
      · (conv => whnf); repeat ((first | (refine And.intro ?_ ?_; (focus ((repeat' (first | exact trivial | refine And.intro rfl ?_)); done))) | (refine And.intro ?_ ?_; (focus (first | omega | (dsimp -iota only; omega) | (simp -iota; omega) | (simp -iota; done) | decide)))); conv => whnf)
        refine AFn.use [] (less_ok _ _) (by kernel_rfl) rfl (by repeat' first | exact trivial | refine ⟨rfl, ?_⟩) fun _ => ?_
        (conv => whnf); repeat ((first | (refine And.intro ?_ ?_; (focus ((repeat' (first | exact trivial | refine And.intro rfl ?_)); done))) | (refine And.intro ?_ ?_; (focus (first | omega | (dsimp -iota only; omega) | (simp -iota; omega) | (simp -iota; done) | decide)))); conv => whnf)
        refine branchB_of (fun g2 => ?_) (fun g2 => ?_) <;> (first | replace g2 := not_t g2 | replace g2 := not_f g2 | skip) <;> (first | replace g2 := of_decide_eq_true g2 | replace g2 := of_decide_eq_false g2 | skip) <;> (first | replace g2 := Classical.not_not.1 g2 | skip) <;> (try dsimp only at g2)
        · have hc : (decide (y < b) && !nlt d[y]! d[y - 1]!) = true := by simp only [iy, iy1, Nat.zero_add] at g2; simp only [Bool.and_eq_true, decide_eq_true_eq]; exact ⟨by omega, by simpa [nlt] using g2⟩
          (conv => whnf); repeat ((first | (refine And.intro ?_ ?_; (focus ((repeat' (first | exact trivial | refine And.intro rfl ?_)); done))) | (refine And.intro ?_ ?_; (focus (first | omega | (dsimp -iota only; omega) | (simp -iota; omega) | (simp -iota; done) | decide)))); conv => whnf)
          refine ⟨⟨y + 1, by omega, by omega, ?_⟩, Ent.mk' [some 0] (by kernel_rfl) (by repeat' first | exact trivial | refine And.intro (AVE.refl _) ?_ | refine And.intro (AVE.int (by first | rfl | omega | (dsimp only; omega) | (simp -iota; omega) | (simp -iota; done))) ?_ | refine And.intro (AVE.bool (by assumption)) ?_ | refine And.intro (AVE.len (by first | rfl | omega | (dsimp only; omega) | (simp -iota; omega) | (simp -iota; done))) ?_) ?_, ?_⟩
          · rw [← hy]
            conv => rhs; unfold scanSorted
            rw [if_pos hc]
          · (repeat' first | exact trivial | refine ⟨⟨_, rfl, ChE.refl _⟩, ?_⟩)
          · show b - (y + 1) < b - y
            omega
        · have hc : ¬ (decide (y < b) && !nlt d[y]! d[y - 1]!) = true := by simp only [iy, iy1, Nat.zero_add] at g2; simp only [Bool.and_eq_true, decide_eq_true_eq]; exact fun h => by have := h.2; simp [nlt] at this; omega
          have e0 : I = y := by
            rw [← hy]
            unfold scanSorted
            rw [if_neg hc]
          (conv => whnf); repeat ((first | (refine And.intro ?_ ?_; (focus ((repeat' (first | exact trivial | refine And.intro rfl ?_)); done))) | (refine And.intro ?_ ?_; (focus (first | omega | (dsimp -iota only; omega) | (simp -iota; omega) | (simp -iota; done) | decide)))); conv => whnf)
          exact ⟨(), Ent.mk' [some 0] (by kernel_rfl) ⟨AVE.refl _, AVE.refl _, AVE.refl _, AVE.int (congrArg Int.ofNat e0.symm), AVE.refl _, trivial⟩ (by (repeat' first | exact trivial | refine ⟨⟨_, rfl, ChE.refl _⟩, ?_⟩))⟩
      · have e0 : I = y := by
          rw [← hy]
          unfold scanSorted
          rw [if_neg (by simp only [Bool.and_eq_true, decide_eq_true_eq]; exact fun h => by have := h.1; omega)]
        (conv => whnf); repeat ((first | (refine And.intro ?_ ?_; (focus ((repeat' (first | exact trivial | refine And.intro rfl ?_)); done))) | (refine And.intro ?_ ?_; (focus (first | omega | (dsimp -iota only; omega) | (simp -iota; omega) | (simp -iota; done) | decide)))); conv => whnf)
        exact ⟨(), Ent.mk' [some 0] (by kernel_rfl) ⟨AVE.refl _, AVE.refl _, AVE.refl _, AVE.int (congrArg Int.ofNat e0.symm), AVE.refl _, trivial⟩ (by (repeat' first | exact trivial | refine ⟨⟨_, rfl, ChE.refl _⟩, ?_⟩))⟩
structure PX (n w : Nat) (R : Array Nat) where
  a : Nat
  b : Nat
  lim : Nat
  wb : Bool
  wp : Bool
  d : Array Nat
  hs : d.size = n
  hab : a ≤ b
  hb : b ≤ n
  hl : lim ≤ 100
  hw : b - a ≤ w
  hB : Go.Sort.Below nlt a b d
  hR : pdq nlt d a b lim wb wp = R
set_option maxHeartbeats 8000000 in
theorem pdq_ok (n : Nat) (h50 : n < 50) : ∀ (w : Nat) (d : Array Nat) (a b lim : Nat), b - a = w → d.size = n → a ≤ b → b ≤ n → lim ≤ 100 → Go.Sort.Below nlt a b d → AFn Go.Proofs.Try.prog 39 [.row 0 1 0 n, AV.int .i64 a, AV.int .i64 b, AV.int .i64 lim] (uH n d) (fun _ : Unit => .tup []) (fun _ => uH n (pdq nlt d a b lim true true)) := by
  intro w
  induction w using Nat.strongRecOn with
  | ind w ih =>
  intro d a b lim hw hn hab hb hl hB
  have h1000 : n ≤ 1000000 := by omega
  generalize hR : pdq nlt d a b lim true true = R
  refine ACall.fin ?_
  refine ACall.walk (C := cfgU 134 1) (cfgUOk _ _) sch39 (fn := Go.Proofs.Try.f39) (by kernel_rfl) (by kernel_rfl) rfl (by kernel_rfl) (by kernel_rfl) rfl rfl ?_
  (conv => whnf); repeat ((first | (refine And.intro ?_ ?_; (focus ((repeat' (first | exact trivial | refine And.intro rfl ?_)); done))) | (refine And.intro ?_ ?_; (focus (first | omega | (dsimp -iota only; omega) | (simp -iota; omega) | (simp -iota; done) | decide)))); conv => whnf)
  refine AWP.loop (X := PX n w R) (fun x => [(0, .row 0 1 0 n), (1, AV.int .i64 x.a), (2, AV.int .i64 x.b), (3, AV.int .i64 x.lim), (8, AV.bool x.wb), (9, AV.bool x.wp)]) (fun x => uH n x.d) (fun x => x.b - x.a) (⟨a, b, lim, true, true, d, hn, hab, hb, hl, by omega, hB, hR⟩) ?_ fun x => AWP.go (S := sch39) (cfgUOk _ _) (.of_eq (by kernel_rfl)) ?_
  · exact Ent.mk' [some 0] (by kernel_rfl) (by repeat' first | exact trivial | refine And.intro (AVE.refl _) ?_ | refine And.intro (AVE.int (by first | rfl | omega | (dsimp only; omega) | (simp -iota; omega) | (simp -iota; done))) ?_ | refine And.intro (AVE.bool (by assumption)) ?_ | refine And.intro (AVE.len (by first | rfl | omega | (dsimp only; omega) | (simp -iota; omega) | (simp -iota; done))) ?_) (by repeat' (first | exact trivial | refine ⟨⟨_, rfl, ChE.refl _⟩, ?_⟩))
  · obtain ⟨a', b', lim', wb, wp, d', hn', hab', hb', hl', hw', hB', hR'⟩ := x
    clear hR hB hab hb hl hw hn
    (conv => whnf); repeat ((first | (refine And.intro ?_ ?_; (focus ((repeat' (first | exact trivial | refine And.intro rfl ?_)); done))) | (refine And.intro ?_ ?_; (focus (first | omega | (dsimp -iota only; omega) | (simp -iota; omega) | (simp -iota; done) | decide)))); conv => whnf)
    refine branchB_of (fun h12 => ?_) (fun h12 => ?_) <;> (first | replace h12 := not_t h12 | replace h12 := not_f h12 | skip) <;> (first | replace h12 := of_decide_eq_true h12 | replace h12 := of_decide_eq_false h12 | skip) <;> (first | replace h12 := Classical.not_not.1 h12 | skip) <;> (try dsimp only at h12)
    · have e0 : R = insertionSort nlt d' a' b' := by rw [← hR', pdq_small (by omega)]
      subst e0
      (conv => whnf); repeat ((first | (refine And.intro ?_ ?_; (focus ((repeat' (first | exact trivial | refine And.intro rfl ?_)); done))) | (refine And.intro ?_ ?_; (focus (first | omega | (dsimp -iota only; omega) | (simp -iota; omega) | (simp -iota; done) | decide)))); conv => whnf)
      refine AFn.use [0] (ins_ok n d' a' b' hn' hab' hb' h1000) (by kernel_rfl) rfl (by repeat' first | exact trivial | refine ⟨rfl, ?_⟩) fun _ => ?_
      (conv => whnf); repeat ((first | (refine And.intro ?_ ?_; (focus ((repeat' (first | exact trivial | refine And.intro rfl ?_)); done))) | (refine And.intro ?_ ?_; (focus (first | omega | (dsimp -iota only; omega) | (simp -iota; omega) | (simp -iota; done) | decide)))); conv => whnf)
      refine ⟨_, _, Ent.mk' (e' := [(0, .tup [])]) (H' := uH n (insertionSort nlt d' a' b')) [some 0] (by kernel_rfl) ?_ ?_, (), rfl, rfl⟩
      · exact ⟨AVE.refl _, trivial⟩
      · (repeat' first | exact trivial | refine ⟨⟨_, rfl, ChE.refl _⟩, ?_⟩)
    have h12' : ¬ b' - a' ≤ 12 := by omega
    (conv => whnf); repeat ((first | (refine And.intro ?_ ?_; (focus ((repeat' (first | exact trivial | refine And.intro rfl ?_)); done))) | (refine And.intro ?_ ?_; (focus (first | omega | (dsimp -iota only; omega) | (simp -iota; omega) | (simp -iota; done) | decide)))); conv => whnf)
    refine branchB_of (fun h0 => ?_) (fun h0 => ?_) <;> (first | replace h0 := not_t h0 | replace h0 := not_f h0 | skip) <;> (first | replace h0 := of_decide_eq_true h0 | replace h0 := of_decide_eq_false h0 | skip) <;> (first | replace h0 := Classical.not_not.1 h0 | skip) <;> (try dsimp only at h0)
    · have e0 : R = heapSort nlt d' a' b' := by rw [← hR', pdq_heap h12' (by omega)]
      subst e0
      (conv => whnf); repeat ((first | (refine And.intro ?_ ?_; (focus ((repeat' (first | exact trivial | refine And.intro rfl ?_)); done))) | (refine And.intro ?_ ?_; (focus (first | omega | (dsimp -iota only; omega) | (simp -iota; omega) | (simp -iota; done) | decide)))); conv => whnf)
      refine AFn.use [0] (heap_ok n d' a' b' hn' (by omega) hb' h1000) (by kernel_rfl) rfl (by repeat' first | exact trivial | refine ⟨rfl, ?_⟩) fun _ => ?_
      (conv => whnf); repeat ((first | (refine And.intro ?_ ?_; (focus ((repeat' (first | exact trivial | refine And.intro rfl ?_)); done))) | (refine And.intro ?_ ?_; (focus (first | omega | (dsimp -iota only; omega) | (simp -iota; omega) | (simp -iota; done) | decide)))); conv => whnf)
      refine ⟨_, _, Ent.mk' (e' := [(0, .tup [])]) (H' := uH n (heapSort nlt d' a' b')) [some 0] (by kernel_rfl) ?_ ?_, (), rfl, rfl⟩
      · exact ⟨AVE.refl _, trivial⟩
      · (repeat' first | exact trivial | refine ⟨⟨_, rfl, ChE.refl _⟩, ?_⟩)
    have h0' : ¬ lim' = 0 := by omega
    have F := rd_facts (limit := lim') (wb := wb) (wp := wp) nlt_swo partialInsertionSort_holds reverseRange_holds (show a' < b' by omega) (by rw [hn']; exact hb') hB'
    have hU := pdq_unfold (lt := nlt) (d := d') (a := a') (b := b') (limit := lim') (wb := wb) (wp := wp)
    rw [hR', if_neg h12', if_neg h0'] at hU
    have hf := fun (e : wb = false) => (show breakPatterns d' a' b' = (rd nlt d' a' b' lim' wb wp).d1 ∧ (rd nlt d' a' b' lim' wb wp).lim = lim' - 1 by subst e; exact ⟨rfl, rfl⟩)
    have ht := fun (e : wb = true) => (show d' = (rd nlt d' a' b' lim' wb wp).d1 ∧ (rd nlt d' a' b' lim' wb wp).lim = lim' by subst e; exact ⟨rfl, rfl⟩)
    have hc := rd_c (lt := nlt) (d := d') (a := a') (b := b') (limit := lim') (wb := wb) (wp := wp)
    have hd := rd_dec (lt := nlt) (d := d') (a := a') (b := b') (limit := lim') (wb := wb) (wp := wp)
    have hnd := rd_not (lt := nlt) (d := d') (a := a') (b := b') (limit := lim') (wb := wb) (wp := wp)
    have hpy := rd_pi_yes (lt := nlt) (d := d') (a := a') (b := b') (limit := lim') (wb := wb) (wp := wp)
    have hpn := rd_pi_no (lt := nlt) (d := d') (a := a') (b := b') (limit := lim') (wb := wb) (wp := wp)
    have hll := rd_lim_le (lt := nlt) (d := d') (a := a') (b := b') (limit := lim') (wb := wb) (wp := wp)
    generalize rd nlt d' a' b' lim' wb wp = r at F hU hf ht hc hd hnd hpy hpn hll
    obtain ⟨d1, lm, ⟨pv, hint0⟩, d2, pivot, hint, pi⟩ := r
    dsimp only at F hU hf ht hc hd hnd hpy hpn hll
    obtain ⟨s1, B1, ⟨c1, c2⟩, s2, B2, ⟨p1, p2⟩, s3, B3⟩ := F
    have hpiv := pivot_ok n d1 a' b' (by omega) (by omega) hb' h1000
    rw [← hc] at hpiv
    dsimp only at hpiv
    have hrev : hint0 = .decreasing → AFn Go.Proofs.Try.prog 56 [.row 0 1 0 n, AV.int .i64 a', AV.int .i64 b'] (uH n d1) (fun _ : Unit => .tup []) (fun _ => uH n d2) := fun e => (hd e).1 ▸ rev_ok n d1 a' b' (by omega) (by omega) hb' h1000
    have hpart := partial_ok n d2 a' b' (by omega) (by omega) hb' (by omega) h1000
    have hp1 : (partialInsertionSort nlt d2 a' b').1 = d2 := by
      show (partialIns nlt a' b' (4 + 1) (a' + 1) d2).1 = _
      rw [partialIns_succ]
      split
      · rfl
      · rw [if_pos (by omega)]
    rw [hp1] at hpart
    cases wb with
    | false =>
      obtain ⟨hf1, hf2⟩ := hf rfl
      have hbrk := brk_ok n d' a' b' hn' (by omega) hb' h1000
      rw [hf1] at hbrk
      (conv => whnf); repeat ((first | (refine And.intro ?_ ?_; (focus ((repeat' (first | exact trivial | refine And.intro rfl ?_)); done))) | (refine And.intro ?_ ?_; (focus (first | omega | (dsimp -iota only; omega) | (simp -iota; omega) | (simp -iota; done) | decide)))); conv => whnf)
      refine AFn.use [0] (hbrk) (by kernel_rfl) rfl (by repeat' first | exact trivial | refine ⟨rfl, ?_⟩) fun _ => ?_
      (conv => whnf); repeat ((first | (refine And.intro ?_ ?_; (focus ((repeat' (first | exact trivial | refine And.intro rfl ?_)); done))) | (refine And.intro ?_ ?_; (focus (first | omega | (dsimp -iota only; omega) | (simp -iota; omega) | (simp -iota; done) | decide)))); conv => whnf)
      generalize hLd : ((lim' : Nat) : Int) - 1 = Lm
      have hLI : Lm = ((lm : Nat) : Int) := by omega
      refine AFn.use [0] (hpiv) (by kernel_rfl) rfl (by repeat' first | exact trivial | refine ⟨rfl, ?_⟩) fun _ => ?_
      (conv => whnf); repeat ((first | (refine And.intro ?_ ?_; (focus ((repeat' (first | exact trivial | refine And.intro rfl ?_)); done))) | (refine And.intro ?_ ?_; (focus (first | omega | (dsimp -iota only; omega) | (simp -iota; omega) | (simp -iota; done) | decide)))); conv => whnf)
      cases hint0 with
      | decreasing =>
        obtain ⟨hd1, hd2, hd3⟩ := hd rfl
        have hrv := hrev rfl
        (conv => whnf); repeat ((first | (refine And.intro ?_ ?_; (focus ((repeat' (first | exact trivial | refine And.intro rfl ?_)); done))) | (refine And.intro ?_ ?_; (focus (first | omega | (dsimp -iota only; omega) | (simp -iota; omega) | (simp -iota; done) | decide)))); conv => whnf)
        refine AFn.use [0] (hrv) (by kernel_rfl) rfl (by repeat' first | exact trivial | refine ⟨rfl, ?_⟩) fun _ => ?_
        (conv => whnf); repeat ((first | (refine And.intro ?_ ?_; (focus ((repeat' (first | exact trivial | refine And.intro rfl ?_)); done))) | (refine And.intro ?_ ?_; (focus (first | omega | (dsimp -iota only; omega) | (simp -iota; omega) | (simp -iota; done) | decide)))); conv => whnf)
        generalize hPd : (b' : Int) - 1 - ((pv : Int) - a') = P
        have hPI : P = ((pivot : Nat) : Int) := by omega
        have hpi := hpn (by first | rfl | (rw [hd3]; rfl))
        subst hpi
        dsimp only at hU s3 B3
        rw [if_neg (by decide)] at hU
        obtain ⟨D, hD⟩ : ∃ D, D = d2 := ⟨_, rfl⟩
        subst hD
        (conv => whnf); repeat ((first | (refine And.intro ?_ ?_; (focus ((repeat' (first | exact trivial | refine And.intro rfl ?_)); done))) | (refine And.intro ?_ ?_; (focus (first | omega | (dsimp -iota only; omega) | (simp -iota; omega) | (simp -iota; done) | decide)))); conv => whnf)
        (conv => whnf); repeat ((first | (refine And.intro ?_ ?_; (focus ((repeat' (first | exact trivial | refine And.intro rfl ?_)); done))) | (refine And.intro ?_ ?_; (focus (first | omega | (dsimp -iota only; omega) | (simp -iota; omega) | (simp -iota; done) | decide)))); conv => whnf)
        refine branchB_of (fun ga => ?_) (fun ga => ?_) <;> (first | replace ga := not_t ga | replace ga := not_f ga | skip) <;> (first | replace ga := of_decide_eq_true ga | replace ga := of_decide_eq_false ga | skip) <;> (first | replace ga := Classical.not_not.1 ga | skip) <;> (try dsimp only at ga)
        · have ia : ((a' : Int) - 1).toNat = a' - 1 := by omega
          have ip : P.toNat = pivot := by omega
          (conv => whnf); repeat ((first | (refine And.intro ?_ ?_; (focus ((repeat' (first | exact trivial | refine And.intro rfl ?_)); done))) | (refine And.intro ?_ ?_; (focus (first | omega | (dsimp -iota only; omega) | (simp -iota; omega) | (simp -iota; done) | decide)))); conv => whnf)
          refine AFn.use [] (less_ok _ _) (by kernel_rfl) rfl (by repeat' first | exact trivial | refine ⟨rfl, ?_⟩) fun _ => ?_
          (conv => whnf); repeat ((first | (refine And.intro ?_ ?_; (focus ((repeat' (first | exact trivial | refine And.intro rfl ?_)); done))) | (refine And.intro ?_ ?_; (focus (first | omega | (dsimp -iota only; omega) | (simp -iota; omega) | (simp -iota; done) | decide)))); conv => whnf)
          refine branchB_of (fun gl => ?_) (fun gl => ?_) <;> (first | replace gl := not_t gl | replace gl := not_f gl | skip) <;> (first | replace gl := of_decide_eq_true gl | replace gl := of_decide_eq_false gl | skip) <;> (first | replace gl := Classical.not_not.1 gl | skip) <;> (try dsimp only at gl)
          · have hc2 : (decide (a' > 0) && !nlt D[a' - 1]! D[pivot]!) = true := by simp only [ia, ip, Nat.zero_add] at gl; simp only [Bool.and_eq_true, decide_eq_true_eq]; exact ⟨by omega, by simpa [nlt] using gl⟩
            rw [if_pos hc2] at hU
            have hnl : nlt D[a' - 1]! D[pivot]! = false := by simp only [Bool.and_eq_true] at hc2; simpa using hc2.2
            have hpe := partEq_ok n D a' b' pivot (by omega) (by omega) hb' p1 p2 h1000
            generalize hE : partitionEqual nlt D a' b' pivot = E at hU hpe
            obtain ⟨mid, d4⟩ := E
            obtain ⟨m1, m2, m3, m4, _⟩ := round_eq nlt_swo (partitionEqual_holds nlt) (show 0 < a' by omega) p1 p2 (by rw [s3]; omega) B3 hnl hE
            dsimp only at hU hpe
            rw [if_pos ⟨m1, m2⟩] at hU
            (conv => whnf); repeat ((first | (refine And.intro ?_ ?_; (focus ((repeat' (first | exact trivial | refine And.intro rfl ?_)); done))) | (refine And.intro ?_ ?_; (focus (first | omega | (dsimp -iota only; omega) | (simp -iota; omega) | (simp -iota; done) | decide)))); conv => whnf)
            refine ACall.eqArgs (args' := [.row 0 1 0 n, AV.int .i64 a', AV.int .i64 b', AV.int .i64 (pivot : Nat)]) (show [AV.row 0 1 0 n, AV.int .i64 a', AV.int .i64 b', AV.int .i64 P] = [AV.row 0 1 0 n, AV.int .i64 a', AV.int .i64 b', AV.int .i64 (pivot : Nat)] by rw [hPI]) ?_
            refine AFn.use [0] (hpe) (by kernel_rfl) rfl (by repeat' first | exact trivial | refine ⟨rfl, ?_⟩) fun _ => ?_
            (conv => whnf); repeat ((first | (refine And.intro ?_ ?_; (focus ((repeat' (first | exact trivial | refine And.intro rfl ?_)); done))) | (refine And.intro ?_ ?_; (focus (first | omega | (dsimp -iota only; omega) | (simp -iota; omega) | (simp -iota; done) | decide)))); conv => whnf)
            refine ⟨⟨mid, b', lm, _, _, d4, by omega, by omega, hb', by omega, by omega, m4, hU.symm⟩, Ent.mk' [some 0] (by kernel_rfl) ⟨AVE.refl _, AVE.refl _, AVE.refl _, AVE.int hLI, AVE.refl _, AVE.refl _, trivial⟩ (by (repeat' first | exact trivial | refine ⟨⟨_, rfl, ChE.refl _⟩, ?_⟩)), ?_⟩
            show b' - mid < b' - a'
            omega
          · have hc2 : ¬ (decide (a' > 0) && !nlt D[a' - 1]! D[pivot]!) = true := by simp only [ia, ip, Nat.zero_add] at gl; simp only [Bool.and_eq_true]; exact fun h => by have := h.2; simp [nlt] at this; omega
            rw [if_neg hc2] at hU
            have hpt := part_ok n D a' b' pivot (by omega) (by omega) hb' p1 p2 h1000
            generalize hE : partition nlt D a' b' pivot = E at hU hpt
            obtain ⟨mid, ap, d4⟩ := E
            obtain ⟨m1, m2, m3, m4, m5, m6, m7⟩ := round_part nlt_swo (partition_holds nlt) p1 p2 (by rw [s3]; omega) B3 hE
            dsimp only at hU hpt
            rw [if_pos ⟨m1, m2⟩] at hU
            (conv => whnf); repeat ((first | (refine And.intro ?_ ?_; (focus ((repeat' (first | exact trivial | refine And.intro rfl ?_)); done))) | (refine And.intro ?_ ?_; (focus (first | omega | (dsimp -iota only; omega) | (simp -iota; omega) | (simp -iota; done) | decide)))); conv => whnf)
            refine ACall.eqArgs (args' := [.row 0 1 0 n, AV.int .i64 a', AV.int .i64 b', AV.int .i64 (pivot : Nat)]) (show [AV.row 0 1 0 n, AV.int .i64 a', AV.int .i64 b', AV.int .i64 P] = [AV.row 0 1 0 n, AV.int .i64 a', AV.int .i64 b', AV.int .i64 (pivot : Nat)] by rw [hPI]) ?_
            refine AFn.use [0] (hpt) (by kernel_rfl) rfl (by repeat' first | exact trivial | refine ⟨rfl, ?_⟩) fun _ => ?_
            (conv => whnf); repeat ((first | (refine And.intro ?_ ?_; (focus ((repeat' (first | exact trivial | refine And.intro rfl ?_)); done))) | (refine And.intro ?_ ?_; (focus (first | omega | (dsimp -iota only; omega) | (simp -iota; omega) | (simp -iota; done) | decide)))); conv => whnf)
            refine branchB_of (fun gs => ?_) (fun gs => ?_) <;> (first | replace gs := not_t gs | replace gs := not_f gs | skip) <;> (first | replace gs := of_decide_eq_true gs | replace gs := of_decide_eq_false gs | skip) <;> (first | replace gs := Classical.not_not.1 gs | skip) <;> (try dsimp only at gs)
            · rw [if_pos (by omega)] at hU
              have q := pdq_sorts nlt nlt_swo d4 a' mid lm true true m1 (by omega) m4
              have hrec := ih (mid - a') (by omega) d4 a' mid lm rfl (by omega) m1 (by omega) (by omega) m4
              obtain ⟨q1, q2⟩ := q
              have q3 := m6 _ q1 q2
              have q4 := q1.1
              generalize pdq nlt d4 a' mid lm true true = d5 at hU hrec q1 q2 q3 q4
              (conv => whnf); repeat ((first | (refine And.intro ?_ ?_; (focus ((repeat' (first | exact trivial | refine And.intro rfl ?_)); done))) | (refine And.intro ?_ ?_; (focus (first | omega | (dsimp -iota only; omega) | (simp -iota; omega) | (simp -iota; done) | decide)))); conv => whnf)
              refine ACall.eqArgs (args' := [.row 0 1 0 n, AV.int .i64 a', AV.int .i64 mid, AV.int .i64 (lm : Nat)]) (show [AV.row 0 1 0 n, AV.int .i64 a', AV.int .i64 mid, AV.int .i64 Lm] = [AV.row 0 1 0 n, AV.int .i64 a', AV.int .i64 mid, AV.int .i64 (lm : Nat)] by rw [hLI]) ?_
              refine AFn.use [0] (hrec) (by kernel_rfl) rfl (by repeat' first | exact trivial | refine ⟨rfl, ?_⟩) fun _ => ?_
              (conv => whnf); repeat ((first | (refine And.intro ?_ ?_; (focus ((repeat' (first | exact trivial | refine And.intro rfl ?_)); done))) | (refine And.intro ?_ ?_; (focus (first | omega | (dsimp -iota only; omega) | (simp -iota; omega) | (simp -iota; done) | decide)))); conv => whnf)
              refine ⟨⟨mid + 1, b', lm, _, _, d5, by omega, by omega, hb', by omega, by omega, q3.1, hU.symm⟩, Ent.mk' [some 0] (by kernel_rfl) ⟨AVE.refl _, AVE.int (by dsimp only; omega), AVE.refl _, AVE.int hLI, AVE.bool (decide_eq_decide.2 (by dsimp only; omega)), AVE.refl _, trivial⟩ (by (repeat' first | exact trivial | refine ⟨⟨_, rfl, ChE.refl _⟩, ?_⟩)), ?_⟩
              show b' - (mid + 1) < b' - a'
              omega
            · rw [if_neg (by omega)] at hU
              have q := pdq_sorts nlt nlt_swo d4 (mid + 1) b' lm true true (by omega) (by omega) m5
              have hrec := ih (b' - (mid + 1)) (by omega) d4 (mid + 1) b' lm rfl (by omega) (by omega) (by omega) (by omega) m5
              obtain ⟨q1, q2⟩ := q
              have q3 := m7 _ q1 q2
              have q4 := q1.1
              generalize pdq nlt d4 (mid + 1) b' lm true true = d5 at hU hrec q1 q2 q3 q4
              (conv => whnf); repeat ((first | (refine And.intro ?_ ?_; (focus ((repeat' (first | exact trivial | refine And.intro rfl ?_)); done))) | (refine And.intro ?_ ?_; (focus (first | omega | (dsimp -iota only; omega) | (simp -iota; omega) | (simp -iota; done) | decide)))); conv => whnf)
              refine ACall.eqArgs (args' := [.row 0 1 0 n, AV.int .i64 (mid + 1 : Nat), AV.int .i64 b', AV.int .i64 (lm : Nat)]) (show [AV.row 0 1 0 n, AV.int .i64 ((mid : Int) + 1), AV.int .i64 b', AV.int .i64 Lm] = [AV.row 0 1 0 n, AV.int .i64 (mid + 1 : Nat), AV.int .i64 b', AV.int .i64 (lm : Nat)] by rw [hLI]; rfl) ?_
              refine AFn.use [0] (hrec) (by kernel_rfl) rfl (by repeat' first | exact trivial | refine ⟨rfl, ?_⟩) fun _ => ?_
              (conv => whnf); repeat ((first | (refine And.intro ?_ ?_; (focus ((repeat' (first | exact trivial | refine And.intro rfl ?_)); done))) | (refine And.intro ?_ ?_; (focus (first | omega | (dsimp -iota only; omega) | (simp -iota; omega) | (simp -iota; done) | decide)))); conv => whnf)
              refine ⟨⟨a', mid, lm, _, _, d5, by omega, by omega, by omega, by omega, by omega, q3.1, hU.symm⟩, Ent.mk' [some 0] (by kernel_rfl) ⟨AVE.refl _, AVE.refl _, AVE.refl _, AVE.int hLI, AVE.bool (decide_eq_decide.2 (by dsimp only; omega)), AVE.refl _, trivial⟩ (by (repeat' first | exact trivial | refine ⟨⟨_, rfl, ChE.refl _⟩, ?_⟩)), ?_⟩
              show mid - a' < b' - a'
              omega
        · have hc2 : ¬ (decide (a' > 0) && !nlt D[a' - 1]! D[pivot]!) = true := by simp only [Bool.and_eq_true, decide_eq_true_eq]; exact fun h => by have := h.1; omega
          rw [if_neg hc2] at hU
          have hpt := part_ok n D a' b' pivot (by omega) (by omega) hb' p1 p2 h1000
          generalize hE : partition nlt D a' b' pivot = E at hU hpt
          obtain ⟨mid, ap, d4⟩ := E
          obtain ⟨m1, m2, m3, m4, m5, m6, m7⟩ := round_part nlt_swo (partition_holds nlt) p1 p2 (by rw [s3]; omega) B3 hE
          dsimp only at hU hpt
          rw [if_pos ⟨m1, m2⟩] at hU
          (conv => whnf); repeat ((first | (refine And.intro ?_ ?_; (focus ((repeat' (first | exact trivial | refine And.intro rfl ?_)); done))) | (refine And.intro ?_ ?_; (focus (first | omega | (dsimp -iota only; omega) | (simp -iota; omega) | (simp -iota; done) | decide)))); conv => whnf)
          refine ACall.eqArgs (args' := [.row 0 1 0 n, AV.int .i64 a', AV.int .i64 b', AV.int .i64 (pivot : Nat)]) (show [AV.row 0 1 0 n, AV.int .i64 a', AV.int .i64 b', AV.int .i64 P] = [AV.row 0 1 0 n, AV.int .i64 a', AV.int .i64 b', AV.int .i64 (pivot : Nat)] by rw [hPI]) ?_
          refine AFn.use [0] (hpt) (by kernel_rfl) rfl (by repeat' first | exact trivial | refine ⟨rfl, ?_⟩) fun _ => ?_
          (conv => whnf); repeat ((first | (refine And.intro ?_ ?_; (focus ((repeat' (first | exact trivial | refine And.intro rfl ?_)); done))) | (refine And.intro ?_ ?_; (focus (first | omega | (dsimp -iota only; omega) | (simp -iota; omega) | (simp -iota; done) | decide)))); conv => whnf)
          refine branchB_of (fun gs => ?_) (fun gs => ?_) <;> (first | replace gs := not_t gs | replace gs := not_f gs | skip) <;> (first | replace gs := of_decide_eq_true gs | replace gs := of_decide_eq_false gs | skip) <;> (first | replace gs := Classical.not_not.1 gs | skip) <;> (try dsimp only at gs)
          · rw [if_pos (by omega)] at hU
            have q := pdq_sorts nlt nlt_swo d4 a' mid lm true true m1 (by omega) m4
            have hrec := ih (mid - a') (by omega) d4 a' mid lm rfl (by omega) m1 (by omega) (by omega) m4
            obtain ⟨q1, q2⟩ := q
            have q3 := m6 _ q1 q2
            have q4 := q1.1
            generalize pdq nlt d4 a' mid lm true true = d5 at hU hrec q1 q2 q3 q4
            (conv => whnf); repeat ((first | (refine And.intro ?_ ?_; (focus ((repeat' (first | exact trivial | refine And.intro rfl ?_)); done))) | (refine And.intro ?_ ?_; (focus (first | omega | (dsimp -iota only; omega) | (simp -iota; omega) | (simp -iota; done) | decide)))); conv => whnf)
            refine ACall.eqArgs (args' := [.row 0 1 0 n, AV.int .i64 a', AV.int .i64 mid, AV.int .i64 (lm : Nat)]) (show [AV.row 0 1 0 n, AV.int .i64 a', AV.int .i64 mid, AV.int .i64 Lm] = [AV.row 0 1 0 n, AV.int .i64 a', AV.int .i64 mid, AV.int .i64 (lm : Nat)] by rw [hLI]) ?_
            refine AFn.use [0] (hrec) (by kernel_rfl) rfl (by repeat' first | exact trivial | refine ⟨rfl, ?_⟩) fun _ => ?_
            (conv => whnf); repeat ((first | (refine And.intro ?_ ?_; (focus ((repeat' (first | exact trivial | refine And.intro rfl ?_)); done))) | (refine And.intro ?_ ?_; (focus (first | omega | (dsimp -iota only; omega) | (simp -iota; omega) | (simp -iota; done) | decide)))); conv => whnf)
            refine ⟨⟨mid + 1, b', lm, _, _, d5, by omega, by omega, hb', by omega, by omega, q3.1, hU.symm⟩, Ent.mk' [some 0] (by kernel_rfl) ⟨AVE.refl _, AVE.int (by dsimp only; omega), AVE.refl _, AVE.int hLI, AVE.bool (decide_eq_decide.2 (by dsimp only; omega)), AVE.refl _, trivial⟩ (by (repeat' first | exact trivial | refine ⟨⟨_, rfl, ChE.refl _⟩, ?_⟩)), ?_⟩
            show b' - (mid + 1) < b' - a'
            omega
          · rw [if_neg (by omega)] at hU
            have q := pdq_sorts nlt nlt_swo d4 (mid + 1) b' lm true true (by omega) (by omega) m5
            have hrec := ih (b' - (mid + 1)) (by omega) d4 (mid + 1) b' lm rfl (by omega) (by omega) (by omega) (by omega) m5
            obtain ⟨q1, q2⟩ := q
            have q3 := m7 _ q1 q2
            have q4 := q1.1
            generalize pdq nlt d4 (mid + 1) b' lm true true = d5 at hU hrec q1 q2 q3 q4
            (conv => whnf); repeat ((first | (refine And.intro ?_ ?_; (focus ((repeat' (first | exact trivial | refine And.intro rfl ?_)); done))) | (refine And.intro ?_ ?_; (focus (first | omega | (dsimp -iota only; omega) | (simp -iota; omega) | (simp -iota; done) | decide)))); conv => whnf)
            refine ACall.eqArgs (args' := [.row 0 1 0 n, AV.int .i64 (mid + 1 : Nat), AV.int .i64 b', AV.int .i64 (lm : Nat)]) (show [AV.row 0 1 0 n, AV.int .i64 ((mid : Int) + 1), AV.int .i64 b', AV.int .i64 Lm] = [AV.row 0 1 0 n, AV.int .i64 (mid + 1 : Nat), AV.int .i64 b', AV.int .i64 (lm : Nat)] by rw [hLI]; rfl) ?_
            refine AFn.use [0] (hrec) (by kernel_rfl) rfl (by repeat' first | exact trivial | refine ⟨rfl, ?_⟩) fun _ => ?_
            (conv => whnf); repeat ((first | (refine And.intro ?_ ?_; (focus ((repeat' (first | exact trivial | refine And.intro rfl ?_)); done))) | (refine And.intro ?_ ?_; (focus (first | omega | (dsimp -iota only; omega) | (simp -iota; omega) | (simp -iota; done) | decide)))); conv => whnf)
            refine ⟨⟨a', mid, lm, _, _, d5, by omega, by omega, by omega, by omega, by omega, q3.1, hU.symm⟩, Ent.mk' [some 0] (by kernel_rfl) ⟨AVE.refl _, AVE.refl _, AVE.refl _, AVE.int hLI, AVE.bool (decide_eq_decide.2 (by dsimp only; omega)), AVE.refl _, trivial⟩ (by (repeat' first | exact trivial | refine ⟨⟨_, rfl, ChE.refl _⟩, ?_⟩)), ?_⟩
            show mid - a' < b' - a'
            omega
      | increasing =>
        obtain ⟨hd1, hd2, hd3⟩ := hnd (by decide)
        subst hd1
        obtain ⟨P, hPd⟩ : ∃ P : Int, P = ((pv : Nat) : Int) := ⟨_, rfl⟩
        (conv => whnf); repeat ((first | (refine And.intro ?_ ?_; (focus ((repeat' (first | exact trivial | refine And.intro rfl ?_)); done))) | (refine And.intro ?_ ?_; (focus (first | omega | (dsimp -iota only; omega) | (simp -iota; omega) | (simp -iota; done) | decide)))); conv => whnf)
        rw [← hPd]
        have hPI : P = ((pivot : Nat) : Int) := by rw [hPd, hd2]
        have hpi := hpn (by first | rfl | (rw [hd3]; rfl))
        subst hpi
        dsimp only at hU s3 B3
        rw [if_neg (by decide)] at hU
        obtain ⟨D, hD⟩ : ∃ D, D = d2 := ⟨_, rfl⟩
        subst hD
        (conv => whnf); repeat ((first | (refine And.intro ?_ ?_; (focus ((repeat' (first | exact trivial | refine And.intro rfl ?_)); done))) | (refine And.intro ?_ ?_; (focus (first | omega | (dsimp -iota only; omega) | (simp -iota; omega) | (simp -iota; done) | decide)))); conv => whnf)
        (conv => whnf); repeat ((first | (refine And.intro ?_ ?_; (focus ((repeat' (first | exact trivial | refine And.intro rfl ?_)); done))) | (refine And.intro ?_ ?_; (focus (first | omega | (dsimp -iota only; omega) | (simp -iota; omega) | (simp -iota; done) | decide)))); conv => whnf)
        refine branchB_of (fun ga => ?_) (fun ga => ?_) <;> (first | replace ga := not_t ga | replace ga := not_f ga | skip) <;> (first | replace ga := of_decide_eq_true ga | replace ga := of_decide_eq_false ga | skip) <;> (first | replace ga := Classical.not_not.1 ga | skip) <;> (try dsimp only at ga)
        · have ia : ((a' : Int) - 1).toNat = a' - 1 := by omega
          have ip : P.toNat = pivot := by omega
          (conv => whnf); repeat ((first | (refine And.intro ?_ ?_; (focus ((repeat' (first | exact trivial | refine And.intro rfl ?_)); done))) | (refine And.intro ?_ ?_; (focus (first | omega | (dsimp -iota only; omega) | (simp -iota; omega) | (simp -iota; done) | decide)))); conv => whnf)
          refine AFn.use [] (less_ok _ _) (by kernel_rfl) rfl (by repeat' first | exact trivial | refine ⟨rfl, ?_⟩) fun _ => ?_
          (conv => whnf); repeat ((first | (refine And.intro ?_ ?_; (focus ((repeat' (first | exact trivial | refine And.intro rfl ?_)); done))) | (refine And.intro ?_ ?_; (focus (first | omega | (dsimp -iota only; omega) | (simp -iota; omega) | (simp -iota; done) | decide)))); conv => whnf)
          refine branchB_of (fun gl => ?_) (fun gl => ?_) <;> (first | replace gl := not_t gl | replace gl := not_f gl | skip) <;> (first | replace gl := of_decide_eq_true gl | replace gl := of_decide_eq_false gl | skip) <;> (first | replace gl := Classical.not_not.1 gl | skip) <;> (try dsimp only at gl)
          · have hc2 : (decide (a' > 0) && !nlt D[a' - 1]! D[pivot]!) = true := by simp only [ia, ip, Nat.zero_add] at gl; simp only [Bool.and_eq_true, decide_eq_true_eq]; exact ⟨by omega, by simpa [nlt] using gl⟩
            rw [if_pos hc2] at hU
            have hnl : nlt D[a' - 1]! D[pivot]! = false := by simp only [Bool.and_eq_true] at hc2; simpa using hc2.2
            have hpe := partEq_ok n D a' b' pivot (by omega) (by omega) hb' p1 p2 h1000
            generalize hE : partitionEqual nlt D a' b' pivot = E at hU hpe
            obtain ⟨mid, d4⟩ := E
            obtain ⟨m1, m2, m3, m4, _⟩ := round_eq nlt_swo (partitionEqual_holds nlt) (show 0 < a' by omega) p1 p2 (by rw [s3]; omega) B3 hnl hE
            dsimp only at hU hpe
            rw [if_pos ⟨m1, m2⟩] at hU
            (conv => whnf); repeat ((first | (refine And.intro ?_ ?_; (focus ((repeat' (first | exact trivial | refine And.intro rfl ?_)); done))) | (refine And.intro ?_ ?_; (focus (first | omega | (dsimp -iota only; omega) | (simp -iota; omega) | (simp -iota; done) | decide)))); conv => whnf)
            refine ACall.eqArgs (args' := [.row 0 1 0 n, AV.int .i64 a', AV.int .i64 b', AV.int .i64 (pivot : Nat)]) (show [AV.row 0 1 0 n, AV.int .i64 a', AV.int .i64 b', AV.int .i64 P] = [AV.row 0 1 0 n, AV.int .i64 a', AV.int .i64 b', AV.int .i64 (pivot : Nat)] by rw [hPI]) ?_
            refine AFn.use [0] (hpe) (by kernel_rfl) rfl (by repeat' first | exact trivial | refine ⟨rfl, ?_⟩) fun _ => ?_
            (conv => whnf); repeat ((first | (refine And.intro ?_ ?_; (focus ((repeat' (first | exact trivial | refine And.intro rfl ?_)); done))) | (refine And.intro ?_ ?_; (focus (first | omega | (dsimp -iota only; omega) | (simp -iota; omega) | (simp -iota; done) | decide)))); conv => whnf)
            refine ⟨⟨mid, b', lm, _, _, d4, by omega, by omega, hb', by omega, by omega, m4, hU.symm⟩, Ent.mk' [some 0] (by kernel_rfl) ⟨AVE.refl _, AVE.refl _, AVE.refl _, AVE.int hLI, AVE.refl _, AVE.refl _, trivial⟩ (by (repeat' first | exact trivial | refine ⟨⟨_, rfl, ChE.refl _⟩, ?_⟩)), ?_⟩
            show b' - mid < b' - a'
            omega
          · have hc2 : ¬ (decide (a' > 0) && !nlt D[a' - 1]! D[pivot]!) = true := by simp only [ia, ip, Nat.zero_add] at gl; simp only [Bool.and_eq_true]; exact fun h => by have := h.2; simp [nlt] at this; omega
            rw [if_neg hc2] at hU
            have hpt := part_ok n D a' b' pivot (by omega) (by omega) hb' p1 p2 h1000
            generalize hE : partition nlt D a' b' pivot = E at hU hpt
            obtain ⟨mid, ap, d4⟩ := E
            obtain ⟨m1, m2, m3, m4, m5, m6, m7⟩ := round_part nlt_swo (partition_holds nlt) p1 p2 (by rw [s3]; omega) B3 hE
            dsimp only at hU hpt
            rw [if_pos ⟨m1, m2⟩] at hU
            (conv => whnf); repeat ((first | (refine And.intro ?_ ?_; (focus ((repeat' (first | exact trivial | refine And.intro rfl ?_)); done))) | (refine And.intro ?_ ?_; (focus (first | omega | (dsimp -iota only; omega) | (simp -iota; omega) | (simp -iota; done) | decide)))); conv => whnf)
            refine ACall.eqArgs (args' := [.row 0 1 0 n, AV.int .i64 a', AV.int .i64 b', AV.int .i64 (pivot : Nat)]) (show [AV.row 0 1 0 n, AV.int .i64 a', AV.int .i64 b', AV.int .i64 P] = [AV.row 0 1 0 n, AV.int .i64 a', AV.int .i64 b', AV.int .i64 (pivot : Nat)] by rw [hPI]) ?_
            refine AFn.use [0] (hpt) (by kernel_rfl) rfl (by repeat' first | exact trivial | refine ⟨rfl, ?_⟩) fun _ => ?_
            (conv => whnf); repeat ((first | (refine And.intro ?_ ?_; (focus ((repeat' (first | exact trivial | refine And.intro rfl ?_)); done))) | (refine And.intro ?_ ?_; (focus (first | omega | (dsimp -iota only; omega) | (simp -iota; omega) | (simp -iota; done) | decide)))); conv => whnf)
            refine branchB_of (fun gs => ?_) (fun gs => ?_) <;> (first | replace gs := not_t gs | replace gs := not_f gs | skip) <;> (first | replace gs := of_decide_eq_true gs | replace gs := of_decide_eq_false gs | skip) <;> (first | replace gs := Classical.not_not.1 gs | skip) <;> (try dsimp only at gs)
            · rw [if_pos (by omega)] at hU
              have q := pdq_sorts nlt nlt_swo d4 a' mid lm true true m1 (by omega) m4
              have hrec := ih (mid - a') (by omega) d4 a' mid lm rfl (by omega) m1 (by omega) (by omega) m4
              obtain ⟨q1, q2⟩ := q
              have q3 := m6 _ q1 q2
              have q4 := q1.1
              generalize pdq nlt d4 a' mid lm true true = d5 at hU hrec q1 q2 q3 q4
              (conv => whnf); repeat ((first | (refine And.intro ?_ ?_; (focus ((repeat' (first | exact trivial | refine And.intro rfl ?_)); done))) | (refine And.intro ?_ ?_; (focus (first | omega | (dsimp -iota only; omega) | (simp -iota; omega) | (simp -iota; done) | decide)))); conv => whnf)
              refine ACall.eqArgs (args' := [.row 0 1 0 n, AV.int .i64 a', AV.int .i64 mid, AV.int .i64 (lm : Nat)]) (show [AV.row 0 1 0 n, AV.int .i64 a', AV.int .i64 mid, AV.int .i64 Lm] = [AV.row 0 1 0 n, AV.int .i64 a', AV.int .i64 mid, AV.int .i64 (lm : Nat)] by rw [hLI]) ?_
              refine AFn.use [0] (hrec) (by kernel_rfl) rfl (by repeat' first | exact trivial | refine ⟨rfl, ?_⟩) fun _ => ?_
              (conv => whnf); repeat ((first | (refine And.intro ?_ ?_; (focus ((repeat' (first | exact trivial | refine And.intro rfl ?_)); done))) | (refine And.intro ?_ ?_; (focus (first | omega | (dsimp -iota only; omega) | (simp -iota; omega) | (simp -iota; done) | decide)))); conv => whnf)
              refine ⟨⟨mid + 1, b', lm, _, _, d5, by omega, by omega, hb', by omega, by omega, q3.1, hU.symm⟩, Ent.mk' [some 0] (by kernel_rfl) ⟨AVE.refl _, AVE.int (by dsimp only; omega), AVE.refl _, AVE.int hLI, AVE.bool (decide_eq_decide.2 (by dsimp only; omega)), AVE.refl _, trivial⟩ (by (repeat' first | exact trivial | refine ⟨⟨_, rfl, ChE.refl _⟩, ?_⟩)), ?_⟩
              show b' - (mid + 1) < b' - a'
              omega
            · rw [if_neg (by omega)] at hU
              have q := pdq_sorts nlt nlt_swo d4 (mid + 1) b' lm true true (by omega) (by omega) m5
              have hrec := ih (b' - (mid + 1)) (by omega) d4 (mid + 1) b' lm rfl (by omega) (by omega) (by omega) (by omega) m5
              obtain ⟨q1, q2⟩ := q
              have q3 := m7 _ q1 q2
              have q4 := q1.1
              generalize pdq nlt d4 (mid + 1) b' lm true true = d5 at hU hrec q1 q2 q3 q4
              (conv => whnf); repeat ((first | (refine And.intro ?_ ?_; (focus ((repeat' (first | exact trivial | refine And.intro rfl ?_)); done))) | (refine And.intro ?_ ?_; (focus (first | omega | (dsimp -iota only; omega) | (simp -iota; omega) | (simp -iota; done) | decide)))); conv => whnf)
              refine ACall.eqArgs (args' := [.row 0 1 0 n, AV.int .i64 (mid + 1 : Nat), AV.int .i64 b', AV.int .i64 (lm : Nat)]) (show [AV.row 0 1 0 n, AV.int .i64 ((mid : Int) + 1), AV.int .i64 b', AV.int .i64 Lm] = [AV.row 0 1 0 n, AV.int .i64 (mid + 1 : Nat), AV.int .i64 b', AV.int .i64 (lm : Nat)] by rw [hLI]; rfl) ?_
              refine AFn.use [0] (hrec) (by kernel_rfl) rfl (by repeat' first | exact trivial | refine ⟨rfl, ?_⟩) fun _ => ?_
              (conv => whnf); repeat ((first | (refine And.intro ?_ ?_; (focus ((repeat' (first | exact trivial | refine And.intro rfl ?_)); done))) | (refine And.intro ?_ ?_; (focus (first | omega | (dsimp -iota only; omega) | (simp -iota; omega) | (simp -iota; done) | decide)))); conv => whnf)
              refine ⟨⟨a', mid, lm, _, _, d5, by omega, by omega, by omega, by omega, by omega, q3.1, hU.symm⟩, Ent.mk' [some 0] (by kernel_rfl) ⟨AVE.refl _, AVE.refl _, AVE.refl _, AVE.int hLI, AVE.bool (decide_eq_decide.2 (by dsimp only; omega)), AVE.refl _, trivial⟩ (by (repeat' first | exact trivial | refine ⟨⟨_, rfl, ChE.refl _⟩, ?_⟩)), ?_⟩
              show mid - a' < b' - a'
              omega
        · have hc2 : ¬ (decide (a' > 0) && !nlt D[a' - 1]! D[pivot]!) = true := by simp only [Bool.and_eq_true, decide_eq_true_eq]; exact fun h => by have := h.1; omega
          rw [if_neg hc2] at hU
          have hpt := part_ok n D a' b' pivot (by omega) (by omega) hb' p1 p2 h1000
          generalize hE : partition nlt D a' b' pivot = E at hU hpt
          obtain ⟨mid, ap, d4⟩ := E
          obtain ⟨m1, m2, m3, m4, m5, m6, m7⟩ := round_part nlt_swo (partition_holds nlt) p1 p2 (by rw [s3]; omega) B3 hE
          dsimp only at hU hpt
          rw [if_pos ⟨m1, m2⟩] at hU
          (conv => whnf); repeat ((first | (refine And.intro ?_ ?_; (focus ((repeat' (first | exact trivial | refine And.intro rfl ?_)); done))) | (refine And.intro ?_ ?_; (focus (first | omega | (dsimp -iota only; omega) | (simp -iota; omega) | (simp -iota; done) | decide)))); conv => whnf)
          refine ACall.eqArgs (args' := [.row 0 1 0 n, AV.int .i64 a', AV.int .i64 b', AV.int .i64 (pivot : Nat)]) (show [AV.row 0 1 0 n, AV.int .i64 a', AV.int .i64 b', AV.int .i64 P] = [AV.row 0 1 0 n, AV.int .i64 a', AV.int .i64 b', AV.int .i64 (pivot : Nat)] by rw [hPI]) ?_
          refine AFn.use [0] (hpt) (by kernel_rfl) rfl (by repeat' first | exact trivial | refine ⟨rfl, ?_⟩) fun _ => ?_
          (conv => whnf); repeat ((first | (refine And.intro ?_ ?_; (focus ((repeat' (first | exact trivial | refine And.intro rfl ?_)); done))) | (refine And.intro ?_ ?_; (focus (first | omega | (dsimp -iota only; omega) | (simp -iota; omega) | (simp -iota; done) | decide)))); conv => whnf)
          refine branchB_of (fun gs => ?_) (fun gs => ?_) <;> (first | replace gs := not_t gs | replace gs := not_f gs | skip) <;> (first | replace gs := of_decide_eq_true gs | replace gs := of_decide_eq_false gs | skip) <;> (first | replace gs := Classical.not_not.1 gs | skip) <;> (try dsimp only at gs)
          · rw [if_pos (by omega)] at hU
            have q := pdq_sorts nlt nlt_swo d4 a' mid lm true true m1 (by omega) m4
            have hrec := ih (mid - a') (by omega) d4 a' mid lm rfl (by omega) m1 (by omega) (by omega) m4
            obtain ⟨q1, q2⟩ := q
            have q3 := m6 _ q1 q2
            have q4 := q1.1
            generalize pdq nlt d4 a' mid lm true true = d5 at hU hrec q1 q2 q3 q4
            (conv => whnf); repeat ((first | (refine And.intro ?_ ?_; (focus ((repeat' (first | exact trivial | refine And.intro rfl ?_)); done))) | (refine And.intro ?_ ?_; (focus (first | omega | (dsimp -iota only; omega) | (simp -iota; omega) | (simp -iota; done) | decide)))); conv => whnf)
            refine ACall.eqArgs (args' := [.row 0 1 0 n, AV.int .i64 a', AV.int .i64 mid, AV.int .i64 (lm : Nat)]) (show [AV.row 0 1 0 n, AV.int .i64 a', AV.int .i64 mid, AV.int .i64 Lm] = [AV.row 0 1 0 n, AV.int .i64 a', AV.int .i64 mid, AV.int .i64 (lm : Nat)] by rw [hLI]) ?_
            refine AFn.use [0] (hrec) (by kernel_rfl) rfl (by repeat' first | exact trivial | refine ⟨rfl, ?_⟩) fun _ => ?_
            (conv => whnf); repeat ((first | (refine And.intro ?_ ?_; (focus ((repeat' (first | exact trivial | refine And.intro rfl ?_)); done))) | (refine And.intro ?_ ?_; (focus (first | omega | (dsimp -iota only; omega) | (simp -iota; omega) | (simp -iota; done) | decide)))); conv => whnf)
            refine ⟨⟨mid + 1, b', lm, _, _, d5, by omega, by omega, hb', by omega, by omega, q3.1, hU.symm⟩, Ent.mk' [some 0] (by kernel_rfl) ⟨AVE.refl _, AVE.int (by dsimp only; omega), AVE.refl _, AVE.int hLI, AVE.bool (decide_eq_decide.2 (by dsimp only; omega)), AVE.refl _, trivial⟩ (by (repeat' first | exact trivial | refine ⟨⟨_, rfl, ChE.refl _⟩, ?_⟩)), ?_⟩
            show b' - (mid + 1) < b' - a'
            omega
          · rw [if_neg (by omega)] at hU
            have q := pdq_sorts nlt nlt_swo d4 (mid + 1) b' lm true true (by omega) (by omega) m5
            have hrec := ih (b' - (mid + 1)) (by omega) d4 (mid + 1) b' lm rfl (by omega) (by omega) (by omega) (by omega) m5
            obtain ⟨q1, q2⟩ := q
            have q3 := m7 _ q1 q2
            have q4 := q1.1
            generalize pdq nlt d4 (mid + 1) b' lm true true = d5 at hU hrec q1 q2 q3 q4
            (conv => whnf); repeat ((first | (refine And.intro ?_ ?_; (focus ((repeat' (first | exact trivial | refine And.intro rfl ?_)); done))) | (refine And.intro ?_ ?_; (focus (first | omega | (dsimp -iota only; omega) | (simp -iota; omega) | (simp -iota; done) | decide)))); conv => whnf)
            refine ACall.eqArgs (args' := [.row 0 1 0 n, AV.int .i64 (mid + 1 : Nat), AV.int .i64 b', AV.int .i64 (lm : Nat)]) (show [AV.row 0 1 0 n, AV.int .i64 ((mid : Int) + 1), AV.int .i64 b', AV.int .i64 Lm] = [AV.row 0 1 0 n, AV.int .i64 (mid + 1 : Nat), AV.int .i64 b', AV.int .i64 (lm : Nat)] by rw [hLI]; rfl) ?_
            refine AFn.use [0] (hrec) (by kernel_rfl) rfl (by repeat' first | exact trivial | refine ⟨rfl, ?_⟩) fun _ => ?_
            (conv => whnf); repeat ((first | (refine And.intro ?_ ?_; (focus ((repeat' (first | exact trivial | refine And.intro rfl ?_)); done))) | (refine And.intro ?_ ?_; (focus (first | omega | (dsimp -iota only; omega) | (simp -iota; omega) | (simp -iota; done) | decide)))); conv => whnf)
            refine ⟨⟨a', mid, lm, _, _, d5, by omega, by omega, by omega, by omega, by omega, q3.1, hU.symm⟩, Ent.mk' [some 0] (by kernel_rfl) ⟨AVE.refl _, AVE.refl _, AVE.refl _, AVE.int hLI, AVE.bool (decide_eq_decide.2 (by dsimp only; omega)), AVE.refl _, trivial⟩ (by (repeat' first | exact trivial | refine ⟨⟨_, rfl, ChE.refl _⟩, ?_⟩)), ?_⟩
            show mid - a' < b' - a'
            omega
      | unknown =>
        obtain ⟨hd1, hd2, hd3⟩ := hnd (by decide)
        subst hd1
        obtain ⟨P, hPd⟩ : ∃ P : Int, P = ((pv : Nat) : Int) := ⟨_, rfl⟩
        (conv => whnf); repeat ((first | (refine And.intro ?_ ?_; (focus ((repeat' (first | exact trivial | refine And.intro rfl ?_)); done))) | (refine And.intro ?_ ?_; (focus (first | omega | (dsimp -iota only; omega) | (simp -iota; omega) | (simp -iota; done) | decide)))); conv => whnf)
        rw [← hPd]
        have hPI : P = ((pivot : Nat) : Int) := by rw [hPd, hd2]
        have hpi := hpn (by first | rfl | (rw [hd3]; rfl))
        subst hpi
        dsimp only at hU s3 B3
        rw [if_neg (by decide)] at hU
        obtain ⟨D, hD⟩ : ∃ D, D = d2 := ⟨_, rfl⟩
        subst hD
        (conv => whnf); repeat ((first | (refine And.intro ?_ ?_; (focus ((repeat' (first | exact trivial | refine And.intro rfl ?_)); done))) | (refine And.intro ?_ ?_; (focus (first | omega | (dsimp -iota only; omega) | (simp -iota; omega) | (simp -iota; done) | decide)))); conv => whnf)
        (conv => whnf); repeat ((first | (refine And.intro ?_ ?_; (focus ((repeat' (first | exact trivial | refine And.intro rfl ?_)); done))) | (refine And.intro ?_ ?_; (focus (first | omega | (dsimp -iota only; omega) | (simp -iota; omega) | (simp -iota; done) | decide)))); conv => whnf)
        refine branchB_of (fun ga => ?_) (fun ga => ?_) <;> (first | replace ga := not_t ga | replace ga := not_f ga | skip) <;> (first | replace ga := of_decide_eq_true ga | replace ga := of_decide_eq_false ga | skip) <;> (first | replace ga := Classical.not_not.1 ga | skip) <;> (try dsimp only at ga)
        · have ia : ((a' : Int) - 1).toNat = a' - 1 := by omega
          have ip : P.toNat = pivot := by omega
          (conv => whnf); repeat ((first | (refine And.intro ?_ ?_; (focus ((repeat' (first | exact trivial | refine And.intro rfl ?_)); done))) | (refine And.intro ?_ ?_; (focus (first | omega | (dsimp -iota only; omega) | (simp -iota; omega) | (simp -iota; done) | decide)))); conv => whnf)
          refine AFn.use [] (less_ok _ _) (by kernel_rfl) rfl (by repeat' first | exact trivial | refine ⟨rfl, ?_⟩) fun _ => ?_
          (conv => whnf); repeat ((first | (refine And.intro ?_ ?_; (focus ((repeat' (first | exact trivial | refine And.intro rfl ?_)); done))) | (refine And.intro ?_ ?_; (focus (first | omega | (dsimp -iota only; omega) | (simp -iota; omega) | (simp -iota; done) | decide)))); conv => whnf)
          refine branchB_of (fun gl => ?_) (fun gl => ?_) <;> (first | replace gl := not_t gl | replace gl := not_f gl | skip) <;> (first | replace gl := of_decide_eq_true gl | replace gl := of_decide_eq_false gl | skip) <;> (first | replace gl := Classical.not_not.1 gl | skip) <;> (try dsimp only at gl)
          · have hc2 : (decide (a' > 0) && !nlt D[a' - 1]! D[pivot]!) = true := by simp only [ia, ip, Nat.zero_add] at gl; simp only [Bool.and_eq_true, decide_eq_true_eq]; exact ⟨by omega, by simpa [nlt] using gl⟩
            rw [if_pos hc2] at hU
            have hnl : nlt D[a' - 1]! D[pivot]! = false := by simp only [Bool.and_eq_true] at hc2; simpa using hc2.2
            have hpe := partEq_ok n D a' b' pivot (by omega) (by omega) hb' p1 p2 h1000
            generalize hE : partitionEqual nlt D a' b' pivot = E at hU hpe
            obtain ⟨mid, d4⟩ := E
            obtain ⟨m1, m2, m3, m4, _⟩ := round_eq nlt_swo (partitionEqual_holds nlt) (show 0 < a' by omega) p1 p2 (by rw [s3]; omega) B3 hnl hE
            dsimp only at hU hpe
            rw [if_pos ⟨m1, m2⟩] at hU
            (conv => whnf); repeat ((first | (refine And.intro ?_ ?_; (focus ((repeat' (first | exact trivial | refine And.intro rfl ?_)); done))) | (refine And.intro ?_ ?_; (focus (first | omega | (dsimp -iota only; omega) | (simp -iota; omega) | (simp -iota; done) | decide)))); conv => whnf)
            refine ACall.eqArgs (args' := [.row 0 1 0 n, AV.int .i64 a', AV.int .i64 b', AV.int .i64 (pivot : Nat)]) (show [AV.row 0 1 0 n, AV.int .i64 a', AV.int .i64 b', AV.int .i64 P] = [AV.row 0 1 0 n, AV.int .i64 a', AV.int .i64 b', AV.int .i64 (pivot : Nat)] by rw [hPI]) ?_
            refine AFn.use [0] (hpe) (by kernel_rfl) rfl (by repeat' first | exact trivial | refine ⟨rfl, ?_⟩) fun _ => ?_
            (conv => whnf); repeat ((first | (refine And.intro ?_ ?_; (focus ((repeat' (first | exact trivial | refine And.intro rfl ?_)); done))) | (refine And.intro ?_ ?_; (focus (first | omega | (dsimp -iota only; omega) | (simp -iota; omega) | (simp -iota; done) | decide)))); conv => whnf)
            refine ⟨⟨mid, b', lm, _, _, d4, by omega, by omega, hb', by omega, by omega, m4, hU.symm⟩, Ent.mk' [some 0] (by kernel_rfl) ⟨AVE.refl _, AVE.refl _, AVE.refl _, AVE.int hLI, AVE.refl _, AVE.refl _, trivial⟩ (by (repeat' first | exact trivial | refine ⟨⟨_, rfl, ChE.refl _⟩, ?_⟩)), ?_⟩
            show b' - mid < b' - a'
            omega
          · have hc2 : ¬ (decide (a' > 0) && !nlt D[a' - 1]! D[pivot]!) = true := by simp only [ia, ip, Nat.zero_add] at gl; simp only [Bool.and_eq_true]; exact fun h => by have := h.2; simp [nlt] at this; omega
            rw [if_neg hc2] at hU
            have hpt := part_ok n D a' b' pivot (by omega) (by omega) hb' p1 p2 h1000
            generalize hE : partition nlt D a' b' pivot = E at hU hpt
            obtain ⟨mid, ap, d4⟩ := E
            obtain ⟨m1, m2, m3, m4, m5, m6, m7⟩ := round_part nlt_swo (partition_holds nlt) p1 p2 (by rw [s3]; omega) B3 hE
            dsimp only at hU hpt
            rw [if_pos ⟨m1, m2⟩] at hU
            (conv => whnf); repeat ((first | (refine And.intro ?_ ?_; (focus ((repeat' (first | exact trivial | refine And.intro rfl ?_)); done))) | (refine And.intro ?_ ?_; (focus (first | omega | (dsimp -iota only; omega) | (simp -iota; omega) | (simp -iota; done) | decide)))); conv => whnf)
            refine ACall.eqArgs (args' := [.row 0 1 0 n, AV.int .i64 a', AV.int .i64 b', AV.int .i64 (pivot : Nat)]) (show [AV.row 0 1 0 n, AV.int .i64 a', AV.int .i64 b', AV.int .i64 P] = [AV.row 0 1 0 n, AV.int .i64 a', AV.int .i64 b', AV.int .i64 (pivot : Nat)] by rw [hPI]) ?_
            refine AFn.use [0] (hpt) (by kernel_rfl) rfl (by repeat' first | exact trivial | refine ⟨rfl, ?_⟩) fun _ => ?_
            (conv => whnf); repeat ((first | (refine And.intro ?_ ?_; (focus ((repeat' (first | exact trivial | refine And.intro rfl ?_)); done))) | (refine And.intro ?_ ?_; (focus (first | omega | (dsimp -iota only; omega) | (simp -iota; omega) | (simp -iota; done) | decide)))); conv => whnf)
            refine branchB_of (fun gs => ?_) (fun gs => ?_) <;> (first | replace gs := not_t gs | replace gs := not_f gs | skip) <;> (first | replace gs := of_decide_eq_true gs | replace gs := of_decide_eq_false gs | skip) <;> (first | replace gs := Classical.not_not.1 gs | skip) <;> (try dsimp only at gs)
            · rw [if_pos (by omega)] at hU
              have q := pdq_sorts nlt nlt_swo d4 a' mid lm true true m1 (by omega) m4
              have hrec := ih (mid - a') (by omega) d4 a' mid lm rfl (by omega) m1 (by omega) (by omega) m4
              obtain ⟨q1, q2⟩ := q
              have q3 := m6 _ q1 q2
              have q4 := q1.1
              generalize pdq nlt d4 a' mid lm true true = d5 at hU hrec q1 q2 q3 q4
              (conv => whnf); repeat ((first | (refine And.intro ?_ ?_; (focus ((repeat' (first | exact trivial | refine And.intro rfl ?_)); done))) | (refine And.intro ?_ ?_; (focus (first | omega | (dsimp -iota only; omega) | (simp -iota; omega) | (simp -iota; done) | decide)))); conv => whnf)
              refine ACall.eqArgs (args' := [.row 0 1 0 n, AV.int .i64 a', AV.int .i64 mid, AV.int .i64 (lm : Nat)]) (show [AV.row 0 1 0 n, AV.int .i64 a', AV.int .i64 mid, AV.int .i64 Lm] = [AV.row 0 1 0 n, AV.int .i64 a', AV.int .i64 mid, AV.int .i64 (lm : Nat)] by rw [hLI]) ?_
              refine AFn.use [0] (hrec) (by kernel_rfl) rfl (by repeat' first | exact trivial | refine ⟨rfl, ?_⟩) fun _ => ?_
              (conv => whnf); repeat ((first | (refine And.intro ?_ ?_; (focus ((repeat' (first | exact trivial | refine And.intro rfl ?_)); done))) | (refine And.intro ?_ ?_; (focus (first | omega | (dsimp -iota only; omega) | (simp -iota; omega) | (simp -iota; done) | decide)))); conv => whnf)
              refine ⟨⟨mid + 1, b', lm, _, _, d5, by omega, by omega, hb', by omega, by omega, q3.1, hU.symm⟩, Ent.mk' [some 0] (by kernel_rfl) ⟨AVE.refl _, AVE.int (by dsimp only; omega), AVE.refl _, AVE.int hLI, AVE.bool (decide_eq_decide.2 (by dsimp only; omega)), AVE.refl _, trivial⟩ (by (repeat' first | exact trivial | refine ⟨⟨_, rfl, ChE.refl _⟩, ?_⟩)), ?_⟩
              show b' - (mid + 1) < b' - a'
              omega
            · rw [if_neg (by omega)] at hU
              have q := pdq_sorts nlt nlt_swo d4 (mid + 1) b' lm true true (by omega) (by omega) m5
              have hrec := ih (b' - (mid + 1)) (by omega) d4 (mid + 1) b' lm rfl (by omega) (by omega) (by omega) (by omega) m5
              obtain ⟨q1, q2⟩ := q
              have q3 := m7 _ q1 q2
              have q4 := q1.1
              generalize pdq nlt d4 (mid + 1) b' lm true true = d5 at hU hrec q1 q2 q3 q4
              (conv => whnf); repeat ((first | (refine And.intro ?_ ?_; (focus ((repeat' (first | exact trivial | refine And.intro rfl ?_)); done))) | (refine And.intro ?_ ?_; (focus (first | omega | (dsimp -iota only; omega) | (simp -iota; omega) | (simp -iota; done) | decide)))); conv => whnf)
              refine ACall.eqArgs (args' := [.row 0 1 0 n, AV.int .i64 (mid + 1 : Nat), AV.int .i64 b', AV.int .i64 (lm : Nat)]) (show [AV.row 0 1 0 n, AV.int .i64 ((mid : Int) + 1), AV.int .i64 b', AV.int .i64 Lm] = [AV.row 0 1 0 n, AV.int .i64 (mid + 1 : Nat), AV.int .i64 b', AV.int .i64 (lm : Nat)] by rw [hLI]; rfl) ?_
              refine AFn.use [0] (hrec) (by kernel_rfl) rfl (by repeat' first | exact trivial | refine ⟨rfl, ?_⟩) fun _ => ?_
              (conv => whnf); repeat ((first | (refine And.intro ?_ ?_; (focus ((repeat' (first | exact trivial | refine And.intro rfl ?_)); done))) | (refine And.intro ?_ ?_; (focus (first | omega | (dsimp -iota only; omega) | (simp -iota; omega) | (simp -iota; done) | decide)))); conv => whnf)
              refine ⟨⟨a', mid, lm, _, _, d5, by omega, by omega, by omega, by omega, by omega, q3.1, hU.symm⟩, Ent.mk' [some 0] (by kernel_rfl) ⟨AVE.refl _, AVE.refl _, AVE.refl _, AVE.int hLI, AVE.bool (decide_eq_decide.2 (by dsimp only; omega)), AVE.refl _, trivial⟩ (by (repeat' first | exact trivial | refine ⟨⟨_, rfl, ChE.refl _⟩, ?_⟩)), ?_⟩
              show mid - a' < b' - a'
              omega
        · have hc2 : ¬ (decide (a' > 0) && !nlt D[a' - 1]! D[pivot]!) = true := by simp only [Bool.and_eq_true, decide_eq_true_eq]; exact fun h => by have := h.1; omega
          rw [if_neg hc2] at hU
          have hpt := part_ok n D a' b' pivot (by omega) (by omega) hb' p1 p2 h1000
          generalize hE : partition nlt D a' b' pivot = E at hU hpt
          obtain ⟨mid, ap, d4⟩ := E
          obtain ⟨m1, m2, m3, m4, m5, m6, m7⟩ := round_part nlt_swo (partition_holds nlt) p1 p2 (by rw [s3]; omega) B3 hE
          dsimp only at hU hpt
          rw [if_pos ⟨m1, m2⟩] at hU
          (conv => whnf); repeat ((first | (refine And.intro ?_ ?_; (focus ((repeat' (first | exact trivial | refine And.intro rfl ?_)); done))) | (refine And.intro ?_ ?_; (focus (first | omega | (dsimp -iota only; omega) | (simp -iota; omega) | (simp -iota; done) | decide)))); conv => whnf)
          refine ACall.eqArgs (args' := [.row 0 1 0 n, AV.int .i64 a', AV.int .i64 b', AV.int .i64 (pivot : Nat)]) (show [AV.row 0 1 0 n, AV.int .i64 a', AV.int .i64 b', AV.int .i64 P] = [AV.row 0 1 0 n, AV.int .i64 a', AV.int .i64 b', AV.int .i64 (pivot : Nat)] by rw [hPI]) ?_
          refine AFn.use [0] (hpt) (by kernel_rfl) rfl (by repeat' first | exact trivial | refine ⟨rfl, ?_⟩) fun _ => ?_
          (conv => whnf); repeat ((first | (refine And.intro ?_ ?_; (focus ((repeat' (first | exact trivial | refine And.intro rfl ?_)); done))) | (refine And.intro ?_ ?_; (focus (first | omega | (dsimp -iota only; omega) | (simp -iota; omega) | (simp -iota; done) | decide)))); conv => whnf)
          refine branchB_of (fun gs => ?_) (fun gs => ?_) <;> (first | replace gs := not_t gs | replace gs := not_f gs | skip) <;> (first | replace gs := of_decide_eq_true gs | replace gs := of_decide_eq_false gs | skip) <;> (first | replace gs := Classical.not_not.1 gs | skip) <;> (try dsimp only at gs)
          · rw [if_pos (by omega)] at hU
            have q := pdq_sorts nlt nlt_swo d4 a' mid lm true true m1 (by omega) m4
            have hrec := ih (mid - a') (by omega) d4 a' mid lm rfl (by omega) m1 (by omega) (by omega) m4
            obtain ⟨q1, q2⟩ := q
            have q3 := m6 _ q1 q2
            have q4 := q1.1
            generalize pdq nlt d4 a' mid lm true true = d5 at hU hrec q1 q2 q3 q4
            (conv => whnf); repeat ((first | (refine And.intro ?_ ?_; (focus ((repeat' (first | exact trivial | refine And.intro rfl ?_)); done))) | (refine And.intro ?_ ?_; (focus (first | omega | (dsimp -iota only; omega) | (simp -iota; omega) | (simp -iota; done) | decide)))); conv => whnf)
            refine ACall.eqArgs (args' := [.row 0 1 0 n, AV.int .i64 a', AV.int .i64 mid, AV.int .i64 (lm : Nat)]) (show [AV.row 0 1 0 n, AV.int .i64 a', AV.int .i64 mid, AV.int .i64 Lm] = [AV.row 0 1 0 n, AV.int .i64 a', AV.int .i64 mid, AV.int .i64 (lm : Nat)] by rw [hLI]) ?_
            refine AFn.use [0] (hrec) (by kernel_rfl) rfl (by repeat' first | exact trivial | refine ⟨rfl, ?_⟩) fun _ => ?_
            (conv => whnf); repeat ((first | (refine And.intro ?_ ?_; (focus ((repeat' (first | exact trivial | refine And.intro rfl ?_)); done))) | (refine And.intro ?_ ?_; (focus (first | omega | (dsimp -iota only; omega) | (simp -iota; omega) | (simp -iota; done) | decide)))); conv => whnf)
            refine ⟨⟨mid + 1, b', lm, _, _, d5, by omega, by omega, hb', by omega, by omega, q3.1, hU.symm⟩, Ent.mk' [some 0] (by kernel_rfl) ⟨AVE.refl _, AVE.int (by dsimp only; omega), AVE.refl _, AVE.int hLI, AVE.bool (decide_eq_decide.2 (by dsimp only; omega)), AVE.refl _, trivial⟩ (by (repeat' first | exact trivial | refine ⟨⟨_, rfl, ChE.refl _⟩, ?_⟩)), ?_⟩
            show b' - (mid + 1) < b' - a'
            omega
          · rw [if_neg (by omega)] at hU
            have q := pdq_sorts nlt nlt_swo d4 (mid + 1) b' lm true true (by omega) (by omega) m5
            have hrec := ih (b' - (mid + 1)) (by omega) d4 (mid + 1) b' lm rfl (by omega) (by omega) (by omega) (by omega) m5
            obtain ⟨q1, q2⟩ := q
            have q3 := m7 _ q1 q2
            have q4 := q1.1
            generalize pdq nlt d4 (mid + 1) b' lm true true = d5 at hU hrec q1 q2 q3 q4
            (conv => whnf); repeat ((first | (refine And.intro ?_ ?_; (focus ((repeat' (first | exact trivial | refine And.intro rfl ?_)); done))) | (refine And.intro ?_ ?_; (focus (first | omega | (dsimp -iota only; omega) | (simp -iota; omega) | (simp -iota; done) | decide)))); conv => whnf)
            refine ACall.eqArgs (args' := [.row 0 1 0 n, AV.int .i64 (mid + 1 : Nat), AV.int .i64 b', AV.int .i64 (lm : Nat)]) (show [AV.row 0 1 0 n, AV.int .i64 ((mid : Int) + 1), AV.int .i64 b', AV.int .i64 Lm] = [AV.row 0 1 0 n, AV.int .i64 (mid + 1 : Nat), AV.int .i64 b', AV.int .i64 (lm : Nat)] by rw [hLI]; rfl) ?_
            refine AFn.use [0] (hrec) (by kernel_rfl) rfl (by repeat' first | exact trivial | refine ⟨rfl, ?_⟩) fun _ => ?_
            (conv => whnf); repeat ((first | (refine And.intro ?_ ?_; (focus ((repeat' (first | exact trivial | refine And.intro rfl ?_)); done))) | (refine And.intro ?_ ?_; (focus (first | omega | (dsimp -iota only; omega) | (simp -iota; omega) | (simp -iota; done) | decide)))); conv => whnf)
            refine ⟨⟨a', mid, lm, _, _, d5, by omega, by omega, by omega, by omega, by omega, q3.1, hU.symm⟩, Ent.mk' [some 0] (by kernel_rfl) ⟨AVE.refl _, AVE.refl _, AVE.refl _, AVE.int hLI, AVE.bool (decide_eq_decide.2 (by dsimp only; omega)), AVE.refl _, trivial⟩ (by (repeat' first | exact trivial | refine ⟨⟨_, rfl, ChE.refl _⟩, ?_⟩)), ?_⟩
            show mid - a' < b' - a'
            omega
    | true =>
      obtain ⟨ht1, ht2⟩ := ht rfl
      subst ht1
      obtain ⟨Lm, hLd⟩ : ∃ Lm : Int, Lm = ((lim' : Nat) : Int) := ⟨_, rfl⟩
      (conv => whnf); repeat ((first | (refine And.intro ?_ ?_; (focus ((repeat' (first | exact trivial | refine And.intro rfl ?_)); done))) | (refine And.intro ?_ ?_; (focus (first | omega | (dsimp -iota only; omega) | (simp -iota; omega) | (simp -iota; done) | decide)))); conv => whnf)
      rw [← hLd]
      have hLI : Lm = ((lm : Nat) : Int) := by rw [hLd, ht2]
      cases wp with
      | false =>
        refine AFn.use [0] (hpiv) (by kernel_rfl) rfl (by repeat' first | exact trivial | refine ⟨rfl, ?_⟩) fun _ => ?_
        (conv => whnf); repeat ((first | (refine And.intro ?_ ?_; (focus ((repeat' (first | exact trivial | refine And.intro rfl ?_)); done))) | (refine And.intro ?_ ?_; (focus (first | omega | (dsimp -iota only; omega) | (simp -iota; omega) | (simp -iota; done) | decide)))); conv => whnf)
        cases hint0 with
        | decreasing =>
          obtain ⟨hd1, hd2, hd3⟩ := hd rfl
          have hrv := hrev rfl
          (conv => whnf); repeat ((first | (refine And.intro ?_ ?_; (focus ((repeat' (first | exact trivial | refine And.intro rfl ?_)); done))) | (refine And.intro ?_ ?_; (focus (first | omega | (dsimp -iota only; omega) | (simp -iota; omega) | (simp -iota; done) | decide)))); conv => whnf)
          refine AFn.use [0] (hrv) (by kernel_rfl) rfl (by repeat' first | exact trivial | refine ⟨rfl, ?_⟩) fun _ => ?_
          (conv => whnf); repeat ((first | (refine And.intro ?_ ?_; (focus ((repeat' (first | exact trivial | refine And.intro rfl ?_)); done))) | (refine And.intro ?_ ?_; (focus (first | omega | (dsimp -iota only; omega) | (simp -iota; omega) | (simp -iota; done) | decide)))); conv => whnf)
          generalize hPd : (b' : Int) - 1 - ((pv : Int) - a') = P
          have hPI : P = ((pivot : Nat) : Int) := by omega
          have hpi := hpn (by first | rfl | (rw [hd3]; rfl))
          subst hpi
          dsimp only at hU s3 B3
          rw [if_neg (by decide)] at hU
          obtain ⟨D, hD⟩ : ∃ D, D = d2 := ⟨_, rfl⟩
          subst hD
          (conv => whnf); repeat ((first | (refine And.intro ?_ ?_; (focus ((repeat' (first | exact trivial | refine And.intro rfl ?_)); done))) | (refine And.intro ?_ ?_; (focus (first | omega | (dsimp -iota only; omega) | (simp -iota; omega) | (simp -iota; done) | decide)))); conv => whnf)
          (conv => whnf); repeat ((first | (refine And.intro ?_ ?_; (focus ((repeat' (first | exact trivial | refine And.intro rfl ?_)); done))) | (refine And.intro ?_ ?_; (focus (first | omega | (dsimp -iota only; omega) | (simp -iota; omega) | (simp -iota; done) | decide)))); conv => whnf)
          refine branchB_of (fun ga => ?_) (fun ga => ?_) <;> (first | replace ga := not_t ga | replace ga := not_f ga | skip) <;> (first | replace ga := of_decide_eq_true ga | replace ga := of_decide_eq_false ga | skip) <;> (first | replace ga := Classical.not_not.1 ga | skip) <;> (try dsimp only at ga)
          · have ia : ((a' : Int) - 1).toNat = a' - 1 := by omega
            have ip : P.toNat = pivot := by omega
            (conv => whnf); repeat ((first | (refine And.intro ?_ ?_; (focus ((repeat' (first | exact trivial | refine And.intro rfl ?_)); done))) | (refine And.intro ?_ ?_; (focus (first | omega | (dsimp -iota only; omega) | (simp -iota; omega) | (simp -iota; done) | decide)))); conv => whnf)
            refine AFn.use [] (less_ok _ _) (by kernel_rfl) rfl (by repeat' first | exact trivial | refine ⟨rfl, ?_⟩) fun _ => ?_
            (conv => whnf); repeat ((first | (refine And.intro ?_ ?_; (focus ((repeat' (first | exact trivial | refine And.intro rfl ?_)); done))) | (refine And.intro ?_ ?_; (focus (first | omega | (dsimp -iota only; omega) | (simp -iota; omega) | (simp -iota; done) | decide)))); conv => whnf)
            refine branchB_of (fun gl => ?_) (fun gl => ?_) <;> (first | replace gl := not_t gl | replace gl := not_f gl | skip) <;> (first | replace gl := of_decide_eq_true gl | replace gl := of_decide_eq_false gl | skip) <;> (first | replace gl := Classical.not_not.1 gl | skip) <;> (try dsimp only at gl)
            · have hc2 : (decide (a' > 0) && !nlt D[a' - 1]! D[pivot]!) = true := by simp only [ia, ip, Nat.zero_add] at gl; simp only [Bool.and_eq_true, decide_eq_true_eq]; exact ⟨by omega, by simpa [nlt] using gl⟩
              rw [if_pos hc2] at hU
              have hnl : nlt D[a' - 1]! D[pivot]! = false := by simp only [Bool.and_eq_true] at hc2; simpa using hc2.2
              have hpe := partEq_ok n D a' b' pivot (by omega) (by omega) hb' p1 p2 h1000
              generalize hE : partitionEqual nlt D a' b' pivot = E at hU hpe
              obtain ⟨mid, d4⟩ := E
              obtain ⟨m1, m2, m3, m4, _⟩ := round_eq nlt_swo (partitionEqual_holds nlt) (show 0 < a' by omega) p1 p2 (by rw [s3]; omega) B3 hnl hE
              dsimp only at hU hpe
              rw [if_pos ⟨m1, m2⟩] at hU
              (conv => whnf); repeat ((first | (refine And.intro ?_ ?_; (focus ((repeat' (first | exact trivial | refine And.intro rfl ?_)); done))) | (refine And.intro ?_ ?_; (focus (first | omega | (dsimp -iota only; omega) | (simp -iota; omega) | (simp -iota; done) | decide)))); conv => whnf)
              refine ACall.eqArgs (args' := [.row 0 1 0 n, AV.int .i64 a', AV.int .i64 b', AV.int .i64 (pivot : Nat)]) (show [AV.row 0 1 0 n, AV.int .i64 a', AV.int .i64 b', AV.int .i64 P] = [AV.row 0 1 0 n, AV.int .i64 a', AV.int .i64 b', AV.int .i64 (pivot : Nat)] by rw [hPI]) ?_
              refine AFn.use [0] (hpe) (by kernel_rfl) rfl (by repeat' first | exact trivial | refine ⟨rfl, ?_⟩) fun _ => ?_
              (conv => whnf); repeat ((first | (refine And.intro ?_ ?_; (focus ((repeat' (first | exact trivial | refine And.intro rfl ?_)); done))) | (refine And.intro ?_ ?_; (focus (first | omega | (dsimp -iota only; omega) | (simp -iota; omega) | (simp -iota; done) | decide)))); conv => whnf)
              refine ⟨⟨mid, b', lm, _, _, d4, by omega, by omega, hb', by omega, by omega, m4, hU.symm⟩, Ent.mk' [some 0] (by kernel_rfl) ⟨AVE.refl _, AVE.refl _, AVE.refl _, AVE.int hLI, AVE.refl _, AVE.refl _, trivial⟩ (by (repeat' first | exact trivial | refine ⟨⟨_, rfl, ChE.refl _⟩, ?_⟩)), ?_⟩
              show b' - mid < b' - a'
              omega
            · have hc2 : ¬ (decide (a' > 0) && !nlt D[a' - 1]! D[pivot]!) = true := by simp only [ia, ip, Nat.zero_add] at gl; simp only [Bool.and_eq_true]; exact fun h => by have := h.2; simp [nlt] at this; omega
              rw [if_neg hc2] at hU
              have hpt := part_ok n D a' b' pivot (by omega) (by omega) hb' p1 p2 h1000
              generalize hE : partition nlt D a' b' pivot = E at hU hpt
              obtain ⟨mid, ap, d4⟩ := E
              obtain ⟨m1, m2, m3, m4, m5, m6, m7⟩ := round_part nlt_swo (partition_holds nlt) p1 p2 (by rw [s3]; omega) B3 hE
              dsimp only at hU hpt
              rw [if_pos ⟨m1, m2⟩] at hU
              (conv => whnf); repeat ((first | (refine And.intro ?_ ?_; (focus ((repeat' (first | exact trivial | refine And.intro rfl ?_)); done))) | (refine And.intro ?_ ?_; (focus (first | omega | (dsimp -iota only; omega) | (simp -iota; omega) | (simp -iota; done) | decide)))); conv => whnf)
              refine ACall.eqArgs (args' := [.row 0 1 0 n, AV.int .i64 a', AV.int .i64 b', AV.int .i64 (pivot : Nat)]) (show [AV.row 0 1 0 n, AV.int .i64 a', AV.int .i64 b', AV.int .i64 P] = [AV.row 0 1 0 n, AV.int .i64 a', AV.int .i64 b', AV.int .i64 (pivot : Nat)] by rw [hPI]) ?_
              refine AFn.use [0] (hpt) (by kernel_rfl) rfl (by repeat' first | exact trivial | refine ⟨rfl, ?_⟩) fun _ => ?_
              (conv => whnf); repeat ((first | (refine And.intro ?_ ?_; (focus ((repeat' (first | exact trivial | refine And.intro rfl ?_)); done))) | (refine And.intro ?_ ?_; (focus (first | omega | (dsimp -iota only; omega) | (simp -iota; omega) | (simp -iota; done) | decide)))); conv => whnf)
              refine branchB_of (fun gs => ?_) (fun gs => ?_) <;> (first | replace gs := not_t gs | replace gs := not_f gs | skip) <;> (first | replace gs := of_decide_eq_true gs | replace gs := of_decide_eq_false gs | skip) <;> (first | replace gs := Classical.not_not.1 gs | skip) <;> (try dsimp only at gs)
              · rw [if_pos (by omega)] at hU
                have q := pdq_sorts nlt nlt_swo d4 a' mid lm true true m1 (by omega) m4
                have hrec := ih (mid - a') (by omega) d4 a' mid lm rfl (by omega) m1 (by omega) (by omega) m4
                obtain ⟨q1, q2⟩ := q
                have q3 := m6 _ q1 q2
                have q4 := q1.1
                generalize pdq nlt d4 a' mid lm true true = d5 at hU hrec q1 q2 q3 q4
                (conv => whnf); repeat ((first | (refine And.intro ?_ ?_; (focus ((repeat' (first | exact trivial | refine And.intro rfl ?_)); done))) | (refine And.intro ?_ ?_; (focus (first | omega | (dsimp -iota only; omega) | (simp -iota; omega) | (simp -iota; done) | decide)))); conv => whnf)
                refine ACall.eqArgs (args' := [.row 0 1 0 n, AV.int .i64 a', AV.int .i64 mid, AV.int .i64 (lm : Nat)]) (show [AV.row 0 1 0 n, AV.int .i64 a', AV.int .i64 mid, AV.int .i64 Lm] = [AV.row 0 1 0 n, AV.int .i64 a', AV.int .i64 mid, AV.int .i64 (lm : Nat)] by rw [hLI]) ?_
                refine AFn.use [0] (hrec) (by kernel_rfl) rfl (by repeat' first | exact trivial | refine ⟨rfl, ?_⟩) fun _ => ?_
                (conv => whnf); repeat ((first | (refine And.intro ?_ ?_; (focus ((repeat' (first | exact trivial | refine And.intro rfl ?_)); done))) | (refine And.intro ?_ ?_; (focus (first | omega | (dsimp -iota only; omega) | (simp -iota; omega) | (simp -iota; done) | decide)))); conv => whnf)
                refine ⟨⟨mid + 1, b', lm, _, _, d5, by omega, by omega, hb', by omega, by omega, q3.1, hU.symm⟩, Ent.mk' [some 0] (by kernel_rfl) ⟨AVE.refl _, AVE.int (by dsimp only; omega), AVE.refl _, AVE.int hLI, AVE.bool (decide_eq_decide.2 (by dsimp only; omega)), AVE.refl _, trivial⟩ (by (repeat' first | exact trivial | refine ⟨⟨_, rfl, ChE.refl _⟩, ?_⟩)), ?_⟩
                show b' - (mid + 1) < b' - a'
                omega
              · rw [if_neg (by omega)] at hU
                have q := pdq_sorts nlt nlt_swo d4 (mid + 1) b' lm true true (by omega) (by omega) m5
                have hrec := ih (b' - (mid + 1)) (by omega) d4 (mid + 1) b' lm rfl (by omega) (by omega) (by omega) (by omega) m5
                obtain ⟨q1, q2⟩ := q
                have q3 := m7 _ q1 q2
                have q4 := q1.1
                generalize pdq nlt d4 (mid + 1) b' lm true true = d5 at hU hrec q1 q2 q3 q4
                (conv => whnf); repeat ((first | (refine And.intro ?_ ?_; (focus ((repeat' (first | exact trivial | refine And.intro rfl ?_)); done))) | (refine And.intro ?_ ?_; (focus (first | omega | (dsimp -iota only; omega) | (simp -iota; omega) | (simp -iota; done) | decide)))); conv => whnf)
                refine ACall.eqArgs (args' := [.row 0 1 0 n, AV.int .i64 (mid + 1 : Nat), AV.int .i64 b', AV.int .i64 (lm : Nat)]) (show [AV.row 0 1 0 n, AV.int .i64 ((mid : Int) + 1), AV.int .i64 b', AV.int .i64 Lm] = [AV.row 0 1 0 n, AV.int .i64 (mid + 1 : Nat), AV.int .i64 b', AV.int .i64 (lm : Nat)] by rw [hLI]; rfl) ?_
                refine AFn.use [0] (hrec) (by kernel_rfl) rfl (by repeat' first | exact trivial | refine ⟨rfl, ?_⟩) fun _ => ?_
                (conv => whnf); repeat ((first | (refine And.intro ?_ ?_; (focus ((repeat' (first | exact trivial | refine And.intro rfl ?_)); done))) | (refine And.intro ?_ ?_; (focus (first | omega | (dsimp -iota only; omega) | (simp -iota; omega) | (simp -iota; done) | decide)))); conv => whnf)
                refine ⟨⟨a', mid, lm, _, _, d5, by omega, by omega, by omega, by omega, by omega, q3.1, hU.symm⟩, Ent.mk' [some 0] (by kernel_rfl) ⟨AVE.refl _, AVE.refl _, AVE.refl _, AVE.int hLI, AVE.bool (decide_eq_decide.2 (by dsimp only; omega)), AVE.refl _, trivial⟩ (by (repeat' first | exact trivial | refine ⟨⟨_, rfl, ChE.refl _⟩, ?_⟩)), ?_⟩
                show mid - a' < b' - a'
                omega
          · have hc2 : ¬ (decide (a' > 0) && !nlt D[a' - 1]! D[pivot]!) = true := by simp only [Bool.and_eq_true, decide_eq_true_eq]; exact fun h => by have := h.1; omega
            rw [if_neg hc2] at hU
            have hpt := part_ok n D a' b' pivot (by omega) (by omega) hb' p1 p2 h1000
            generalize hE : partition nlt D a' b' pivot = E at hU hpt
            obtain ⟨mid, ap, d4⟩ := E
            obtain ⟨m1, m2, m3, m4, m5, m6, m7⟩ := round_part nlt_swo (partition_holds nlt) p1 p2 (by rw [s3]; omega) B3 hE
            dsimp only at hU hpt
            rw [if_pos ⟨m1, m2⟩] at hU
            (conv => whnf); repeat ((first | (refine And.intro ?_ ?_; (focus ((repeat' (first | exact trivial | refine And.intro rfl ?_)); done))) | (refine And.intro ?_ ?_; (focus (first | omega | (dsimp -iota only; omega) | (simp -iota; omega) | (simp -iota; done) | decide)))); conv => whnf)
            refine ACall.eqArgs (args' := [.row 0 1 0 n, AV.int .i64 a', AV.int .i64 b', AV.int .i64 (pivot : Nat)]) (show [AV.row 0 1 0 n, AV.int .i64 a', AV.int .i64 b', AV.int .i64 P] = [AV.row 0 1 0 n, AV.int .i64 a', AV.int .i64 b', AV.int .i64 (pivot : Nat)] by rw [hPI]) ?_
            refine AFn.use [0] (hpt) (by kernel_rfl) rfl (by repeat' first | exact trivial | refine ⟨rfl, ?_⟩) fun _ => ?_
            (conv => whnf); repeat ((first | (refine And.intro ?_ ?_; (focus ((repeat' (first | exact trivial | refine And.intro rfl ?_)); done))) | (refine And.intro ?_ ?_; (focus (first | omega | (dsimp -iota only; omega) | (simp -iota; omega) | (simp -iota; done) | decide)))); conv => whnf)
            refine branchB_of (fun gs => ?_) (fun gs => ?_) <;> (first | replace gs := not_t gs | replace gs := not_f gs | skip) <;> (first | replace gs := of_decide_eq_true gs | replace gs := of_decide_eq_false gs | skip) <;> (first | replace gs := Classical.not_not.1 gs | skip) <;> (try dsimp only at gs)
            · rw [if_pos (by omega)] at hU
              have q := pdq_sorts nlt nlt_swo d4 a' mid lm true true m1 (by omega) m4
              have hrec := ih (mid - a') (by omega) d4 a' mid lm rfl (by omega) m1 (by omega) (by omega) m4
              obtain ⟨q1, q2⟩ := q
              have q3 := m6 _ q1 q2
              have q4 := q1.1
              generalize pdq nlt d4 a' mid lm true true = d5 at hU hrec q1 q2 q3 q4
              (conv => whnf); repeat ((first | (refine And.intro ?_ ?_; (focus ((repeat' (first | exact trivial | refine And.intro rfl ?_)); done))) | (refine And.intro ?_ ?_; (focus (first | omega | (dsimp -iota only; omega) | (simp -iota; omega) | (simp -iota; done) | decide)))); conv => whnf)
              refine ACall.eqArgs (args' := [.row 0 1 0 n, AV.int .i64 a', AV.int .i64 mid, AV.int .i64 (lm : Nat)]) (show [AV.row 0 1 0 n, AV.int .i64 a', AV.int .i64 mid, AV.int .i64 Lm] = [AV.row 0 1 0 n, AV.int .i64 a', AV.int .i64 mid, AV.int .i64 (lm : Nat)] by rw [hLI]) ?_
              refine AFn.use [0] (hrec) (by kernel_rfl) rfl (by repeat' first | exact trivial | refine ⟨rfl, ?_⟩) fun _ => ?_
              (conv => whnf); repeat ((first | (refine And.intro ?_ ?_; (focus ((repeat' (first | exact trivial | refine And.intro rfl ?_)); done))) | (refine And.intro ?_ ?_; (focus (first | omega | (dsimp -iota only; omega) | (simp -iota; omega) | (simp -iota; done) | decide)))); conv => whnf)
              refine ⟨⟨mid + 1, b', lm, _, _, d5, by omega, by omega, hb', by omega, by omega, q3.1, hU.symm⟩, Ent.mk' [some 0] (by kernel_rfl) ⟨AVE.refl _, AVE.int (by dsimp only; omega), AVE.refl _, AVE.int hLI, AVE.bool (decide_eq_decide.2 (by dsimp only; omega)), AVE.refl _, trivial⟩ (by (repeat' first | exact trivial | refine ⟨⟨_, rfl, ChE.refl _⟩, ?_⟩)), ?_⟩
              show b' - (mid + 1) < b' - a'
              omega
            · rw [if_neg (by omega)] at hU
              have q := pdq_sorts nlt nlt_swo d4 (mid + 1) b' lm true true (by omega) (by omega) m5
              have hrec := ih (b' - (mid + 1)) (by omega) d4 (mid + 1) b' lm rfl (by omega) (by omega) (by omega) (by omega) m5
              obtain ⟨q1, q2⟩ := q
              have q3 := m7 _ q1 q2
              have q4 := q1.1
              generalize pdq nlt d4 (mid + 1) b' lm true true = d5 at hU hrec q1 q2 q3 q4
              (conv => whnf); repeat ((first | (refine And.intro ?_ ?_; (focus ((repeat' (first | exact trivial | refine And.intro rfl ?_)); done))) | (refine And.intro ?_ ?_; (focus (first | omega | (dsimp -iota only; omega) | (simp -iota; omega) | (simp -iota; done) | decide)))); conv => whnf)
              refine ACall.eqArgs (args' := [.row 0 1 0 n, AV.int .i64 (mid + 1 : Nat), AV.int .i64 b', AV.int .i64 (lm : Nat)]) (show [AV.row 0 1 0 n, AV.int .i64 ((mid : Int) + 1), AV.int .i64 b', AV.int .i64 Lm] = [AV.row 0 1 0 n, AV.int .i64 (mid + 1 : Nat), AV.int .i64 b', AV.int .i64 (lm : Nat)] by rw [hLI]; rfl) ?_
              refine AFn.use [0] (hrec) (by kernel_rfl) rfl (by repeat' first | exact trivial | refine ⟨rfl, ?_⟩) fun _ => ?_
              (conv => whnf); repeat ((first | (refine And.intro ?_ ?_; (focus ((repeat' (first | exact trivial | refine And.intro rfl ?_)); done))) | (refine And.intro ?_ ?_; (focus (first | omega | (dsimp -iota only; omega) | (simp -iota; omega) | (simp -iota; done) | decide)))); conv => whnf)
              refine ⟨⟨a', mid, lm, _, _, d5, by omega, by omega, by omega, by omega, by omega, q3.1, hU.symm⟩, Ent.mk' [some 0] (by kernel_rfl) ⟨AVE.refl _, AVE.refl _, AVE.refl _, AVE.int hLI, AVE.bool (decide_eq_decide.2 (by dsimp only; omega)), AVE.refl _, trivial⟩ (by (repeat' first | exact trivial | refine ⟨⟨_, rfl, ChE.refl _⟩, ?_⟩)), ?_⟩
              show mid - a' < b' - a'
              omega
        | increasing =>
          obtain ⟨hd1, hd2, hd3⟩ := hnd (by decide)
          subst hd1
          obtain ⟨P, hPd⟩ : ∃ P : Int, P = ((pv : Nat) : Int) := ⟨_, rfl⟩
          (conv => whnf); repeat ((first | (refine And.intro ?_ ?_; (focus ((repeat' (first | exact trivial | refine And.intro rfl ?_)); done))) | (refine And.intro ?_ ?_; (focus (first | omega | (dsimp -iota only; omega) | (simp -iota; omega) | (simp -iota; done) | decide)))); conv => whnf)
          rw [← hPd]
          have hPI : P = ((pivot : Nat) : Int) := by rw [hPd, hd2]
          have hpi := hpn (by first | rfl | (rw [hd3]; rfl))
          subst hpi
          dsimp only at hU s3 B3
          rw [if_neg (by decide)] at hU
          obtain ⟨D, hD⟩ : ∃ D, D = d2 := ⟨_, rfl⟩
          subst hD
          (conv => whnf); repeat ((first | (refine And.intro ?_ ?_; (focus ((repeat' (first | exact trivial | refine And.intro rfl ?_)); done))) | (refine And.intro ?_ ?_; (focus (first | omega | (dsimp -iota only; omega) | (simp -iota; omega) | (simp -iota; done) | decide)))); conv => whnf)
          (conv => whnf); repeat ((first | (refine And.intro ?_ ?_; (focus ((repeat' (first | exact trivial | refine And.intro rfl ?_)); done))) | (refine And.intro ?_ ?_; (focus (first | omega | (dsimp -iota only; omega) | (simp -iota; omega) | (simp -iota; done) | decide)))); conv => whnf)
          refine branchB_of (fun ga => ?_) (fun ga => ?_) <;> (first | replace ga := not_t ga | replace ga := not_f ga | skip) <;> (first | replace ga := of_decide_eq_true ga | replace ga := of_decide_eq_false ga | skip) <;> (first | replace ga := Classical.not_not.1 ga | skip) <;> (try dsimp only at ga)
          · have ia : ((a' : Int) - 1).toNat = a' - 1 := by omega
            have ip : P.toNat = pivot := by omega
            (conv => whnf); repeat ((first | (refine And.intro ?_ ?_; (focus ((repeat' (first | exact trivial | refine And.intro rfl ?_)); done))) | (refine And.intro ?_ ?_; (focus (first | omega | (dsimp -iota only; omega) | (simp -iota; omega) | (simp -iota; done) | decide)))); conv => whnf)
            refine AFn.use [] (less_ok _ _) (by kernel_rfl) rfl (by repeat' first | exact trivial | refine ⟨rfl, ?_⟩) fun _ => ?_
            (conv => whnf); repeat ((first | (refine And.intro ?_ ?_; (focus ((repeat' (first | exact trivial | refine And.intro rfl ?_)); done))) | (refine And.intro ?_ ?_; (focus (first | omega | (dsimp -iota only; omega) | (simp -iota; omega) | (simp -iota; done) | decide)))); conv => whnf)
            refine branchB_of (fun gl => ?_) (fun gl => ?_) <;> (first | replace gl := not_t gl | replace gl := not_f gl | skip) <;> (first | replace gl := of_decide_eq_true gl | replace gl := of_decide_eq_false gl | skip) <;> (first | replace gl := Classical.not_not.1 gl | skip) <;> (try dsimp only at gl)
            · have hc2 : (decide (a' > 0) && !nlt D[a' - 1]! D[pivot]!) = true := by simp only [ia, ip, Nat.zero_add] at gl; simp only [Bool.and_eq_true, decide_eq_true_eq]; exact ⟨by omega, by simpa [nlt] using gl⟩
              rw [if_pos hc2] at hU
              have hnl : nlt D[a' - 1]! D[pivot]! = false := by simp only [Bool.and_eq_true] at hc2; simpa using hc2.2
              have hpe := partEq_ok n D a' b' pivot (by omega) (by omega) hb' p1 p2 h1000
              generalize hE : partitionEqual nlt D a' b' pivot = E at hU hpe
              obtain ⟨mid, d4⟩ := E
              obtain ⟨m1, m2, m3, m4, _⟩ := round_eq nlt_swo (partitionEqual_holds nlt) (show 0 < a' by omega) p1 p2 (by rw [s3]; omega) B3 hnl hE
              dsimp only at hU hpe
              rw [if_pos ⟨m1, m2⟩] at hU
              (conv => whnf); repeat ((first | (refine And.intro ?_ ?_; (focus ((repeat' (first | exact trivial | refine And.intro rfl ?_)); done))) | (refine And.intro ?_ ?_; (focus (first | omega | (dsimp -iota only; omega) | (simp -iota; omega) | (simp -iota; done) | decide)))); conv => whnf)
              refine ACall.eqArgs (args' := [.row 0 1 0 n, AV.int .i64 a', AV.int .i64 b', AV.int .i64 (pivot : Nat)]) (show [AV.row 0 1 0 n, AV.int .i64 a', AV.int .i64 b', AV.int .i64 P] = [AV.row 0 1 0 n, AV.int .i64 a', AV.int .i64 b', AV.int .i64 (pivot : Nat)] by rw [hPI]) ?_
              refine AFn.use [0] (hpe) (by kernel_rfl) rfl (by repeat' first | exact trivial | refine ⟨rfl, ?_⟩) fun _ => ?_
              (conv => whnf); repeat ((first | (refine And.intro ?_ ?_; (focus ((repeat' (first | exact trivial | refine And.intro rfl ?_)); done))) | (refine And.intro ?_ ?_; (focus (first | omega | (dsimp -iota only; omega) | (simp -iota; omega) | (simp -iota; done) | decide)))); conv => whnf)
              refine ⟨⟨mid, b', lm, _, _, d4, by omega, by omega, hb', by omega, by omega, m4, hU.symm⟩, Ent.mk' [some 0] (by kernel_rfl) ⟨AVE.refl _, AVE.refl _, AVE.refl _, AVE.int hLI, AVE.refl _, AVE.refl _, trivial⟩ (by (repeat' first | exact trivial | refine ⟨⟨_, rfl, ChE.refl _⟩, ?_⟩)), ?_⟩
              show b' - mid < b' - a'
              omega
            · have hc2 : ¬ (decide (a' > 0) && !nlt D[a' - 1]! D[pivot]!) = true := by simp only [ia, ip, Nat.zero_add] at gl; simp only [Bool.and_eq_true]; exact fun h => by have := h.2; simp [nlt] at this; omega
              rw [if_neg hc2] at hU
              have hpt := part_ok n D a' b' pivot (by omega) (by omega) hb' p1 p2 h1000
              generalize hE : partition nlt D a' b' pivot = E at hU hpt
              obtain ⟨mid, ap, d4⟩ := E
              obtain ⟨m1, m2, m3, m4, m5, m6, m7⟩ := round_part nlt_swo (partition_holds nlt) p1 p2 (by rw [s3]; omega) B3 hE
              dsimp only at hU hpt
              rw [if_pos ⟨m1, m2⟩] at hU
              (conv => whnf); repeat ((first | (refine And.intro ?_ ?_; (focus ((repeat' (first | exact trivial | refine And.intro rfl ?_)); done))) | (refine And.intro ?_ ?_; (focus (first | omega | (dsimp -iota only; omega) | (simp -iota; omega) | (simp -iota; done) | decide)))); conv => whnf)
              refine ACall.eqArgs (args' := [.row 0 1 0 n, AV.int .i64 a', AV.int .i64 b', AV.int .i64 (pivot : Nat)]) (show [AV.row 0 1 0 n, AV.int .i64 a', AV.int .i64 b', AV.int .i64 P] = [AV.row 0 1 0 n, AV.int .i64 a', AV.int .i64 b', AV.int .i64 (pivot : Nat)] by rw [hPI]) ?_
              refine AFn.use [0] (hpt) (by kernel_rfl) rfl (by repeat' first | exact trivial | refine ⟨rfl, ?_⟩) fun _ => ?_
              (conv => whnf); repeat ((first | (refine And.intro ?_ ?_; (focus ((repeat' (first | exact trivial | refine And.intro rfl ?_)); done))) | (refine And.intro ?_ ?_; (focus (first | omega | (dsimp -iota only; omega) | (simp -iota; omega) | (simp -iota; done) | decide)))); conv => whnf)
              refine branchB_of (fun gs => ?_) (fun gs => ?_) <;> (first | replace gs := not_t gs | replace gs := not_f gs | skip) <;> (first | replace gs := of_decide_eq_true gs | replace gs := of_decide_eq_false gs | skip) <;> (first | replace gs := Classical.not_not.1 gs | skip) <;> (try dsimp only at gs)
              · rw [if_pos (by omega)] at hU
                have q := pdq_sorts nlt nlt_swo d4 a' mid lm true true m1 (by omega) m4
                have hrec := ih (mid - a') (by omega) d4 a' mid lm rfl (by omega) m1 (by omega) (by omega) m4
                obtain ⟨q1, q2⟩ := q
                have q3 := m6 _ q1 q2
                have q4 := q1.1
                generalize pdq nlt d4 a' mid lm true true = d5 at hU hrec q1 q2 q3 q4
                (conv => whnf); repeat ((first | (refine And.intro ?_ ?_; (focus ((repeat' (first | exact trivial | refine And.intro rfl ?_)); done))) | (refine And.intro ?_ ?_; (focus (first | omega | (dsimp -iota only; omega) | (simp -iota; omega) | (simp -iota; done) | decide)))); conv => whnf)
                refine ACall.eqArgs (args' := [.row 0 1 0 n, AV.int .i64 a', AV.int .i64 mid, AV.int .i64 (lm : Nat)]) (show [AV.row 0 1 0 n, AV.int .i64 a', AV.int .i64 mid, AV.int .i64 Lm] = [AV.row 0 1 0 n, AV.int .i64 a', AV.int .i64 mid, AV.int .i64 (lm : Nat)] by rw [hLI]) ?_
                refine AFn.use [0] (hrec) (by kernel_rfl) rfl (by repeat' first | exact trivial | refine ⟨rfl, ?_⟩) fun _ => ?_
                (conv => whnf); repeat ((first | (refine And.intro ?_ ?_; (focus ((repeat' (first | exact trivial | refine And.intro rfl ?_)); done))) | (refine And.intro ?_ ?_; (focus (first | omega | (dsimp -iota only; omega) | (simp -iota; omega) | (simp -iota; done) | decide)))); conv => whnf)
                refine ⟨⟨mid + 1, b', lm, _, _, d5, by omega, by omega, hb', by omega, by omega, q3.1, hU.symm⟩, Ent.mk' [some 0] (by kernel_rfl) ⟨AVE.refl _, AVE.int (by dsimp only; omega), AVE.refl _, AVE.int hLI, AVE.bool (decide_eq_decide.2 (by dsimp only; omega)), AVE.refl _, trivial⟩ (by (repeat' first | exact trivial | refine ⟨⟨_, rfl, ChE.refl _⟩, ?_⟩)), ?_⟩
                show b' - (mid + 1) < b' - a'
                omega
              · rw [if_neg (by omega)] at hU
                have q := pdq_sorts nlt nlt_swo d4 (mid + 1) b' lm true true (by omega) (by omega) m5
                have hrec := ih (b' - (mid + 1)) (by omega) d4 (mid + 1) b' lm rfl (by omega) (by omega) (by omega) (by omega) m5
                obtain ⟨q1, q2⟩ := q
                have q3 := m7 _ q1 q2
                have q4 := q1.1
                generalize pdq nlt d4 (mid + 1) b' lm true true = d5 at hU hrec q1 q2 q3 q4
                (conv => whnf); repeat ((first | (refine And.intro ?_ ?_; (focus ((repeat' (first | exact trivial | refine And.intro rfl ?_)); done))) | (refine And.intro ?_ ?_; (focus (first | omega | (dsimp -iota only; omega) | (simp -iota; omega) | (simp -iota; done) | decide)))); conv => whnf)
                refine ACall.eqArgs (args' := [.row 0 1 0 n, AV.int .i64 (mid + 1 : Nat), AV.int .i64 b', AV.int .i64 (lm : Nat)]) (show [AV.row 0 1 0 n, AV.int .i64 ((mid : Int) + 1), AV.int .i64 b', AV.int .i64 Lm] = [AV.row 0 1 0 n, AV.int .i64 (mid + 1 : Nat), AV.int .i64 b', AV.int .i64 (lm : Nat)] by rw [hLI]; rfl) ?_
                refine AFn.use [0] (hrec) (by kernel_rfl) rfl (by repeat' first | exact trivial | refine ⟨rfl, ?_⟩) fun _ => ?_
                (conv => whnf); repeat ((first | (refine And.intro ?_ ?_; (focus ((repeat' (first | exact trivial | refine And.intro rfl ?_)); done))) | (refine And.intro ?_ ?_; (focus (first | omega | (dsimp -iota only; omega) | (simp -iota; omega) | (simp -iota; done) | decide)))); conv => whnf)
                refine ⟨⟨a', mid, lm, _, _, d5, by omega, by omega, by omega, by omega, by omega, q3.1, hU.symm⟩, Ent.mk' [some 0] (by kernel_rfl) ⟨AVE.refl _, AVE.refl _, AVE.refl _, AVE.int hLI, AVE.bool (decide_eq_decide.2 (by dsimp only; omega)), AVE.refl _, trivial⟩ (by (repeat' first | exact trivial | refine ⟨⟨_, rfl, ChE.refl _⟩, ?_⟩)), ?_⟩
                show mid - a' < b' - a'
                omega
          · have hc2 : ¬ (decide (a' > 0) && !nlt D[a' - 1]! D[pivot]!) = true := by simp only [Bool.and_eq_true, decide_eq_true_eq]; exact fun h => by have := h.1; omega
            rw [if_neg hc2] at hU
            have hpt := part_ok n D a' b' pivot (by omega) (by omega) hb' p1 p2 h1000
            generalize hE : partition nlt D a' b' pivot = E at hU hpt
            obtain ⟨mid, ap, d4⟩ := E
            obtain ⟨m1, m2, m3, m4, m5, m6, m7⟩ := round_part nlt_swo (partition_holds nlt) p1 p2 (by rw [s3]; omega) B3 hE
            dsimp only at hU hpt
            rw [if_pos ⟨m1, m2⟩] at hU
            (conv => whnf); repeat ((first | (refine And.intro ?_ ?_; (focus ((repeat' (first | exact trivial | refine And.intro rfl ?_)); done))) | (refine And.intro ?_ ?_; (focus (first | omega | (dsimp -iota only; omega) | (simp -iota; omega) | (simp -iota; done) | decide)))); conv => whnf)
            refine ACall.eqArgs (args' := [.row 0 1 0 n, AV.int .i64 a', AV.int .i64 b', AV.int .i64 (pivot : Nat)]) (show [AV.row 0 1 0 n, AV.int .i64 a', AV.int .i64 b', AV.int .i64 P] = [AV.row 0 1 0 n, AV.int .i64 a', AV.int .i64 b', AV.int .i64 (pivot : Nat)] by rw [hPI]) ?_
            refine AFn.use [0] (hpt) (by kernel_rfl) rfl (by repeat' first | exact trivial | refine ⟨rfl, ?_⟩) fun _ => ?_
            (conv => whnf); repeat ((first | (refine And.intro ?_ ?_; (focus ((repeat' (first | exact trivial | refine And.intro rfl ?_)); done))) | (refine And.intro ?_ ?_; (focus (first | omega | (dsimp -iota only; omega) | (simp -iota; omega) | (simp -iota; done) | decide)))); conv => whnf)
            refine branchB_of (fun gs => ?_) (fun gs => ?_) <;> (first | replace gs := not_t gs | replace gs := not_f gs | skip) <;> (first | replace gs := of_decide_eq_true gs | replace gs := of_decide_eq_false gs | skip) <;> (first | replace gs := Classical.not_not.1 gs | skip) <;> (try dsimp only at gs)
            · rw [if_pos (by omega)] at hU
              have q := pdq_sorts nlt nlt_swo d4 a' mid lm true true m1 (by omega) m4
              have hrec := ih (mid - a') (by omega) d4 a' mid lm rfl (by omega) m1 (by omega) (by omega) m4
              obtain ⟨q1, q2⟩ := q
              have q3 := m6 _ q1 q2
              have q4 := q1.1
              generalize pdq nlt d4 a' mid lm true true = d5 at hU hrec q1 q2 q3 q4
              (conv => whnf); repeat ((first | (refine And.intro ?_ ?_; (focus ((repeat' (first | exact trivial | refine And.intro rfl ?_)); done))) | (refine And.intro ?_ ?_; (focus (first | omega | (dsimp -iota only; omega) | (simp -iota; omega) | (simp -iota; done) | decide)))); conv => whnf)
              refine ACall.eqArgs (args' := [.row 0 1 0 n, AV.int .i64 a', AV.int .i64 mid, AV.int .i64 (lm : Nat)]) (show [AV.row 0 1 0 n, AV.int .i64 a', AV.int .i64 mid, AV.int .i64 Lm] = [AV.row 0 1 0 n, AV.int .i64 a', AV.int .i64 mid, AV.int .i64 (lm : Nat)] by rw [hLI]) ?_
              refine AFn.use [0] (hrec) (by kernel_rfl) rfl (by repeat' first | exact trivial | refine ⟨rfl, ?_⟩) fun _ => ?_
              (conv => whnf); repeat ((first | (refine And.intro ?_ ?_; (focus ((repeat' (first | exact trivial | refine And.intro rfl ?_)); done))) | (refine And.intro ?_ ?_; (focus (first | omega | (dsimp -iota only; omega) | (simp -iota; omega) | (simp -iota; done) | decide)))); conv => whnf)
              refine ⟨⟨mid + 1, b', lm, _, _, d5, by omega, by omega, hb', by omega, by omega, q3.1, hU.symm⟩, Ent.mk' [some 0] (by kernel_rfl) ⟨AVE.refl _, AVE.int (by dsimp only; omega), AVE.refl _, AVE.int hLI, AVE.bool (decide_eq_decide.2 (by dsimp only; omega)), AVE.refl _, trivial⟩ (by (repeat' first | exact trivial | refine ⟨⟨_, rfl, ChE.refl _⟩, ?_⟩)), ?_⟩
              show b' - (mid + 1) < b' - a'
              omega
            · rw [if_neg (by omega)] at hU
              have q := pdq_sorts nlt nlt_swo d4 (mid + 1) b' lm true true (by omega) (by omega) m5
              have hrec := ih (b' - (mid + 1)) (by omega) d4 (mid + 1) b' lm rfl (by omega) (by omega) (by omega) (by omega) m5
              obtain ⟨q1, q2⟩ := q
              have q3 := m7 _ q1 q2
              have q4 := q1.1
              generalize pdq nlt d4 (mid + 1) b' lm true true = d5 at hU hrec q1 q2 q3 q4
              (conv => whnf); repeat ((first | (refine And.intro ?_ ?_; (focus ((repeat' (first | exact trivial | refine And.intro rfl ?_)); done))) | (refine And.intro ?_ ?_; (focus (first | omega | (dsimp -iota only; omega) | (simp -iota; omega) | (simp -iota; done) | decide)))); conv => whnf)
              refine ACall.eqArgs (args' := [.row 0 1 0 n, AV.int .i64 (mid + 1 : Nat), AV.int .i64 b', AV.int .i64 (lm : Nat)]) (show [AV.row 0 1 0 n, AV.int .i64 ((mid : Int) + 1), AV.int .i64 b', AV.int .i64 Lm] = [AV.row 0 1 0 n, AV.int .i64 (mid + 1 : Nat), AV.int .i64 b', AV.int .i64 (lm : Nat)] by rw [hLI]; rfl) ?_
              refine AFn.use [0] (hrec) (by kernel_rfl) rfl (by repeat' first | exact trivial | refine ⟨rfl, ?_⟩) fun _ => ?_
              (conv => whnf); repeat ((first | (refine And.intro ?_ ?_; (focus ((repeat' (first | exact trivial | refine And.intro rfl ?_)); done))) | (refine And.intro ?_ ?_; (focus (first | omega | (dsimp -iota only; omega) | (simp -iota; omega) | (simp -iota; done) | decide)))); conv => whnf)
              refine ⟨⟨a', mid, lm, _, _, d5, by omega, by omega, by omega, by omega, by omega, q3.1, hU.symm⟩, Ent.mk' [some 0] (by kernel_rfl) ⟨AVE.refl _, AVE.refl _, AVE.refl _, AVE.int hLI, AVE.bool (decide_eq_decide.2 (by dsimp only; omega)), AVE.refl _, trivial⟩ (by (repeat' first | exact trivial | refine ⟨⟨_, rfl, ChE.refl _⟩, ?_⟩)), ?_⟩
              show mid - a' < b' - a'
              omega
        | unknown =>
          obtain ⟨hd1, hd2, hd3⟩ := hnd (by decide)
          subst hd1
          obtain ⟨P, hPd⟩ : ∃ P : Int, P = ((pv : Nat) : Int) := ⟨_, rfl⟩
          (conv => whnf); repeat ((first | (refine And.intro ?_ ?_; (focus ((repeat' (first | exact trivial | refine And.intro rfl ?_)); done))) | (refine And.intro ?_ ?_; (focus (first | omega | (dsimp -iota only; omega) | (simp -iota; omega) | (simp -iota; done) | decide)))); conv => whnf)
          rw [← hPd]
          have hPI : P = ((pivot : Nat) : Int) := by rw [hPd, hd2]
          have hpi := hpn (by first | rfl | (rw [hd3]; rfl))
          subst hpi
          dsimp only at hU s3 B3
          rw [if_neg (by decide)] at hU
          obtain ⟨D, hD⟩ : ∃ D, D = d2 := ⟨_, rfl⟩
          subst hD
          (conv => whnf); repeat ((first | (refine And.intro ?_ ?_; (focus ((repeat' (first | exact trivial | refine And.intro rfl ?_)); done))) | (refine And.intro ?_ ?_; (focus (first | omega | (dsimp -iota only; omega) | (simp -iota; omega) | (simp -iota; done) | decide)))); conv => whnf)
          (conv => whnf); repeat ((first | (refine And.intro ?_ ?_; (focus ((repeat' (first | exact trivial | refine And.intro rfl ?_)); done))) | (refine And.intro ?_ ?_; (focus (first | omega | (dsimp -iota only; omega) | (simp -iota; omega) | (simp -iota; done) | decide)))); conv => whnf)
          refine branchB_of (fun ga => ?_) (fun ga => ?_) <;> (first | replace ga := not_t ga | replace ga := not_f ga | skip) <;> (first | replace ga := of_decide_eq_true ga | replace ga := of_decide_eq_false ga | skip) <;> (first | replace ga := Classical.not_not.1 ga | skip) <;> (try dsimp only at ga)
          · have ia : ((a' : Int) - 1).toNat = a' - 1 := by omega
            have ip : P.toNat = pivot := by omega
            (conv => whnf); repeat ((first | (refine And.intro ?_ ?_; (focus ((repeat' (first | exact trivial | refine And.intro rfl ?_)); done))) | (refine And.intro ?_ ?_; (focus (first | omega | (dsimp -iota only; omega) | (simp -iota; omega) | (simp -iota; done) | decide)))); conv => whnf)
            refine AFn.use [] (less_ok _ _) (by kernel_rfl) rfl (by repeat' first | exact trivial | refine ⟨rfl, ?_⟩) fun _ => ?_
            (conv => whnf); repeat ((first | (refine And.intro ?_ ?_; (focus ((repeat' (first | exact trivial | refine And.intro rfl ?_)); done))) | (refine And.intro ?_ ?_; (focus (first | omega | (dsimp -iota only; omega) | (simp -iota; omega) | (simp -iota; done) | decide)))); conv => whnf)
            refine branchB_of (fun gl => ?_) (fun gl => ?_) <;> (first | replace gl := not_t gl | replace gl := not_f gl | skip) <;> (first | replace gl := of_decide_eq_true gl | replace gl := of_decide_eq_false gl | skip) <;> (first | replace gl := Classical.not_not.1 gl | skip) <;> (try dsimp only at gl)
            · have hc2 : (decide (a' > 0) && !nlt D[a' - 1]! D[pivot]!) = true := by simp only [ia, ip, Nat.zero_add] at gl; simp only [Bool.and_eq_true, decide_eq_true_eq]; exact ⟨by omega, by simpa [nlt] using gl⟩
              rw [if_pos hc2] at hU
              have hnl : nlt D[a' - 1]! D[pivot]! = false := by simp only [Bool.and_eq_true] at hc2; simpa using hc2.2
              have hpe := partEq_ok n D a' b' pivot (by omega) (by omega) hb' p1 p2 h1000
              generalize hE : partitionEqual nlt D a' b' pivot = E at hU hpe
              obtain ⟨mid, d4⟩ := E
              obtain ⟨m1, m2, m3, m4, _⟩ := round_eq nlt_swo (partitionEqual_holds nlt) (show 0 < a' by omega) p1 p2 (by rw [s3]; omega) B3 hnl hE
              dsimp only at hU hpe
              rw [if_pos ⟨m1, m2⟩] at hU
              (conv => whnf); repeat ((first | (refine And.intro ?_ ?_; (focus ((repeat' (first | exact trivial | refine And.intro rfl ?_)); done))) | (refine And.intro ?_ ?_; (focus (first | omega | (dsimp -iota only; omega) | (simp -iota; omega) | (simp -iota; done) | decide)))); conv => whnf)
              refine ACall.eqArgs (args' := [.row 0 1 0 n, AV.int .i64 a', AV.int .i64 b', AV.int .i64 (pivot : Nat)]) (show [AV.row 0 1 0 n, AV.int .i64 a', AV.int .i64 b', AV.int .i64 P] = [AV.row 0 1 0 n, AV.int .i64 a', AV.int .i64 b', AV.int .i64 (pivot : Nat)] by rw [hPI]) ?_
              refine AFn.use [0] (hpe) (by kernel_rfl) rfl (by repeat' first | exact trivial | refine ⟨rfl, ?_⟩) fun _ => ?_
              (conv => whnf); repeat ((first | (refine And.intro ?_ ?_; (focus ((repeat' (first | exact trivial | refine And.intro rfl ?_)); done))) | (refine And.intro ?_ ?_; (focus (first | omega | (dsimp -iota only; omega) | (simp -iota; omega) | (simp -iota; done) | decide)))); conv => whnf)
              refine ⟨⟨mid, b', lm, _, _, d4, by omega, by omega, hb', by omega, by omega, m4, hU.symm⟩, Ent.mk' [some 0] (by kernel_rfl) ⟨AVE.refl _, AVE.refl _, AVE.refl _, AVE.int hLI, AVE.refl _, AVE.refl _, trivial⟩ (by (repeat' first | exact trivial | refine ⟨⟨_, rfl, ChE.refl _⟩, ?_⟩)), ?_⟩
              show b' - mid < b' - a'
              omega
            · have hc2 : ¬ (decide (a' > 0) && !nlt D[a' - 1]! D[pivot]!) = true := by simp only [ia, ip, Nat.zero_add] at gl; simp only [Bool.and_eq_true]; exact fun h => by have := h.2; simp [nlt] at this; omega
              rw [if_neg hc2] at hU
              have hpt := part_ok n D a' b' pivot (by omega) (by omega) hb' p1 p2 h1000
              generalize hE : partition nlt D a' b' pivot = E at hU hpt
              obtain ⟨mid, ap, d4⟩ := E
              obtain ⟨m1, m2, m3, m4, m5, m6, m7⟩ := round_part nlt_swo (partition_holds nlt) p1 p2 (by rw [s3]; omega) B3 hE
              dsimp only at hU hpt
              rw [if_pos ⟨m1, m2⟩] at hU
              (conv => whnf); repeat ((first | (refine And.intro ?_ ?_; (focus ((repeat' (first | exact trivial | refine And.intro rfl ?_)); done))) | (refine And.intro ?_ ?_; (focus (first | omega | (dsimp -iota only; omega) | (simp -iota; omega) | (simp -iota; done) | decide)))); conv => whnf)
              refine ACall.eqArgs (args' := [.row 0 1 0 n, AV.int .i64 a', AV.int .i64 b', AV.int .i64 (pivot : Nat)]) (show [AV.row 0 1 0 n, AV.int .i64 a', AV.int .i64 b', AV.int .i64 P] = [AV.row 0 1 0 n, AV.int .i64 a', AV.int .i64 b', AV.int .i64 (pivot : Nat)] by rw [hPI]) ?_
              refine AFn.use [0] (hpt) (by kernel_rfl) rfl (by repeat' first | exact trivial | refine ⟨rfl, ?_⟩) fun _ => ?_
              (conv => whnf); repeat ((first | (refine And.intro ?_ ?_; (focus ((repeat' (first | exact trivial | refine And.intro rfl ?_)); done))) | (refine And.intro ?_ ?_; (focus (first | omega | (dsimp -iota only; omega) | (simp -iota; omega) | (simp -iota; done) | decide)))); conv => whnf)
              refine branchB_of (fun gs => ?_) (fun gs => ?_) <;> (first | replace gs := not_t gs | replace gs := not_f gs | skip) <;> (first | replace gs := of_decide_eq_true gs | replace gs := of_decide_eq_false gs | skip) <;> (first | replace gs := Classical.not_not.1 gs | skip) <;> (try dsimp only at gs)
              · rw [if_pos (by omega)] at hU
                have q := pdq_sorts nlt nlt_swo d4 a' mid lm true true m1 (by omega) m4
                have hrec := ih (mid - a') (by omega) d4 a' mid lm rfl (by omega) m1 (by omega) (by omega) m4
                obtain ⟨q1, q2⟩ := q
                have q3 := m6 _ q1 q2
                have q4 := q1.1
                generalize pdq nlt d4 a' mid lm true true = d5 at hU hrec q1 q2 q3 q4
                (conv => whnf); repeat ((first | (refine And.intro ?_ ?_; (focus ((repeat' (first | exact trivial | refine And.intro rfl ?_)); done))) | (refine And.intro ?_ ?_; (focus (first | omega | (dsimp -iota only; omega) | (simp -iota; omega) | (simp -iota; done) | decide)))); conv => whnf)
                refine ACall.eqArgs (args' := [.row 0 1 0 n, AV.int .i64 a', AV.int .i64 mid, AV.int .i64 (lm : Nat)]) (show [AV.row 0 1 0 n, AV.int .i64 a', AV.int .i64 mid, AV.int .i64 Lm] = [AV.row 0 1 0 n, AV.int .i64 a', AV.int .i64 mid, AV.int .i64 (lm : Nat)] by rw [hLI]) ?_
                refine AFn.use [0] (hrec) (by kernel_rfl) rfl (by repeat' first | exact trivial | refine ⟨rfl, ?_⟩) fun _ => ?_
                (conv => whnf); repeat ((first | (refine And.intro ?_ ?_; (focus ((repeat' (first | exact trivial | refine And.intro rfl ?_)); done))) | (refine And.intro ?_ ?_; (focus (first | omega | (dsimp -iota only; omega) | (simp -iota; omega) | (simp -iota; done) | decide)))); conv => whnf)
                refine ⟨⟨mid + 1, b', lm, _, _, d5, by omega, by omega, hb', by omega, by omega, q3.1, hU.symm⟩, Ent.mk' [some 0] (by kernel_rfl) ⟨AVE.refl _, AVE.int (by dsimp only; omega), AVE.refl _, AVE.int hLI, AVE.bool (decide_eq_decide.2 (by dsimp only; omega)), AVE.refl _, trivial⟩ (by (repeat' first | exact trivial | refine ⟨⟨_, rfl, ChE.refl _⟩, ?_⟩)), ?_⟩
                show b' - (mid + 1) < b' - a'
                omega
              · rw [if_neg (by omega)] at hU
                have q := pdq_sorts nlt nlt_swo d4 (mid + 1) b' lm true true (by omega) (by omega) m5
                have hrec := ih (b' - (mid + 1)) (by omega) d4 (mid + 1) b' lm rfl (by omega) (by omega) (by omega) (by omega) m5
                obtain ⟨q1, q2⟩ := q
                have q3 := m7 _ q1 q2
                have q4 := q1.1
                generalize pdq nlt d4 (mid + 1) b' lm true true = d5 at hU hrec q1 q2 q3 q4
                (conv => whnf); repeat ((first | (refine And.intro ?_ ?_; (focus ((repeat' (first | exact trivial | refine And.intro rfl ?_)); done))) | (refine And.intro ?_ ?_; (focus (first | omega | (dsimp -iota only; omega) | (simp -iota; omega) | (simp -iota; done) | decide)))); conv => whnf)
                refine ACall.eqArgs (args' := [.row 0 1 0 n, AV.int .i64 (mid + 1 : Nat), AV.int .i64 b', AV.int .i64 (lm : Nat)]) (show [AV.row 0 1 0 n, AV.int .i64 ((mid : Int) + 1), AV.int .i64 b', AV.int .i64 Lm] = [AV.row 0 1 0 n, AV.int .i64 (mid + 1 : Nat), AV.int .i64 b', AV.int .i64 (lm : Nat)] by rw [hLI]; rfl) ?_
                refine AFn.use [0] (hrec) (by kernel_rfl) rfl (by repeat' first | exact trivial | refine ⟨rfl, ?_⟩) fun _ => ?_
                (conv => whnf); repeat ((first | (refine And.intro ?_ ?_; (focus ((repeat' (first | exact trivial | refine And.intro rfl ?_)); done))) | (refine And.intro ?_ ?_; (focus (first | omega | (dsimp -iota only; omega) | (simp -iota; omega) | (simp -iota; done) | decide)))); conv => whnf)
                refine ⟨⟨a', mid, lm, _, _, d5, by omega, by omega, by omega, by omega, by omega, q3.1, hU.symm⟩, Ent.mk' [some 0] (by kernel_rfl) ⟨AVE.refl _, AVE.refl _, AVE.refl _, AVE.int hLI, AVE.bool (decide_eq_decide.2 (by dsimp only; omega)), AVE.refl _, trivial⟩ (by (repeat' first | exact trivial | refine ⟨⟨_, rfl, ChE.refl _⟩, ?_⟩)), ?_⟩
                show mid - a' < b' - a'
                omega
          · have hc2 : ¬ (decide (a' > 0) && !nlt D[a' - 1]! D[pivot]!) = true := by simp only [Bool.and_eq_true, decide_eq_true_eq]; exact fun h => by have := h.1; omega
            rw [if_neg hc2] at hU
            have hpt := part_ok n D a' b' pivot (by omega) (by omega) hb' p1 p2 h1000
            generalize hE : partition nlt D a' b' pivot = E at hU hpt
            obtain ⟨mid, ap, d4⟩ := E
            obtain ⟨m1, m2, m3, m4, m5, m6, m7⟩ := round_part nlt_swo (partition_holds nlt) p1 p2 (by rw [s3]; omega) B3 hE
            dsimp only at hU hpt
            rw [if_pos ⟨m1, m2⟩] at hU
            (conv => whnf); repeat ((first | (refine And.intro ?_ ?_; (focus ((repeat' (first | exact trivial | refine And.intro rfl ?_)); done))) | (refine And.intro ?_ ?_; (focus (first | omega | (dsimp -iota only; omega) | (simp -iota; omega) | (simp -iota; done) | decide)))); conv => whnf)
            refine ACall.eqArgs (args' := [.row 0 1 0 n, AV.int .i64 a', AV.int .i64 b', AV.int .i64 (pivot : Nat)]) (show [AV.row 0 1 0 n, AV.int .i64 a', AV.int .i64 b', AV.int .i64 P] = [AV.row 0 1 0 n, AV.int .i64 a', AV.int .i64 b', AV.int .i64 (pivot : Nat)] by rw [hPI]) ?_
            refine AFn.use [0] (hpt) (by kernel_rfl) rfl (by repeat' first | exact trivial | refine ⟨rfl, ?_⟩) fun _ => ?_
            (conv => whnf); repeat ((first | (refine And.intro ?_ ?_; (focus ((repeat' (first | exact trivial | refine And.intro rfl ?_)); done))) | (refine And.intro ?_ ?_; (focus (first | omega | (dsimp -iota only; omega) | (simp -iota; omega) | (simp -iota; done) | decide)))); conv => whnf)
            refine branchB_of (fun gs => ?_) (fun gs => ?_) <;> (first | replace gs := not_t gs | replace gs := not_f gs | skip) <;> (first | replace gs := of_decide_eq_true gs | replace gs := of_decide_eq_false gs | skip) <;> (first | replace gs := Classical.not_not.1 gs | skip) <;> (try dsimp only at gs)
            · rw [if_pos (by omega)] at hU
              have q := pdq_sorts nlt nlt_swo d4 a' mid lm true true m1 (by omega) m4
              have hrec := ih (mid - a') (by omega) d4 a' mid lm rfl (by omega) m1 (by omega) (by omega) m4
              obtain ⟨q1, q2⟩ := q
              have q3 := m6 _ q1 q2
              have q4 := q1.1
              generalize pdq nlt d4 a' mid lm true true = d5 at hU hrec q1 q2 q3 q4
              (conv => whnf); repeat ((first | (refine And.intro ?_ ?_; (focus ((repeat' (first | exact trivial | refine And.intro rfl ?_)); done))) | (refine And.intro ?_ ?_; (focus (first | omega | (dsimp -iota only; omega) | (simp -iota; omega) | (simp -iota; done) | decide)))); conv => whnf)
              refine ACall.eqArgs (args' := [.row 0 1 0 n, AV.int .i64 a', AV.int .i64 mid, AV.int .i64 (lm : Nat)]) (show [AV.row 0 1 0 n, AV.int .i64 a', AV.int .i64 mid, AV.int .i64 Lm] = [AV.row 0 1 0 n, AV.int .i64 a', AV.int .i64 mid, AV.int .i64 (lm : Nat)] by rw [hLI]) ?_
              refine AFn.use [0] (hrec) (by kernel_rfl) rfl (by repeat' first | exact trivial | refine ⟨rfl, ?_⟩) fun _ => ?_
              (conv => whnf); repeat ((first | (refine And.intro ?_ ?_; (focus ((repeat' (first | exact trivial | refine And.intro rfl ?_)); done))) | (refine And.intro ?_ ?_; (focus (first | omega | (dsimp -iota only; omega) | (simp -iota; omega) | (simp -iota; done) | decide)))); conv => whnf)
              refine ⟨⟨mid + 1, b', lm, _, _, d5, by omega, by omega, hb', by omega, by omega, q3.1, hU.symm⟩, Ent.mk' [some 0] (by kernel_rfl) ⟨AVE.refl _, AVE.int (by dsimp only; omega), AVE.refl _, AVE.int hLI, AVE.bool (decide_eq_decide.2 (by dsimp only; omega)), AVE.refl _, trivial⟩ (by (repeat' first | exact trivial | refine ⟨⟨_, rfl, ChE.refl _⟩, ?_⟩)), ?_⟩
              show b' - (mid + 1) < b' - a'
              omega
            · rw [if_neg (by omega)] at hU
              have q := pdq_sorts nlt nlt_swo d4 (mid + 1) b' lm true true (by omega) (by omega) m5
              have hrec := ih (b' - (mid + 1)) (by omega) d4 (mid + 1) b' lm rfl (by omega) (by omega) (by omega) (by omega) m5
              obtain ⟨q1, q2⟩ := q
              have q3 := m7 _ q1 q2
              have q4 := q1.1
              generalize pdq nlt d4 (mid + 1) b' lm true true = d5 at hU hrec q1 q2 q3 q4
              (conv => whnf); repeat ((first | (refine And.intro ?_ ?_; (focus ((repeat' (first | exact trivial | refine And.intro rfl ?_)); done))) | (refine And.intro ?_ ?_; (focus (first | omega | (dsimp -iota only; omega) | (simp -iota; omega) | (simp -iota; done) | decide)))); conv => whnf)
              refine ACall.eqArgs (args' := [.row 0 1 0 n, AV.int .i64 (mid + 1 : Nat), AV.int .i64 b', AV.int .i64 (lm : Nat)]) (show [AV.row 0 1 0 n, AV.int .i64 ((mid : Int) + 1), AV.int .i64 b', AV.int .i64 Lm] = [AV.row 0 1 0 n, AV.int .i64 (mid + 1 : Nat), AV.int .i64 b', AV.int .i64 (lm : Nat)] by rw [hLI]; rfl) ?_
              refine AFn.use [0] (hrec) (by kernel_rfl) rfl (by repeat' first | exact trivial | refine ⟨rfl, ?_⟩) fun _ => ?_
              (conv => whnf); repeat ((first | (refine And.intro ?_ ?_; (focus ((repeat' (first | exact trivial | refine And.intro rfl ?_)); done))) | (refine And.intro ?_ ?_; (focus (first | omega | (dsimp -iota only; omega) | (simp -iota; omega) | (simp -iota; done) | decide)))); conv => whnf)
              refine ⟨⟨a', mid, lm, _, _, d5, by omega, by omega, by omega, by omega, by omega, q3.1, hU.symm⟩, Ent.mk' [some 0] (by kernel_rfl) ⟨AVE.refl _, AVE.refl _, AVE.refl _, AVE.int hLI, AVE.bool (decide_eq_decide.2 (by dsimp only; omega)), AVE.refl _, trivial⟩ (by (repeat' first | exact trivial | refine ⟨⟨_, rfl, ChE.refl _⟩, ?_⟩)), ?_⟩
              show mid - a' < b' - a'
              omega
      | true =>
        refine AFn.use [0] (hpiv) (by kernel_rfl) rfl (by repeat' first | exact trivial | refine ⟨rfl, ?_⟩) fun _ => ?_
        (conv => whnf); repeat ((first | (refine And.intro ?_ ?_; (focus ((repeat' (first | exact trivial | refine And.intro rfl ?_)); done))) | (refine And.intro ?_ ?_; (focus (first | omega | (dsimp -iota only; omega) | (simp -iota; omega) | (simp -iota; done) | decide)))); conv => whnf)
        cases hint0 with
        | decreasing =>
          obtain ⟨hd1, hd2, hd3⟩ := hd rfl
          have hrv := hrev rfl
          (conv => whnf); repeat ((first | (refine And.intro ?_ ?_; (focus ((repeat' (first | exact trivial | refine And.intro rfl ?_)); done))) | (refine And.intro ?_ ?_; (focus (first | omega | (dsimp -iota only; omega) | (simp -iota; omega) | (simp -iota; done) | decide)))); conv => whnf)
          refine AFn.use [0] (hrv) (by kernel_rfl) rfl (by repeat' first | exact trivial | refine ⟨rfl, ?_⟩) fun _ => ?_
          (conv => whnf); repeat ((first | (refine And.intro ?_ ?_; (focus ((repeat' (first | exact trivial | refine And.intro rfl ?_)); done))) | (refine And.intro ?_ ?_; (focus (first | omega | (dsimp -iota only; omega) | (simp -iota; omega) | (simp -iota; done) | decide)))); conv => whnf)
          generalize hPd : (b' : Int) - 1 - ((pv : Int) - a') = P
          have hPI : P = ((pivot : Nat) : Int) := by omega
          have hpi := hpy (by rw [hd3]; rfl)
          have hpi1 : pi.1 = d2 := by rw [hpi, hp1]
          have hpi2 : (partialInsertionSort nlt d2 a' b').2 = pi.2 := by rw [hpi]
          obtain ⟨D, done⟩ := pi
          dsimp only at hpi1 hpi2 hU s3 B3
          subst hpi1
          rw [hpi2] at hpart
          (conv => whnf); repeat ((first | (refine And.intro ?_ ?_; (focus ((repeat' (first | exact trivial | refine And.intro rfl ?_)); done))) | (refine And.intro ?_ ?_; (focus (first | omega | (dsimp -iota only; omega) | (simp -iota; omega) | (simp -iota; done) | decide)))); conv => whnf)
          refine AFn.use [0] (hpart) (by kernel_rfl) rfl (by repeat' first | exact trivial | refine ⟨rfl, ?_⟩) fun _ => ?_
          (conv => whnf); repeat ((first | (refine And.intro ?_ ?_; (focus ((repeat' (first | exact trivial | refine And.intro rfl ?_)); done))) | (refine And.intro ?_ ?_; (focus (first | omega | (dsimp -iota only; omega) | (simp -iota; omega) | (simp -iota; done) | decide)))); conv => whnf)
          refine branchB_of (fun gd => ?_) (fun gd => ?_) <;> (first | replace gd := not_t gd | replace gd := not_f gd | skip) <;> (first | replace gd := of_decide_eq_true gd | replace gd := of_decide_eq_false gd | skip) <;> (first | replace gd := Classical.not_not.1 gd | skip) <;> (try dsimp only at gd)
          · subst gd
            rw [if_pos rfl] at hU
            subst hU
            (conv => whnf); repeat ((first | (refine And.intro ?_ ?_; (focus ((repeat' (first | exact trivial | refine And.intro rfl ?_)); done))) | (refine And.intro ?_ ?_; (focus (first | omega | (dsimp -iota only; omega) | (simp -iota; omega) | (simp -iota; done) | decide)))); conv => whnf)
            refine ⟨_, _, Ent.mk' (e' := [(0, .tup [])]) (H' := uH n R) [some 0] (by kernel_rfl) ?_ ?_, (), rfl, rfl⟩
            · exact ⟨AVE.refl _, trivial⟩
            · (repeat' first | exact trivial | refine ⟨⟨_, rfl, ChE.refl _⟩, ?_⟩)
          · subst gd
            rw [if_neg (by decide)] at hU
            (conv => whnf); repeat ((first | (refine And.intro ?_ ?_; (focus ((repeat' (first | exact trivial | refine And.intro rfl ?_)); done))) | (refine And.intro ?_ ?_; (focus (first | omega | (dsimp -iota only; omega) | (simp -iota; omega) | (simp -iota; done) | decide)))); conv => whnf)
            refine branchB_of (fun ga => ?_) (fun ga => ?_) <;> (first | replace ga := not_t ga | replace ga := not_f ga | skip) <;> (first | replace ga := of_decide_eq_true ga | replace ga := of_decide_eq_false ga | skip) <;> (first | replace ga := Classical.not_not.1 ga | skip) <;> (try dsimp only at ga)
            · have ia : ((a' : Int) - 1).toNat = a' - 1 := by omega
              have ip : P.toNat = pivot := by omega
              (conv => whnf); repeat ((first | (refine And.intro ?_ ?_; (focus ((repeat' (first | exact trivial | refine And.intro rfl ?_)); done))) | (refine And.intro ?_ ?_; (focus (first | omega | (dsimp -iota only; omega) | (simp -iota; omega) | (simp -iota; done) | decide)))); conv => whnf)
              refine AFn.use [] (less_ok _ _) (by kernel_rfl) rfl (by repeat' first | exact trivial | refine ⟨rfl, ?_⟩) fun _ => ?_
              (conv => whnf); repeat ((first | (refine And.intro ?_ ?_; (focus ((repeat' (first | exact trivial | refine And.intro rfl ?_)); done))) | (refine And.intro ?_ ?_; (focus (first | omega | (dsimp -iota only; omega) | (simp -iota; omega) | (simp -iota; done) | decide)))); conv => whnf)
              refine branchB_of (fun gl => ?_) (fun gl => ?_) <;> (first | replace gl := not_t gl | replace gl := not_f gl | skip) <;> (first | replace gl := of_decide_eq_true gl | replace gl := of_decide_eq_false gl | skip) <;> (first | replace gl := Classical.not_not.1 gl | skip) <;> (try dsimp only at gl)
              · have hc2 : (decide (a' > 0) && !nlt D[a' - 1]! D[pivot]!) = true := by simp only [ia, ip, Nat.zero_add] at gl; simp only [Bool.and_eq_true, decide_eq_true_eq]; exact ⟨by omega, by simpa [nlt] using gl⟩
                rw [if_pos hc2] at hU
                have hnl : nlt D[a' - 1]! D[pivot]! = false := by simp only [Bool.and_eq_true] at hc2; simpa using hc2.2
                have hpe := partEq_ok n D a' b' pivot (by omega) (by omega) hb' p1 p2 h1000
                generalize hE : partitionEqual nlt D a' b' pivot = E at hU hpe
                obtain ⟨mid, d4⟩ := E
                obtain ⟨m1, m2, m3, m4, _⟩ := round_eq nlt_swo (partitionEqual_holds nlt) (show 0 < a' by omega) p1 p2 (by rw [s3]; omega) B3 hnl hE
                dsimp only at hU hpe
                rw [if_pos ⟨m1, m2⟩] at hU
                (conv => whnf); repeat ((first | (refine And.intro ?_ ?_; (focus ((repeat' (first | exact trivial | refine And.intro rfl ?_)); done))) | (refine And.intro ?_ ?_; (focus (first | omega | (dsimp -iota only; omega) | (simp -iota; omega) | (simp -iota; done) | decide)))); conv => whnf)
                refine ACall.eqArgs (args' := [.row 0 1 0 n, AV.int .i64 a', AV.int .i64 b', AV.int .i64 (pivot : Nat)]) (show [AV.row 0 1 0 n, AV.int .i64 a', AV.int .i64 b', AV.int .i64 P] = [AV.row 0 1 0 n, AV.int .i64 a', AV.int .i64 b', AV.int .i64 (pivot : Nat)] by rw [hPI]) ?_
                refine AFn.use [0] (hpe) (by kernel_rfl) rfl (by repeat' first | exact trivial | refine ⟨rfl, ?_⟩) fun _ => ?_
                (conv => whnf); repeat ((first | (refine And.intro ?_ ?_; (focus ((repeat' (first | exact trivial | refine And.intro rfl ?_)); done))) | (refine And.intro ?_ ?_; (focus (first | omega | (dsimp -iota only; omega) | (simp -iota; omega) | (simp -iota; done) | decide)))); conv => whnf)
                refine ⟨⟨mid, b', lm, _, _, d4, by omega, by omega, hb', by omega, by omega, m4, hU.symm⟩, Ent.mk' [some 0] (by kernel_rfl) ⟨AVE.refl _, AVE.refl _, AVE.refl _, AVE.int hLI, AVE.refl _, AVE.refl _, trivial⟩ (by (repeat' first | exact trivial | refine ⟨⟨_, rfl, ChE.refl _⟩, ?_⟩)), ?_⟩
                show b' - mid < b' - a'
                omega
              · have hc2 : ¬ (decide (a' > 0) && !nlt D[a' - 1]! D[pivot]!) = true := by simp only [ia, ip, Nat.zero_add] at gl; simp only [Bool.and_eq_true]; exact fun h => by have := h.2; simp [nlt] at this; omega
                rw [if_neg hc2] at hU
                have hpt := part_ok n D a' b' pivot (by omega) (by omega) hb' p1 p2 h1000
                generalize hE : partition nlt D a' b' pivot = E at hU hpt
                obtain ⟨mid, ap, d4⟩ := E
                obtain ⟨m1, m2, m3, m4, m5, m6, m7⟩ := round_part nlt_swo (partition_holds nlt) p1 p2 (by rw [s3]; omega) B3 hE
                dsimp only at hU hpt
                rw [if_pos ⟨m1, m2⟩] at hU
                (conv => whnf); repeat ((first | (refine And.intro ?_ ?_; (focus ((repeat' (first | exact trivial | refine And.intro rfl ?_)); done))) | (refine And.intro ?_ ?_; (focus (first | omega | (dsimp -iota only; omega) | (simp -iota; omega) | (simp -iota; done) | decide)))); conv => whnf)
                refine ACall.eqArgs (args' := [.row 0 1 0 n, AV.int .i64 a', AV.int .i64 b', AV.int .i64 (pivot : Nat)]) (show [AV.row 0 1 0 n, AV.int .i64 a', AV.int .i64 b', AV.int .i64 P] = [AV.row 0 1 0 n, AV.int .i64 a', AV.int .i64 b', AV.int .i64 (pivot : Nat)] by rw [hPI]) ?_
                refine AFn.use [0] (hpt) (by kernel_rfl) rfl (by repeat' first | exact trivial | refine ⟨rfl, ?_⟩) fun _ => ?_
                (conv => whnf); repeat ((first | (refine And.intro ?_ ?_; (focus ((repeat' (first | exact trivial | refine And.intro rfl ?_)); done))) | (refine And.intro ?_ ?_; (focus (first | omega | (dsimp -iota only; omega) | (simp -iota; omega) | (simp -iota; done) | decide)))); conv => whnf)
                refine branchB_of (fun gs => ?_) (fun gs => ?_) <;> (first | replace gs := not_t gs | replace gs := not_f gs | skip) <;> (first | replace gs := of_decide_eq_true gs | replace gs := of_decide_eq_false gs | skip) <;> (first | replace gs := Classical.not_not.1 gs | skip) <;> (try dsimp only at gs)
                · rw [if_pos (by omega)] at hU
                  have q := pdq_sorts nlt nlt_swo d4 a' mid lm true true m1 (by omega) m4
                  have hrec := ih (mid - a') (by omega) d4 a' mid lm rfl (by omega) m1 (by omega) (by omega) m4
                  obtain ⟨q1, q2⟩ := q
                  have q3 := m6 _ q1 q2
                  have q4 := q1.1
                  generalize pdq nlt d4 a' mid lm true true = d5 at hU hrec q1 q2 q3 q4
                  (conv => whnf); repeat ((first | (refine And.intro ?_ ?_; (focus ((repeat' (first | exact trivial | refine And.intro rfl ?_)); done))) | (refine And.intro ?_ ?_; (focus (first | omega | (dsimp -iota only; omega) | (simp -iota; omega) | (simp -iota; done) | decide)))); conv => whnf)
                  refine ACall.eqArgs (args' := [.row 0 1 0 n, AV.int .i64 a', AV.int .i64 mid, AV.int .i64 (lm : Nat)]) (show [AV.row 0 1 0 n, AV.int .i64 a', AV.int .i64 mid, AV.int .i64 Lm] = [AV.row 0 1 0 n, AV.int .i64 a', AV.int .i64 mid, AV.int .i64 (lm : Nat)] by rw [hLI]) ?_
                  refine AFn.use [0] (hrec) (by kernel_rfl) rfl (by repeat' first | exact trivial | refine ⟨rfl, ?_⟩) fun _ => ?_
                  (conv => whnf); repeat ((first | (refine And.intro ?_ ?_; (focus ((repeat' (first | exact trivial | refine And.intro rfl ?_)); done))) | (refine And.intro ?_ ?_; (focus (first | omega | (dsimp -iota only; omega) | (simp -iota; omega) | (simp -iota; done) | decide)))); conv => whnf)
                  refine ⟨⟨mid + 1, b', lm, _, _, d5, by omega, by omega, hb', by omega, by omega, q3.1, hU.symm⟩, Ent.mk' [some 0] (by kernel_rfl) ⟨AVE.refl _, AVE.int (by dsimp only; omega), AVE.refl _, AVE.int hLI, AVE.bool (decide_eq_decide.2 (by dsimp only; omega)), AVE.refl _, trivial⟩ (by (repeat' first | exact trivial | refine ⟨⟨_, rfl, ChE.refl _⟩, ?_⟩)), ?_⟩
                  show b' - (mid + 1) < b' - a'
                  omega
                · rw [if_neg (by omega)] at hU
                  have q := pdq_sorts nlt nlt_swo d4 (mid + 1) b' lm true true (by omega) (by omega) m5
                  have hrec := ih (b' - (mid + 1)) (by omega) d4 (mid + 1) b' lm rfl (by omega) (by omega) (by omega) (by omega) m5
                  obtain ⟨q1, q2⟩ := q
                  have q3 := m7 _ q1 q2
                  have q4 := q1.1
                  generalize pdq nlt d4 (mid + 1) b' lm true true = d5 at hU hrec q1 q2 q3 q4
                  (conv => whnf); repeat ((first | (refine And.intro ?_ ?_; (focus ((repeat' (first | exact trivial | refine And.intro rfl ?_)); done))) | (refine And.intro ?_ ?_; (focus (first | omega | (dsimp -iota only; omega) | (simp -iota; omega) | (simp -iota; done) | decide)))); conv => whnf)
                  refine ACall.eqArgs (args' := [.row 0 1 0 n, AV.int .i64 (mid + 1 : Nat), AV.int .i64 b', AV.int .i64 (lm : Nat)]) (show [AV.row 0 1 0 n, AV.int .i64 ((mid : Int) + 1), AV.int .i64 b', AV.int .i64 Lm] = [AV.row 0 1 0 n, AV.int .i64 (mid + 1 : Nat), AV.int .i64 b', AV.int .i64 (lm : Nat)] by rw [hLI]; rfl) ?_
                  refine AFn.use [0] (hrec) (by kernel_rfl) rfl (by repeat' first | exact trivial | refine ⟨rfl, ?_⟩) fun _ => ?_
                  (conv => whnf); repeat ((first | (refine And.intro ?_ ?_; (focus ((repeat' (first | exact trivial | refine And.intro rfl ?_)); done))) | (refine And.intro ?_ ?_; (focus (first | omega | (dsimp -iota only; omega) | (simp -iota; omega) | (simp -iota; done) | decide)))); conv => whnf)
                  refine ⟨⟨a', mid, lm, _, _, d5, by omega, by omega, by omega, by omega, by omega, q3.1, hU.symm⟩, Ent.mk' [some 0] (by kernel_rfl) ⟨AVE.refl _, AVE.refl _, AVE.refl _, AVE.int hLI, AVE.bool (decide_eq_decide.2 (by dsimp only; omega)), AVE.refl _, trivial⟩ (by (repeat' first | exact trivial | refine ⟨⟨_, rfl, ChE.refl _⟩, ?_⟩)), ?_⟩
                  show mid - a' < b' - a'
                  omega
            · have hc2 : ¬ (decide (a' > 0) && !nlt D[a' - 1]! D[pivot]!) = true := by simp only [Bool.and_eq_true, decide_eq_true_eq]; exact fun h => by have := h.1; omega
              rw [if_neg hc2] at hU
              have hpt := part_ok n D a' b' pivot (by omega) (by omega) hb' p1 p2 h1000
              generalize hE : partition nlt D a' b' pivot = E at hU hpt
              obtain ⟨mid, ap, d4⟩ := E
              obtain ⟨m1, m2, m3, m4, m5, m6, m7⟩ := round_part nlt_swo (partition_holds nlt) p1 p2 (by rw [s3]; omega) B3 hE
              dsimp only at hU hpt
              rw [if_pos ⟨m1, m2⟩] at hU
              (conv => whnf); repeat ((first | (refine And.intro ?_ ?_; (focus ((repeat' (first | exact trivial | refine And.intro rfl ?_)); done))) | (refine And.intro ?_ ?_; (focus (first | omega | (dsimp -iota only; omega) | (simp -iota; omega) | (simp -iota; done) | decide)))); conv => whnf)
              refine ACall.eqArgs (args' := [.row 0 1 0 n, AV.int .i64 a', AV.int .i64 b', AV.int .i64 (pivot : Nat)]) (show [AV.row 0 1 0 n, AV.int .i64 a', AV.int .i64 b', AV.int .i64 P] = [AV.row 0 1 0 n, AV.int .i64 a', AV.int .i64 b', AV.int .i64 (pivot : Nat)] by rw [hPI]) ?_
              refine AFn.use [0] (hpt) (by kernel_rfl) rfl (by repeat' first | exact trivial | refine ⟨rfl, ?_⟩) fun _ => ?_
              (conv => whnf); repeat ((first | (refine And.intro ?_ ?_; (focus ((repeat' (first | exact trivial | refine And.intro rfl ?_)); done))) | (refine And.intro ?_ ?_; (focus (first | omega | (dsimp -iota only; omega) | (simp -iota; omega) | (simp -iota; done) | decide)))); conv => whnf)
              refine branchB_of (fun gs => ?_) (fun gs => ?_) <;> (first | replace gs := not_t gs | replace gs := not_f gs | skip) <;> (first | replace gs := of_decide_eq_true gs | replace gs := of_decide_eq_false gs | skip) <;> (first | replace gs := Classical.not_not.1 gs | skip) <;> (try dsimp only at gs)
              · rw [if_pos (by omega)] at hU
                have q := pdq_sorts nlt nlt_swo d4 a' mid lm true true m1 (by omega) m4
                have hrec := ih (mid - a') (by omega) d4 a' mid lm rfl (by omega) m1 (by omega) (by omega) m4
                obtain ⟨q1, q2⟩ := q
                have q3 := m6 _ q1 q2
                have q4 := q1.1
                generalize pdq nlt d4 a' mid lm true true = d5 at hU hrec q1 q2 q3 q4
                (conv => whnf); repeat ((first | (refine And.intro ?_ ?_; (focus ((repeat' (first | exact trivial | refine And.intro rfl ?_)); done))) | (refine And.intro ?_ ?_; (focus (first | omega | (dsimp -iota only; omega) | (simp -iota; omega) | (simp -iota; done) | decide)))); conv => whnf)
                refine ACall.eqArgs (args' := [.row 0 1 0 n, AV.int .i64 a', AV.int .i64 mid, AV.int .i64 (lm : Nat)]) (show [AV.row 0 1 0 n, AV.int .i64 a', AV.int .i64 mid, AV.int .i64 Lm] = [AV.row 0 1 0 n, AV.int .i64 a', AV.int .i64 mid, AV.int .i64 (lm : Nat)] by rw [hLI]) ?_
                refine AFn.use [0] (hrec) (by kernel_rfl) rfl (by repeat' first | exact trivial | refine ⟨rfl, ?_⟩) fun _ => ?_
                (conv => whnf); repeat ((first | (refine And.intro ?_ ?_; (focus ((repeat' (first | exact trivial | refine And.intro rfl ?_)); done))) | (refine And.intro ?_ ?_; (focus (first | omega | (dsimp -iota only; omega) | (simp -iota; omega) | (simp -iota; done) | decide)))); conv => whnf)
                refine ⟨⟨mid + 1, b', lm, _, _, d5, by omega, by omega, hb', by omega, by omega, q3.1, hU.symm⟩, Ent.mk' [some 0] (by kernel_rfl) ⟨AVE.refl _, AVE.int (by dsimp only; omega), AVE.refl _, AVE.int hLI, AVE.bool (decide_eq_decide.2 (by dsimp only; omega)), AVE.refl _, trivial⟩ (by (repeat' first | exact trivial | refine ⟨⟨_, rfl, ChE.refl _⟩, ?_⟩)), ?_⟩
                show b' - (mid + 1) < b' - a'
                omega
              · rw [if_neg (by omega)] at hU
                have q := pdq_sorts nlt nlt_swo d4 (mid + 1) b' lm true true (by omega) (by omega) m5
                have hrec := ih (b' - (mid + 1)) (by omega) d4 (mid + 1) b' lm rfl (by omega) (by omega) (by omega) (by omega) m5
                obtain ⟨q1, q2⟩ := q
                have q3 := m7 _ q1 q2
                have q4 := q1.1
                generalize pdq nlt d4 (mid + 1) b' lm true true = d5 at hU hrec q1 q2 q3 q4
                (conv => whnf); repeat ((first | (refine And.intro ?_ ?_; (focus ((repeat' (first | exact trivial | refine And.intro rfl ?_)); done))) | (refine And.intro ?_ ?_; (focus (first | omega | (dsimp -iota only; omega) | (simp -iota; omega) | (simp -iota; done) | decide)))); conv => whnf)
                refine ACall.eqArgs (args' := [.row 0 1 0 n, AV.int .i64 (mid + 1 : Nat), AV.int .i64 b', AV.int .i64 (lm : Nat)]) (show [AV.row 0 1 0 n, AV.int .i64 ((mid : Int) + 1), AV.int .i64 b', AV.int .i64 Lm] = [AV.row 0 1 0 n, AV.int .i64 (mid + 1 : Nat), AV.int .i64 b', AV.int .i64 (lm : Nat)] by rw [hLI]; rfl) ?_
                refine AFn.use [0] (hrec) (by kernel_rfl) rfl (by repeat' first | exact trivial | refine ⟨rfl, ?_⟩) fun _ => ?_
                (conv => whnf); repeat ((first | (refine And.intro ?_ ?_; (focus ((repeat' (first | exact trivial | refine And.intro rfl ?_)); done))) | (refine And.intro ?_ ?_; (focus (first | omega | (dsimp -iota only; omega) | (simp -iota; omega) | (simp -iota; done) | decide)))); conv => whnf)
                refine ⟨⟨a', mid, lm, _, _, d5, by omega, by omega, by omega, by omega, by omega, q3.1, hU.symm⟩, Ent.mk' [some 0] (by kernel_rfl) ⟨AVE.refl _, AVE.refl _, AVE.refl _, AVE.int hLI, AVE.bool (decide_eq_decide.2 (by dsimp only; omega)), AVE.refl _, trivial⟩ (by (repeat' first | exact trivial | refine ⟨⟨_, rfl, ChE.refl _⟩, ?_⟩)), ?_⟩
                show mid - a' < b' - a'
                omega
        | increasing =>
          obtain ⟨hd1, hd2, hd3⟩ := hnd (by decide)
          subst hd1
          obtain ⟨P, hPd⟩ : ∃ P : Int, P = ((pv : Nat) : Int) := ⟨_, rfl⟩
          (conv => whnf); repeat ((first | (refine And.intro ?_ ?_; (focus ((repeat' (first | exact trivial | refine And.intro rfl ?_)); done))) | (refine And.intro ?_ ?_; (focus (first | omega | (dsimp -iota only; omega) | (simp -iota; omega) | (simp -iota; done) | decide)))); conv => whnf)
          rw [← hPd]
          have hPI : P = ((pivot : Nat) : Int) := by rw [hPd, hd2]
          have hpi := hpy (by rw [hd3]; rfl)
          have hpi1 : pi.1 = d2 := by rw [hpi, hp1]
          have hpi2 : (partialInsertionSort nlt d2 a' b').2 = pi.2 := by rw [hpi]
          obtain ⟨D, done⟩ := pi
          dsimp only at hpi1 hpi2 hU s3 B3
          subst hpi1
          rw [hpi2] at hpart
          (conv => whnf); repeat ((first | (refine And.intro ?_ ?_; (focus ((repeat' (first | exact trivial | refine And.intro rfl ?_)); done))) | (refine And.intro ?_ ?_; (focus (first | omega | (dsimp -iota only; omega) | (simp -iota; omega) | (simp -iota; done) | decide)))); conv => whnf)
          refine AFn.use [0] (hpart) (by kernel_rfl) rfl (by repeat' first | exact trivial | refine ⟨rfl, ?_⟩) fun _ => ?_
          (conv => whnf); repeat ((first | (refine And.intro ?_ ?_; (focus ((repeat' (first | exact trivial | refine And.intro rfl ?_)); done))) | (refine And.intro ?_ ?_; (focus (first | omega | (dsimp -iota only; omega) | (simp -iota; omega) | (simp -iota; done) | decide)))); conv => whnf)
          refine branchB_of (fun gd => ?_) (fun gd => ?_) <;> (first | replace gd := not_t gd | replace gd := not_f gd | skip) <;> (first | replace gd := of_decide_eq_true gd | replace gd := of_decide_eq_false gd | skip) <;> (first | replace gd := Classical.not_not.1 gd | skip) <;> (try dsimp only at gd)
          · subst gd
            rw [if_pos rfl] at hU
            subst hU
            (conv => whnf); repeat ((first | (refine And.intro ?_ ?_; (focus ((repeat' (first | exact trivial | refine And.intro rfl ?_)); done))) | (refine And.intro ?_ ?_; (focus (first | omega | (dsimp -iota only; omega) | (simp -iota; omega) | (simp -iota; done) | decide)))); conv => whnf)
            refine ⟨_, _, Ent.mk' (e' := [(0, .tup [])]) (H' := uH n R) [some 0] (by kernel_rfl) ?_ ?_, (), rfl, rfl⟩
            · exact ⟨AVE.refl _, trivial⟩
            · (repeat' first | exact trivial | refine ⟨⟨_, rfl, ChE.refl _⟩, ?_⟩)
          · subst gd
            rw [if_neg (by decide)] at hU
            (conv => whnf); repeat ((first | (refine And.intro ?_ ?_; (focus ((repeat' (first | exact trivial | refine And.intro rfl ?_)); done))) | (refine And.intro ?_ ?_; (focus (first | omega | (dsimp -iota only; omega) | (simp -iota; omega) | (simp -iota; done) | decide)))); conv => whnf)
            refine branchB_of (fun ga => ?_) (fun ga => ?_) <;> (first | replace ga := not_t ga | replace ga := not_f ga | skip) <;> (first | replace ga := of_decide_eq_true ga | replace ga := of_decide_eq_false ga | skip) <;> (first | replace ga := Classical.not_not.1 ga | skip) <;> (try dsimp only at ga)
            · have ia : ((a' : Int) - 1).toNat = a' - 1 := by omega
              have ip : P.toNat = pivot := by omega
              (conv => whnf); repeat ((first | (refine And.intro ?_ ?_; (focus ((repeat' (first | exact trivial | refine And.intro rfl ?_)); done))) | (refine And.intro ?_ ?_; (focus (first | omega | (dsimp -iota only; omega) | (simp -iota; omega) | (simp -iota; done) | decide)))); conv => whnf)
              refine AFn.use [] (less_ok _ _) (by kernel_rfl) rfl (by repeat' first | exact trivial | refine ⟨rfl, ?_⟩) fun _ => ?_
              (conv => whnf); repeat ((first | (refine And.intro ?_ ?_; (focus ((repeat' (first | exact trivial | refine And.intro rfl ?_)); done))) | (refine And.intro ?_ ?_; (focus (first | omega | (dsimp -iota only; omega) | (simp -iota; omega) | (simp -iota; done) | decide)))); conv => whnf)
              refine branchB_of (fun gl => ?_) (fun gl => ?_) <;> (first | replace gl := not_t gl | replace gl := not_f gl | skip) <;> (first | replace gl := of_decide_eq_true gl | replace gl := of_decide_eq_false gl | skip) <;> (first | replace gl := Classical.not_not.1 gl | skip) <;> (try dsimp only at gl)
              · have hc2 : (decide (a' > 0) && !nlt D[a' - 1]! D[pivot]!) = true := by simp only [ia, ip, Nat.zero_add] at gl; simp only [Bool.and_eq_true, decide_eq_true_eq]; exact ⟨by omega, by simpa [nlt] using gl⟩
                rw [if_pos hc2] at hU
                have hnl : nlt D[a' - 1]! D[pivot]! = false := by simp only [Bool.and_eq_true] at hc2; simpa using hc2.2
                have hpe := partEq_ok n D a' b' pivot (by omega) (by omega) hb' p1 p2 h1000
                generalize hE : partitionEqual nlt D a' b' pivot = E at hU hpe
                obtain ⟨mid, d4⟩ := E
                obtain ⟨m1, m2, m3, m4, _⟩ := round_eq nlt_swo (partitionEqual_holds nlt) (show 0 < a' by omega) p1 p2 (by rw [s3]; omega) B3 hnl hE
                dsimp only at hU hpe
                rw [if_pos ⟨m1, m2⟩] at hU
                (conv => whnf); repeat ((first | (refine And.intro ?_ ?_; (focus ((repeat' (first | exact trivial | refine And.intro rfl ?_)); done))) | (refine And.intro ?_ ?_; (focus (first | omega | (dsimp -iota only; omega) | (simp -iota; omega) | (simp -iota; done) | decide)))); conv => whnf)
                refine ACall.eqArgs (args' := [.row 0 1 0 n, AV.int .i64 a', AV.int .i64 b', AV.int .i64 (pivot : Nat)]) (show [AV.row 0 1 0 n, AV.int .i64 a', AV.int .i64 b', AV.int .i64 P] = [AV.row 0 1 0 n, AV.int .i64 a', AV.int .i64 b', AV.int .i64 (pivot : Nat)] by rw [hPI]) ?_
                refine AFn.use [0] (hpe) (by kernel_rfl) rfl (by repeat' first | exact trivial | refine ⟨rfl, ?_⟩) fun _ => ?_
                (conv => whnf); repeat ((first | (refine And.intro ?_ ?_; (focus ((repeat' (first | exact trivial | refine And.intro rfl ?_)); done))) | (refine And.intro ?_ ?_; (focus (first | omega | (dsimp -iota only; omega) | (simp -iota; omega) | (simp -iota; done) | decide)))); conv => whnf)
                refine ⟨⟨mid, b', lm, _, _, d4, by omega, by omega, hb', by omega, by omega, m4, hU.symm⟩, Ent.mk' [some 0] (by kernel_rfl) ⟨AVE.refl _, AVE.refl _, AVE.refl _, AVE.int hLI, AVE.refl _, AVE.refl _, trivial⟩ (by (repeat' first | exact trivial | refine ⟨⟨_, rfl, ChE.refl _⟩, ?_⟩)), ?_⟩
                show b' - mid < b' - a'
                omega
              · have hc2 : ¬ (decide (a' > 0) && !nlt D[a' - 1]! D[pivot]!) = true := by simp only [ia, ip, Nat.zero_add] at gl; simp only [Bool.and_eq_true]; exact fun h => by have := h.2; simp [nlt] at this; omega
                rw [if_neg hc2] at hU
                have hpt := part_ok n D a' b' pivot (by omega) (by omega) hb' p1 p2 h1000
                generalize hE : partition nlt D a' b' pivot = E at hU hpt
                obtain ⟨mid, ap, d4⟩ := E
                obtain ⟨m1, m2, m3, m4, m5, m6, m7⟩ := round_part nlt_swo (partition_holds nlt) p1 p2 (by rw [s3]; omega) B3 hE
                dsimp only at hU hpt
                rw [if_pos ⟨m1, m2⟩] at hU
                (conv => whnf); repeat ((first | (refine And.intro ?_ ?_; (focus ((repeat' (first | exact trivial | refine And.intro rfl ?_)); done))) | (refine And.intro ?_ ?_; (focus (first | omega | (dsimp -iota only; omega) | (simp -iota; omega) | (simp -iota; done) | decide)))); conv => whnf)
                refine ACall.eqArgs (args' := [.row 0 1 0 n, AV.int .i64 a', AV.int .i64 b', AV.int .i64 (pivot : Nat)]) (show [AV.row 0 1 0 n, AV.int .i64 a', AV.int .i64 b', AV.int .i64 P] = [AV.row 0 1 0 n, AV.int .i64 a', AV.int .i64 b', AV.int .i64 (pivot : Nat)] by rw [hPI]) ?_
                refine AFn.use [0] (hpt) (by kernel_rfl) rfl (by repeat' first | exact trivial | refine ⟨rfl, ?_⟩) fun _ => ?_
                (conv => whnf); repeat ((first | (refine And.intro ?_ ?_; (focus ((repeat' (first | exact trivial | refine And.intro rfl ?_)); done))) | (refine And.intro ?_ ?_; (focus (first | omega | (dsimp -iota only; omega) | (simp -iota; omega) | (simp -iota; done) | decide)))); conv => whnf)
                refine branchB_of (fun gs => ?_) (fun gs => ?_) <;> (first | replace gs := not_t gs | replace gs := not_f gs | skip) <;> (first | replace gs := of_decide_eq_true gs | replace gs := of_decide_eq_false gs | skip) <;> (first | replace gs := Classical.not_not.1 gs | skip) <;> (try dsimp only at gs)
                · rw [if_pos (by omega)] at hU
                  have q := pdq_sorts nlt nlt_swo d4 a' mid lm true true m1 (by omega) m4
                  have hrec := ih (mid - a') (by omega) d4 a' mid lm rfl (by omega) m1 (by omega) (by omega) m4
                  obtain ⟨q1, q2⟩ := q
                  have q3 := m6 _ q1 q2
                  have q4 := q1.1
                  generalize pdq nlt d4 a' mid lm true true = d5 at hU hrec q1 q2 q3 q4
                  (conv => whnf); repeat ((first | (refine And.intro ?_ ?_; (focus ((repeat' (first | exact trivial | refine And.intro rfl ?_)); done))) | (refine And.intro ?_ ?_; (focus (first | omega | (dsimp -iota only; omega) | (simp -iota; omega) | (simp -iota; done) | decide)))); conv => whnf)
                  refine ACall.eqArgs (args' := [.row 0 1 0 n, AV.int .i64 a', AV.int .i64 mid, AV.int .i64 (lm : Nat)]) (show [AV.row 0 1 0 n, AV.int .i64 a', AV.int .i64 mid, AV.int .i64 Lm] = [AV.row 0 1 0 n, AV.int .i64 a', AV.int .i64 mid, AV.int .i64 (lm : Nat)] by rw [hLI]) ?_
                  refine AFn.use [0] (hrec) (by kernel_rfl) rfl (by repeat' first | exact trivial | refine ⟨rfl, ?_⟩) fun _ => ?_
                  (conv => whnf); repeat ((first | (refine And.intro ?_ ?_; (focus ((repeat' (first | exact trivial | refine And.intro rfl ?_)); done))) | (refine And.intro ?_ ?_; (focus (first | omega | (dsimp -iota only; omega) | (simp -iota; omega) | (simp -iota; done) | decide)))); conv => whnf)
                  refine ⟨⟨mid + 1, b', lm, _, _, d5, by omega, by omega, hb', by omega, by omega, q3.1, hU.symm⟩, Ent.mk' [some 0] (by kernel_rfl) ⟨AVE.refl _, AVE.int (by dsimp only; omega), AVE.refl _, AVE.int hLI, AVE.bool (decide_eq_decide.2 (by dsimp only; omega)), AVE.refl _, trivial⟩ (by (repeat' first | exact trivial | refine ⟨⟨_, rfl, ChE.refl _⟩, ?_⟩)), ?_⟩
                  show b' - (mid + 1) < b' - a'
                  omega
                · rw [if_neg (by omega)] at hU
                  have q := pdq_sorts nlt nlt_swo d4 (mid + 1) b' lm true true (by omega) (by omega) m5
                  have hrec := ih (b' - (mid + 1)) (by omega) d4 (mid + 1) b' lm rfl (by omega) (by omega) (by omega) (by omega) m5
                  obtain ⟨q1, q2⟩ := q
                  have q3 := m7 _ q1 q2
                  have q4 := q1.1
                  generalize pdq nlt d4 (mid + 1) b' lm true true = d5 at hU hrec q1 q2 q3 q4
                  (conv => whnf); repeat ((first | (refine And.intro ?_ ?_; (focus ((repeat' (first | exact trivial | refine And.intro rfl ?_)); done))) | (refine And.intro ?_ ?_; (focus (first | omega | (dsimp -iota only; omega) | (simp -iota; omega) | (simp -iota; done) | decide)))); conv => whnf)
                  refine ACall.eqArgs (args' := [.row 0 1 0 n, AV.int .i64 (mid + 1 : Nat), AV.int .i64 b', AV.int .i64 (lm : Nat)]) (show [AV.row 0 1 0 n, AV.int .i64 ((mid : Int) + 1), AV.int .i64 b', AV.int .i64 Lm] = [AV.row 0 1 0 n, AV.int .i64 (mid + 1 : Nat), AV.int .i64 b', AV.int .i64 (lm : Nat)] by rw [hLI]; rfl) ?_
                  refine AFn.use [0] (hrec) (by kernel_rfl) rfl (by repeat' first | exact trivial | refine ⟨rfl, ?_⟩) fun _ => ?_
                  (conv => whnf); repeat ((first | (refine And.intro ?_ ?_; (focus ((repeat' (first | exact trivial | refine And.intro rfl ?_)); done))) | (refine And.intro ?_ ?_; (focus (first | omega | (dsimp -iota only; omega) | (simp -iota; omega) | (simp -iota; done) | decide)))); conv => whnf)
                  refine ⟨⟨a', mid, lm, _, _, d5, by omega, by omega, by omega, by omega, by omega, q3.1, hU.symm⟩, Ent.mk' [some 0] (by kernel_rfl) ⟨AVE.refl _, AVE.refl _, AVE.refl _, AVE.int hLI, AVE.bool (decide_eq_decide.2 (by dsimp only; omega)), AVE.refl _, trivial⟩ (by (repeat' first | exact trivial | refine ⟨⟨_, rfl, ChE.refl _⟩, ?_⟩)), ?_⟩
                  show mid - a' < b' - a'
                  omega
            · have hc2 : ¬ (decide (a' > 0) && !nlt D[a' - 1]! D[pivot]!) = true := by simp only [Bool.and_eq_true, decide_eq_true_eq]; exact fun h => by have := h.1; omega
              rw [if_neg hc2] at hU
              have hpt := part_ok n D a' b' pivot (by omega) (by omega) hb' p1 p2 h1000
              generalize hE : partition nlt D a' b' pivot = E at hU hpt
              obtain ⟨mid, ap, d4⟩ := E
              obtain ⟨m1, m2, m3, m4, m5, m6, m7⟩ := round_part nlt_swo (partition_holds nlt) p1 p2 (by rw [s3]; omega) B3 hE
              dsimp only at hU hpt
              rw [if_pos ⟨m1, m2⟩] at hU
              (conv => whnf); repeat ((first | (refine And.intro ?_ ?_; (focus ((repeat' (first | exact trivial | refine And.intro rfl ?_)); done))) | (refine And.intro ?_ ?_; (focus (first | omega | (dsimp -iota only; omega) | (simp -iota; omega) | (simp -iota; done) | decide)))); conv => whnf)
              refine ACall.eqArgs (args' := [.row 0 1 0 n, AV.int .i64 a', AV.int .i64 b', AV.int .i64 (pivot : Nat)]) (show [AV.row 0 1 0 n, AV.int .i64 a', AV.int .i64 b', AV.int .i64 P] = [AV.row 0 1 0 n, AV.int .i64 a', AV.int .i64 b', AV.int .i64 (pivot : Nat)] by rw [hPI]) ?_
              refine AFn.use [0] (hpt) (by kernel_rfl) rfl (by repeat' first | exact trivial | refine ⟨rfl, ?_⟩) fun _ => ?_
              (conv => whnf); repeat ((first | (refine And.intro ?_ ?_; (focus ((repeat' (first | exact trivial | refine And.intro rfl ?_)); done))) | (refine And.intro ?_ ?_; (focus (first | omega | (dsimp -iota only; omega) | (simp -iota; omega) | (simp -iota; done) | decide)))); conv => whnf)
              refine branchB_of (fun gs => ?_) (fun gs => ?_) <;> (first | replace gs := not_t gs | replace gs := not_f gs | skip) <;> (first | replace gs := of_decide_eq_true gs | replace gs := of_decide_eq_false gs | skip) <;> (first | replace gs := Classical.not_not.1 gs | skip) <;> (try dsimp only at gs)
              · rw [if_pos (by omega)] at hU
                have q := pdq_sorts nlt nlt_swo d4 a' mid lm true true m1 (by omega) m4
                have hrec := ih (mid - a') (by omega) d4 a' mid lm rfl (by omega) m1 (by omega) (by omega) m4
                obtain ⟨q1, q2⟩ := q
                have q3 := m6 _ q1 q2
                have q4 := q1.1
                generalize pdq nlt d4 a' mid lm true true = d5 at hU hrec q1 q2 q3 q4
                (conv => whnf); repeat ((first | (refine And.intro ?_ ?_; (focus ((repeat' (first | exact trivial | refine And.intro rfl ?_)); done))) | (refine And.intro ?_ ?_; (focus (first | omega | (dsimp -iota only; omega) | (simp -iota; omega) | (simp -iota; done) | decide)))); conv => whnf)
                refine ACall.eqArgs (args' := [.row 0 1 0 n, AV.int .i64 a', AV.int .i64 mid, AV.int .i64 (lm : Nat)]) (show [AV.row 0 1 0 n, AV.int .i64 a', AV.int .i64 mid, AV.int .i64 Lm] = [AV.row 0 1 0 n, AV.int .i64 a', AV.int .i64 mid, AV.int .i64 (lm : Nat)] by rw [hLI]) ?_
                refine AFn.use [0] (hrec) (by kernel_rfl) rfl (by repeat' first | exact trivial | refine ⟨rfl, ?_⟩) fun _ => ?_
                (conv => whnf); repeat ((first | (refine And.intro ?_ ?_; (focus ((repeat' (first | exact trivial | refine And.intro rfl ?_)); done))) | (refine And.intro ?_ ?_; (focus (first | omega | (dsimp -iota only; omega) | (simp -iota; omega) | (simp -iota; done) | decide)))); conv => whnf)
                refine ⟨⟨mid + 1, b', lm, _, _, d5, by omega, by omega, hb', by omega, by omega, q3.1, hU.symm⟩, Ent.mk' [some 0] (by kernel_rfl) ⟨AVE.refl _, AVE.int (by dsimp only; omega), AVE.refl _, AVE.int hLI, AVE.bool (decide_eq_decide.2 (by dsimp only; omega)), AVE.refl _, trivial⟩ (by (repeat' first | exact trivial | refine ⟨⟨_, rfl, ChE.refl _⟩, ?_⟩)), ?_⟩
                show b' - (mid + 1) < b' - a'
                omega
              · rw [if_neg (by omega)] at hU
                have q := pdq_sorts nlt nlt_swo d4 (mid + 1) b' lm true true (by omega) (by omega) m5
                have hrec := ih (b' - (mid + 1)) (by omega) d4 (mid + 1) b' lm rfl (by omega) (by omega) (by omega) (by omega) m5
                obtain ⟨q1, q2⟩ := q
                have q3 := m7 _ q1 q2
                have q4 := q1.1
                generalize pdq nlt d4 (mid + 1) b' lm true true = d5 at hU hrec q1 q2 q3 q4
                (conv => whnf); repeat ((first | (refine And.intro ?_ ?_; (focus ((repeat' (first | exact trivial | refine And.intro rfl ?_)); done))) | (refine And.intro ?_ ?_; (focus (first | omega | (dsimp -iota only; omega) | (simp -iota; omega) | (simp -iota; done) | decide)))); conv => whnf)
                refine ACall.eqArgs (args' := [.row 0 1 0 n, AV.int .i64 (mid + 1 : Nat), AV.int .i64 b', AV.int .i64 (lm : Nat)]) (show [AV.row 0 1 0 n, AV.int .i64 ((mid : Int) + 1), AV.int .i64 b', AV.int .i64 Lm] = [AV.row 0 1 0 n, AV.int .i64 (mid + 1 : Nat), AV.int .i64 b', AV.int .i64 (lm : Nat)] by rw [hLI]; rfl) ?_
                refine AFn.use [0] (hrec) (by kernel_rfl) rfl (by repeat' first | exact trivial | refine ⟨rfl, ?_⟩) fun _ => ?_
                (conv => whnf); repeat ((first | (refine And.intro ?_ ?_; (focus ((repeat' (first | exact trivial | refine And.intro rfl ?_)); done))) | (refine And.intro ?_ ?_; (focus (first | omega | (dsimp -iota only; omega) | (simp -iota; omega) | (simp -iota; done) | decide)))); conv => whnf)
                refine ⟨⟨a', mid, lm, _, _, d5, by omega, by omega, by omega, by omega, by omega, q3.1, hU.symm⟩, Ent.mk' [some 0] (by kernel_rfl) ⟨AVE.refl _, AVE.refl _, AVE.refl _, AVE.int hLI, AVE.bool (decide_eq_decide.2 (by dsimp only; omega)), AVE.refl _, trivial⟩ (by (repeat' first | exact trivial | refine ⟨⟨_, rfl, ChE.refl _⟩, ?_⟩)), ?_⟩
                show mid - a' < b' - a'
                omega
        | unknown =>
          obtain ⟨hd1, hd2, hd3⟩ := hnd (by decide)
          subst hd1
          obtain ⟨P, hPd⟩ : ∃ P : Int, P = ((pv : Nat) : Int) := ⟨_, rfl⟩
          (conv => whnf); repeat ((first | (refine And.intro ?_ ?_; (focus ((repeat' (first | exact trivial | refine And.intro rfl ?_)); done))) | (refine And.intro ?_ ?_; (focus (first | omega | (dsimp -iota only; omega) | (simp -iota; omega) | (simp -iota; done) | decide)))); conv => whnf)
          rw [← hPd]
          have hPI : P = ((pivot : Nat) : Int) := by rw [hPd, hd2]
          have hpi := hpn (by first | rfl | (rw [hd3]; rfl))
          subst hpi
          dsimp only at hU s3 B3
          rw [if_neg (by decide)] at hU
          obtain ⟨D, hD⟩ : ∃ D, D = d2 := ⟨_, rfl⟩
          subst hD
          (conv => whnf); repeat ((first | (refine And.intro ?_ ?_; (focus ((repeat' (first | exact trivial | refine And.intro rfl ?_)); done))) | (refine And.intro ?_ ?_; (focus (first | omega | (dsimp -iota only; omega) | (simp -iota; omega) | (simp -iota; done) | decide)))); conv => whnf)
          (conv => whnf); repeat ((first | (refine And.intro ?_ ?_; (focus ((repeat' (first | exact trivial | refine And.intro rfl ?_)); done))) | (refine And.intro ?_ ?_; (focus (first | omega | (dsimp -iota only; omega) | (simp -iota; omega) | (simp -iota; done) | decide)))); conv => whnf)
          refine branchB_of (fun ga => ?_) (fun ga => ?_) <;> (first | replace ga := not_t ga | replace ga := not_f ga | skip) <;> (first | replace ga := of_decide_eq_true ga | replace ga := of_decide_eq_false ga | skip) <;> (first | replace ga := Classical.not_not.1 ga | skip) <;> (try dsimp only at ga)
          · have ia : ((a' : Int) - 1).toNat = a' - 1 := by omega
            have ip : P.toNat = pivot := by omega
            (conv => whnf); repeat ((first | (refine And.intro ?_ ?_; (focus ((repeat' (first | exact trivial | refine And.intro rfl ?_)); done))) | (refine And.intro ?_ ?_; (focus (first | omega | (dsimp -iota only; omega) | (simp -iota; omega) | (simp -iota; done) | decide)))); conv => whnf)
            refine AFn.use [] (less_ok _ _) (by kernel_rfl) rfl (by repeat' first | exact trivial | refine ⟨rfl, ?_⟩) fun _ => ?_
            (conv => whnf); repeat ((first | (refine And.intro ?_ ?_; (focus ((repeat' (first | exact trivial | refine And.intro rfl ?_)); done))) | (refine And.intro ?_ ?_; (focus (first | omega | (dsimp -iota only; omega) | (simp -iota; omega) | (simp -iota; done) | decide)))); conv => whnf)
            refine branchB_of (fun gl => ?_) (fun gl => ?_) <;> (first | replace gl := not_t gl | replace gl := not_f gl | skip) <;> (first | replace gl := of_decide_eq_true gl | replace gl := of_decide_eq_false gl | skip) <;> (first | replace gl := Classical.not_not.1 gl | skip) <;> (try dsimp only at gl)
            · have hc2 : (decide (a' > 0) && !nlt D[a' - 1]! D[pivot]!) = true := by simp only [ia, ip, Nat.zero_add] at gl; simp only [Bool.and_eq_true, decide_eq_true_eq]; exact ⟨by omega, by simpa [nlt] using gl⟩
              rw [if_pos hc2] at hU
              have hnl : nlt D[a' - 1]! D[pivot]! = false := by simp only [Bool.and_eq_true] at hc2; simpa using hc2.2
              have hpe := partEq_ok n D a' b' pivot (by omega) (by omega) hb' p1 p2 h1000
              generalize hE : partitionEqual nlt D a' b' pivot = E at hU hpe
              obtain ⟨mid, d4⟩ := E
              obtain ⟨m1, m2, m3, m4, _⟩ := round_eq nlt_swo (partitionEqual_holds nlt) (show 0 < a' by omega) p1 p2 (by rw [s3]; omega) B3 hnl hE
              dsimp only at hU hpe
              rw [if_pos ⟨m1, m2⟩] at hU
              (conv => whnf); repeat ((first | (refine And.intro ?_ ?_; (focus ((repeat' (first | exact trivial | refine And.intro rfl ?_)); done))) | (refine And.intro ?_ ?_; (focus (first | omega | (dsimp -iota only; omega) | (simp -iota; omega) | (simp -iota; done) | decide)))); conv => whnf)
              refine ACall.eqArgs (args' := [.row 0 1 0 n, AV.int .i64 a', AV.int .i64 b', AV.int .i64 (pivot : Nat)]) (show [AV.row 0 1 0 n, AV.int .i64 a', AV.int .i64 b', AV.int .i64 P] = [AV.row 0 1 0 n, AV.int .i64 a', AV.int .i64 b', AV.int .i64 (pivot : Nat)] by rw [hPI]) ?_
              refine AFn.use [0] (hpe) (by kernel_rfl) rfl (by repeat' first | exact trivial | refine ⟨rfl, ?_⟩) fun _ => ?_
              (conv => whnf); repeat ((first | (refine And.intro ?_ ?_; (focus ((repeat' (first | exact trivial | refine And.intro rfl ?_)); done))) | (refine And.intro ?_ ?_; (focus (first | omega | (dsimp -iota only; omega) | (simp -iota; omega) | (simp -iota; done) | decide)))); conv => whnf)
              refine ⟨⟨mid, b', lm, _, _, d4, by omega, by omega, hb', by omega, by omega, m4, hU.symm⟩, Ent.mk' [some 0] (by kernel_rfl) ⟨AVE.refl _, AVE.refl _, AVE.refl _, AVE.int hLI, AVE.refl _, AVE.refl _, trivial⟩ (by (repeat' first | exact trivial | refine ⟨⟨_, rfl, ChE.refl _⟩, ?_⟩)), ?_⟩
              show b' - mid < b' - a'
              omega
            · have hc2 : ¬ (decide (a' > 0) && !nlt D[a' - 1]! D[pivot]!) = true := by simp only [ia, ip, Nat.zero_add] at gl; simp only [Bool.and_eq_true]; exact fun h => by have := h.2; simp [nlt] at this; omega
              rw [if_neg hc2] at hU
              have hpt := part_ok n D a' b' pivot (by omega) (by omega) hb' p1 p2 h1000
              generalize hE : partition nlt D a' b' pivot = E at hU hpt
              obtain ⟨mid, ap, d4⟩ := E
              obtain ⟨m1, m2, m3, m4, m5, m6, m7⟩ := round_part nlt_swo (partition_holds nlt) p1 p2 (by rw [s3]; omega) B3 hE
              dsimp only at hU hpt
              rw [if_pos ⟨m1, m2⟩] at hU
              (conv => whnf); repeat ((first | (refine And.intro ?_ ?_; (focus ((repeat' (first | exact trivial | refine And.intro rfl ?_)); done))) | (refine And.intro ?_ ?_; (focus (first | omega | (dsimp -iota only; omega) | (simp -iota; omega) | (simp -iota; done) | decide)))); conv => whnf)
              refine ACall.eqArgs (args' := [.row 0 1 0 n, AV.int .i64 a', AV.int .i64 b', AV.int .i64 (pivot : Nat)]) (show [AV.row 0 1 0 n, AV.int .i64 a', AV.int .i64 b', AV.int .i64 P] = [AV.row 0 1 0 n, AV.int .i64 a', AV.int .i64 b', AV.int .i64 (pivot : Nat)] by rw [hPI]) ?_
              refine AFn.use [0] (hpt) (by kernel_rfl) rfl (by repeat' first | exact trivial | refine ⟨rfl, ?_⟩) fun _ => ?_
              (conv => whnf); repeat ((first | (refine And.intro ?_ ?_; (focus ((repeat' (first | exact trivial | refine And.intro rfl ?_)); done))) | (refine And.intro ?_ ?_; (focus (first | omega | (dsimp -iota only; omega) | (simp -iota; omega) | (simp -iota; done) | decide)))); conv => whnf)
              refine branchB_of (fun gs => ?_) (fun gs => ?_) <;> (first | replace gs := not_t gs | replace gs := not_f gs | skip) <;> (first | replace gs := of_decide_eq_true gs | replace gs := of_decide_eq_false gs | skip) <;> (first | replace gs := Classical.not_not.1 gs | skip) <;> (try dsimp only at gs)
              · rw [if_pos (by omega)] at hU
                have q := pdq_sorts nlt nlt_swo d4 a' mid lm true true m1 (by omega) m4
                have hrec := ih (mid - a') (by omega) d4 a' mid lm rfl (by omega) m1 (by omega) (by omega) m4
                obtain ⟨q1, q2⟩ := q
                have q3 := m6 _ q1 q2
                have q4 := q1.1
                generalize pdq nlt d4 a' mid lm true true = d5 at hU hrec q1 q2 q3 q4
                (conv => whnf); repeat ((first | (refine And.intro ?_ ?_; (focus ((repeat' (first | exact trivial | refine And.intro rfl ?_)); done))) | (refine And.intro ?_ ?_; (focus (first | omega | (dsimp -iota only; omega) | (simp -iota; omega) | (simp -iota; done) | decide)))); conv => whnf)
                refine ACall.eqArgs (args' := [.row 0 1 0 n, AV.int .i64 a', AV.int .i64 mid, AV.int .i64 (lm : Nat)]) (show [AV.row 0 1 0 n, AV.int .i64 a', AV.int .i64 mid, AV.int .i64 Lm] = [AV.row 0 1 0 n, AV.int .i64 a', AV.int .i64 mid, AV.int .i64 (lm : Nat)] by rw [hLI]) ?_
                refine AFn.use [0] (hrec) (by kernel_rfl) rfl (by repeat' first | exact trivial | refine ⟨rfl, ?_⟩) fun _ => ?_
                (conv => whnf); repeat ((first | (refine And.intro ?_ ?_; (focus ((repeat' (first | exact trivial | refine And.intro rfl ?_)); done))) | (refine And.intro ?_ ?_; (focus (first | omega | (dsimp -iota only; omega) | (simp -iota; omega) | (simp -iota; done) | decide)))); conv => whnf)
                refine ⟨⟨mid + 1, b', lm, _, _, d5, by omega, by omega, hb', by omega, by omega, q3.1, hU.symm⟩, Ent.mk' [some 0] (by kernel_rfl) ⟨AVE.refl _, AVE.int (by dsimp only; omega), AVE.refl _, AVE.int hLI, AVE.bool (decide_eq_decide.2 (by dsimp only; omega)), AVE.refl _, trivial⟩ (by (repeat' first | exact trivial | refine ⟨⟨_, rfl, ChE.refl _⟩, ?_⟩)), ?_⟩
                show b' - (mid + 1) < b' - a'
                omega
              · rw [if_neg (by omega)] at hU
                have q := pdq_sorts nlt nlt_swo d4 (mid + 1) b' lm true true (by omega) (by omega) m5
                have hrec := ih (b' - (mid + 1)) (by omega) d4 (mid + 1) b' lm rfl (by omega) (by omega) (by omega) (by omega) m5
                obtain ⟨q1, q2⟩ := q
                have q3 := m7 _ q1 q2
                have q4 := q1.1
                generalize pdq nlt d4 (mid + 1) b' lm true true = d5 at hU hrec q1 q2 q3 q4
                (conv => whnf); repeat ((first | (refine And.intro ?_ ?_; (focus ((repeat' (first | exact trivial | refine And.intro rfl ?_)); done))) | (refine And.intro ?_ ?_; (focus (first | omega | (dsimp -iota only; omega) | (simp -iota; omega) | (simp -iota; done) | decide)))); conv => whnf)
                refine ACall.eqArgs (args' := [.row 0 1 0 n, AV.int .i64 (mid + 1 : Nat), AV.int .i64 b', AV.int .i64 (lm : Nat)]) (show [AV.row 0 1 0 n, AV.int .i64 ((mid : Int) + 1), AV.int .i64 b', AV.int .i64 Lm] = [AV.row 0 1 0 n, AV.int .i64 (mid + 1 : Nat), AV.int .i64 b', AV.int .i64 (lm : Nat)] by rw [hLI]; rfl) ?_
                refine AFn.use [0] (hrec) (by kernel_rfl) rfl (by repeat' first | exact trivial | refine ⟨rfl, ?_⟩) fun _ => ?_
                (conv => whnf); repeat ((first | (refine And.intro ?_ ?_; (focus ((repeat' (first | exact trivial | refine And.intro rfl ?_)); done))) | (refine And.intro ?_ ?_; (focus (first | omega | (dsimp -iota only; omega) | (simp -iota; omega) | (simp -iota; done) | decide)))); conv => whnf)
                refine ⟨⟨a', mid, lm, _, _, d5, by omega, by omega, by omega, by omega, by omega, q3.1, hU.symm⟩, Ent.mk' [some 0] (by kernel_rfl) ⟨AVE.refl _, AVE.refl _, AVE.refl _, AVE.int hLI, AVE.bool (decide_eq_decide.2 (by dsimp only; omega)), AVE.refl _, trivial⟩ (by (repeat' first | exact trivial | refine ⟨⟨_, rfl, ChE.refl _⟩, ?_⟩)), ?_⟩
                show mid - a' < b' - a'
                omega
          · have hc2 : ¬ (decide (a' > 0) && !nlt D[a' - 1]! D[pivot]!) = true := by simp only [Bool.and_eq_true, decide_eq_true_eq]; exact fun h => by have := h.1; omega
            rw [if_neg hc2] at hU
            have hpt := part_ok n D a' b' pivot (by omega) (by omega) hb' p1 p2 h1000
            generalize hE : partition nlt D a' b' pivot = E at hU hpt
            obtain ⟨mid, ap, d4⟩ := E
            obtain ⟨m1, m2, m3, m4, m5, m6, m7⟩ := round_part nlt_swo (partition_holds nlt) p1 p2 (by rw [s3]; omega) B3 hE
            dsimp only at hU hpt
            rw [if_pos ⟨m1, m2⟩] at hU
            (conv => whnf); repeat ((first | (refine And.intro ?_ ?_; (focus ((repeat' (first | exact trivial | refine And.intro rfl ?_)); done))) | (refine And.intro ?_ ?_; (focus (first | omega | (dsimp -iota only; omega) | (simp -iota; omega) | (simp -iota; done) | decide)))); conv => whnf)
            refine ACall.eqArgs (args' := [.row 0 1 0 n, AV.int .i64 a', AV.int .i64 b', AV.int .i64 (pivot : Nat)]) (show [AV.row 0 1 0 n, AV.int .i64 a', AV.int .i64 b', AV.int .i64 P] = [AV.row 0 1 0 n, AV.int .i64 a', AV.int .i64 b', AV.int .i64 (pivot : Nat)] by rw [hPI]) ?_
            refine AFn.use [0] (hpt) (by kernel_rfl) rfl (by repeat' first | exact trivial | refine ⟨rfl, ?_⟩) fun _ => ?_
            (conv => whnf); repeat ((first | (refine And.intro ?_ ?_; (focus ((repeat' (first | exact trivial | refine And.intro rfl ?_)); done))) | (refine And.intro ?_ ?_; (focus (first | omega | (dsimp -iota only; omega) | (simp -iota; omega) | (simp -iota; done) | decide)))); conv => whnf)
            refine branchB_of (fun gs => ?_) (fun gs => ?_) <;> (first | replace gs := not_t gs | replace gs := not_f gs | skip) <;> (first | replace gs := of_decide_eq_true gs | replace gs := of_decide_eq_false gs | skip) <;> (first | replace gs := Classical.not_not.1 gs | skip) <;> (try dsimp only at gs)
            · rw [if_pos (by omega)] at hU
              have q := pdq_sorts nlt nlt_swo d4 a' mid lm true true m1 (by omega) m4
              have hrec := ih (mid - a') (by omega) d4 a' mid lm rfl (by omega) m1 (by omega) (by omega) m4
              obtain ⟨q1, q2⟩ := q
              have q3 := m6 _ q1 q2
              have q4 := q1.1
              generalize pdq nlt d4 a' mid lm true true = d5 at hU hrec q1 q2 q3 q4
              (conv => whnf); repeat ((first | (refine And.intro ?_ ?_; (focus ((repeat' (first | exact trivial | refine And.intro rfl ?_)); done))) | (refine And.intro ?_ ?_; (focus (first | omega | (dsimp -iota only; omega) | (simp -iota; omega) | (simp -iota; done) | decide)))); conv => whnf)
              refine ACall.eqArgs (args' := [.row 0 1 0 n, AV.int .i64 a', AV.int .i64 mid, AV.int .i64 (lm : Nat)]) (show [AV.row 0 1 0 n, AV.int .i64 a', AV.int .i64 mid, AV.int .i64 Lm] = [AV.row 0 1 0 n, AV.int .i64 a', AV.int .i64 mid, AV.int .i64 (lm : Nat)] by rw [hLI]) ?_
              refine AFn.use [0] (hrec) (by kernel_rfl) rfl (by repeat' first | exact trivial | refine ⟨rfl, ?_⟩) fun _ => ?_
              (conv => whnf); repeat ((first | (refine And.intro ?_ ?_; (focus ((repeat' (first | exact trivial | refine And.intro rfl ?_)); done))) | (refine And.intro ?_ ?_; (focus (first | omega | (dsimp -iota only; omega) | (simp -iota; omega) | (simp -iota; done) | decide)))); conv => whnf)
              refine ⟨⟨mid + 1, b', lm, _, _, d5, by omega, by omega, hb', by omega, by omega, q3.1, hU.symm⟩, Ent.mk' [some 0] (by kernel_rfl) ⟨AVE.refl _, AVE.int (by dsimp only; omega), AVE.refl _, AVE.int hLI, AVE.bool (decide_eq_decide.2 (by dsimp only; omega)), AVE.refl _, trivial⟩ (by (repeat' first | exact trivial | refine ⟨⟨_, rfl, ChE.refl _⟩, ?_⟩)), ?_⟩
              show b' - (mid + 1) < b' - a'
              omega
            · rw [if_neg (by omega)] at hU
              have q := pdq_sorts nlt nlt_swo d4 (mid + 1) b' lm true true (by omega) (by omega) m5
              have hrec := ih (b' - (mid + 1)) (by omega) d4 (mid + 1) b' lm rfl (by omega) (by omega) (by omega) (by omega) m5
              obtain ⟨q1, q2⟩ := q
              have q3 := m7 _ q1 q2
              have q4 := q1.1
              generalize pdq nlt d4 (mid + 1) b' lm true true = d5 at hU hrec q1 q2 q3 q4
              (conv => whnf); repeat ((first | (refine And.intro ?_ ?_; (focus ((repeat' (first | exact trivial | refine And.intro rfl ?_)); done))) | (refine And.intro ?_ ?_; (focus (first | omega | (dsimp -iota only; omega) | (simp -iota; omega) | (simp -iota; done) | decide)))); conv => whnf)
              refine ACall.eqArgs (args' := [.row 0 1 0 n, AV.int .i64 (mid + 1 : Nat), AV.int .i64 b', AV.int .i64 (lm : Nat)]) (show [AV.row 0 1 0 n, AV.int .i64 ((mid : Int) + 1), AV.int .i64 b', AV.int .i64 Lm] = [AV.row 0 1 0 n, AV.int .i64 (mid + 1 : Nat), AV.int .i64 b', AV.int .i64 (lm : Nat)] by rw [hLI]; rfl) ?_
              refine AFn.use [0] (hrec) (by kernel_rfl) rfl (by repeat' first | exact trivial | refine ⟨rfl, ?_⟩) fun _ => ?_
              (conv => whnf); repeat ((first | (refine And.intro ?_ ?_; (focus ((repeat' (first | exact trivial | refine And.intro rfl ?_)); done))) | (refine And.intro ?_ ?_; (focus (first | omega | (dsimp -iota only; omega) | (simp -iota; omega) | (simp -iota; done) | decide)))); conv => whnf)
              refine ⟨⟨a', mid, lm, _, _, d5, by omega, by omega, by omega, by omega, by omega, q3.1, hU.symm⟩, Ent.mk' [some 0] (by kernel_rfl) ⟨AVE.refl _, AVE.refl _, AVE.refl _, AVE.int hLI, AVE.bool (decide_eq_decide.2 (by dsimp only; omega)), AVE.refl _, trivial⟩ (by (repeat' first | exact trivial | refine ⟨⟨_, rfl, ChE.refl _⟩, ?_⟩)), ?_⟩
              show mid - a' < b' - a'
              omega
end Go.Proofs.Ytoofmkkcaoojiaa.Ax
