/-
  slices.Sort at numbers (uint64): the partitions.
-/
import Derived.Test.YtoofmkkcaoojiaaUc
import Derived.Sort.LotC
namespace Go.Proofs.Ytoofmkkcaoojiaa.Ax
open Go.RowKit Go.Sort
set_option maxRecDepth 100000
theorem scanUp_le (p : Nat → Bool) (d : Array Nat) (j : Nat) : ∀ (m i : Nat), j + 1 - i = m → i ≤ j + 1 → scanUp p d j i ≤ j + 1
  | 0, i, h, hi => by
    unfold scanUp
    rw [if_neg (by simp; omega)]
    exact hi
  | m + 1, i, h, hi => by
    unfold scanUp
    split
    · exact scanUp_le p d j m (i + 1) (by omega) (by omega)
    · exact hi
theorem scanUp_le2 (p : Nat → Bool) (d : Array Nat) (j i n : Nat) (hi : i ≤ n + 1) (hj : j < n) : scanUp p d j i ≤ n + 1 := by
  by_cases h : i ≤ j + 1
  · have := scanUp_le p d j _ i rfl h
    omega
  · unfold scanUp
    rw [if_neg (by simp only [Bool.and_eq_true, decide_eq_true_eq]; exact fun h2 => by have := h2.1; omega)]
    exact hi
set_option maxHeartbeats 4000000 in
theorem partEq_ok (n : Nat) (d : Array Nat) (a b p : Nat) (hn : d.size = n) (hab : a + 1 < b) (hb : b ≤ n) (hp1 : a ≤ p) (hp2 : p < b) (h1000 : n ≤ 1000000) : AFn Go.Proofs.Try.prog 59 [.row 0 1 0 n, AV.int .i64 a, AV.int .i64 b, AV.int .i64 p] (uH n d) (fun _ : Unit => AV.int .i64 (partitionEqual nlt d a b p).1) (fun _ => uH n (partitionEqual nlt d a b p).2) := by
  generalize hP : partitionEqual nlt d a b p = P
  unfold partitionEqual at hP
  have ia : ((a : Nat) : Int).toNat = a := by simp
  have ip : ((p : Nat) : Int).toNat = p := by simp
  have hs0 : (swp d a p).size = n := by rw [size_swp]; exact hn
  refine ACall.fin ?_
  refine ACall.walk (C := cfgU 84 1) (cfgUOk _ _) sch59 (fn := Go.Proofs.Try.f59) (by kernel_rfl) (by kernel_rfl) rfl (by kernel_rfl) (by kernel_rfl) rfl rfl ?_
  (conv => whnf); repeat ((first | (refine And.intro ?_ ?_; (focus ((repeat' (first | exact trivial | refine And.intro rfl ?_)); done))) | (refine And.intro ?_ ?_; (focus (first | omega | (dsimp -iota only; omega) | (simp -iota; omega) | (simp -iota; done) | decide)))); conv => whnf)
  refine AWP.loop (X := { x : Nat × Nat × Array Nat // x.2.2.size = n ∧ a < x.1 ∧ x.1 ≤ n + 1 ∧ x.2.1 < n ∧ partEqLoop nlt a x.1 x.2.1 x.2.2 = P }) (fun x => [(0, .row 0 1 0 n), (1, AV.int .i64 a), (9, AV.int .i64 x.1.1), (10, AV.int .i64 x.1.2.1)]) (fun x => uH n x.1.2.2) (fun x => x.1.2.1 + 1 - x.1.1) (⟨(a + 1, b - 1, swp d a p), hs0, by dsimp only; omega, by dsimp only; omega, by dsimp only; omega, hP⟩) ?_ fun x => AWP.go (S := sch59) (cfgUOk _ _) (.of_eq (by kernel_rfl)) ?_
  · refine Ent.mk' [some 0] (by kernel_rfl) ?_ ?_
    · exact ⟨AVE.refl _, AVE.refl _, AVE.int (by dsimp only; omega), AVE.int (by dsimp only; omega), trivial⟩
    · refine ⟨⟨_, rfl, ?_⟩, trivial⟩
      simp only [ia, ip, Nat.zero_add]
      exact uswp (by omega) (by omega)
  · obtain ⟨⟨i, j, dk⟩, hs, hai, hin, hjn, ho⟩ := x
    dsimp only at hs hai hin hjn ho
    rw [partEqLoop_eq] at ho
    generalize hI : scanUp (fun x => !nlt dk[a]! x) dk j i = I at ho
    generalize hJ : scanDown (fun x => nlt dk[a]! x) dk I j = J at ho
    have hIa : i ≤ I := hI ▸ scanUp_ge _ _ _ _
    have hIn : I ≤ n + 1 := hI ▸ scanUp_le2 _ _ _ _ _ hin hjn
    have hJl : J ≤ j := hJ ▸ scanDown_le _ _ _ _
    (conv => whnf); repeat ((first | (refine And.intro ?_ ?_; (focus ((repeat' (first | exact trivial | refine And.intro rfl ?_)); done))) | (refine And.intro ?_ ?_; (focus (first | omega | (dsimp -iota only; omega) | (simp -iota; omega) | (simp -iota; done) | decide)))); conv => whnf)
    refine AWP.merge (Y := Unit) (fun u => [(0, .row 0 1 0 n), (1, AV.int .i64 a), (9, AV.int .i64 I), (10, AV.int .i64 j)]) (fun u => uH n dk) 2 (fun u => ?_) ?_
    · (conv => whnf); repeat ((first | (refine And.intro ?_ ?_; (focus ((repeat' (first | exact trivial | refine And.intro rfl ?_)); done))) | (refine And.intro ?_ ?_; (focus (first | omega | (dsimp -iota only; omega) | (simp -iota; omega) | (simp -iota; done) | decide)))); conv => whnf)
      refine AWP.merge (Y := Unit) (fun u => [(0, .row 0 1 0 n), (1, AV.int .i64 a), (9, AV.int .i64 I), (10, AV.int .i64 J)]) (fun u => uH n dk) 4 (fun u => ?_) ?_
      · have iI : ((I : Nat) : Int).toNat = I := by simp
        have iJ : ((J : Nat) : Int).toNat = J := by simp
        (conv => whnf); repeat ((first | (refine And.intro ?_ ?_; (focus ((repeat' (first | exact trivial | refine And.intro rfl ?_)); done))) | (refine And.intro ?_ ?_; (focus (first | omega | (dsimp -iota only; omega) | (simp -iota; omega) | (simp -iota; done) | decide)))); conv => whnf)
        refine branchB_of (fun h => ?_) (fun h => ?_) <;> (first | replace h := not_t h | replace h := not_f h | skip) <;> (first | replace h := of_decide_eq_true h | replace h := of_decide_eq_false h | skip) <;> (first | replace h := Classical.not_not.1 h | skip) <;> (try dsimp only at h)
        · have e0 : P = (I, dk) := by rw [← ho, if_pos (by omega)]
          subst e0
          (conv => whnf); repeat ((first | (refine And.intro ?_ ?_; (focus ((repeat' (first | exact trivial | refine And.intro rfl ?_)); done))) | (refine And.intro ?_ ?_; (focus (first | omega | (dsimp -iota only; omega) | (simp -iota; omega) | (simp -iota; done) | decide)))); conv => whnf)
          refine ⟨_, _, Ent.mk' (e' := [(0, AV.int .i64 I)]) (H' := uH n dk) [some 0] (by kernel_rfl) ?_ ?_, (), rfl, rfl⟩
          · exact ⟨AVE.refl _, trivial⟩
          · (repeat' first | exact trivial | refine ⟨⟨_, rfl, ChE.refl _⟩, ?_⟩)
        · rw [if_neg (by omega)] at ho
          (conv => whnf); repeat ((first | (refine And.intro ?_ ?_; (focus ((repeat' (first | exact trivial | refine And.intro rfl ?_)); done))) | (refine And.intro ?_ ?_; (focus (first | omega | (dsimp -iota only; omega) | (simp -iota; omega) | (simp -iota; done) | decide)))); conv => whnf)
          refine ⟨⟨(I + 1, J - 1, swp dk I J), by rw [size_swp]; exact hs, by dsimp only; omega, by dsimp only; omega, by dsimp only; omega, ho⟩, Ent.mk' [some 0] (by kernel_rfl) (by repeat' first | exact trivial | refine And.intro (AVE.refl _) ?_ | refine And.intro (AVE.int (by first | rfl | omega | (dsimp only; omega) | (simp -iota; omega) | (simp -iota; done))) ?_ | refine And.intro (AVE.bool (by assumption)) ?_ | refine And.intro (AVE.len (by first | rfl | omega | (dsimp only; omega) | (simp -iota; omega) | (simp -iota; done))) ?_) ?_, ?_⟩
          · refine ⟨⟨_, rfl, ?_⟩, trivial⟩
            simp only [iI, iJ, Nat.zero_add]
            exact uswp (by omega) (by omega)
          · show J - 1 + 1 - (I + 1) < j + 1 - i
            omega
      refine AWP.loop (X := { x : Nat // x < n ∧ scanDown (fun x => nlt dk[a]! x) dk I x = J }) (fun x => [(0, .row 0 1 0 n), (1, AV.int .i64 a), (9, AV.int .i64 I), (10, AV.int .i64 x.1)]) (fun x => uH n dk) (fun x => x.1) (⟨j, hjn, hJ⟩) ?_ fun x => AWP.go (S := sch59) (cfgUOk _ _) (.of_eq (by kernel_rfl)) ?_
      · exact Ent.mk' [some 0] (by kernel_rfl) (by repeat' first | exact trivial | refine And.intro (AVE.refl _) ?_ | refine And.intro (AVE.int (by first | rfl | omega | (dsimp only; omega) | (simp -iota; omega) | (simp -iota; done))) ?_ | refine And.intro (AVE.bool (by assumption)) ?_ | refine And.intro (AVE.len (by first | rfl | omega | (dsimp only; omega) | (simp -iota; omega) | (simp -iota; done))) ?_) (by repeat' (first | exact trivial | refine ⟨⟨_, rfl, ChE.refl _⟩, ?_⟩))
      · obtain ⟨x, hxa, hx⟩ := x
        have ix : ((x : Nat) : Int).toNat = x := by simp
        have ia : ((a : Nat) : Int).toNat = a := by simp
        (conv => whnf); repeat ((first | (refine And.intro ?_ ?_; (focus ((repeat' (first | exact trivial | refine And.intro rfl ?_)); done))) | (refine And.intro ?_ ?_; (focus (first | omega | (dsimp -iota only; omega) | (simp -iota; omega) | (simp -iota; done) | decide)))); conv => whnf)
        refine branchB_of (fun g => ?_) (fun g => ?_) <;> (first | replace g := not_t g | replace g := not_f g | skip) <;> (first | replace g := of_decide_eq_true g | replace g := of_decide_eq_false g | skip) <;> (first | replace g := Classical.not_not.1 g | skip) <;> (try dsimp only at g)
        · obtain ⟨m, rfl⟩ : ∃ m, x = m + 1 := ⟨x - 1, by omega⟩
          (conv => whnf); repeat ((first | (refine And.intro ?_ ?_; (focus ((repeat' (first | exact trivial | refine And.intro rfl ?_)); done))) | (refine And.intro ?_ ?_; (focus (first | omega | (dsimp -iota only; omega) | (simp -iota; omega) | (simp -iota; done) | decide)))); conv => whnf)
          refine AFn.use [] (less_ok _ _) (by kernel_rfl) rfl (by repeat' first | exact trivial | refine ⟨rfl, ?_⟩) fun _ => ?_
          (conv => whnf); repeat ((first | (refine And.intro ?_ ?_; (focus ((repeat' (first | exact trivial | refine And.intro rfl ?_)); done))) | (refine And.intro ?_ ?_; (focus (first | omega | (dsimp -iota only; omega) | (simp -iota; omega) | (simp -iota; done) | decide)))); conv => whnf)
          refine branchB_of (fun g2 => ?_) (fun g2 => ?_) <;> (first | replace g2 := not_t g2 | replace g2 := not_f g2 | skip) <;> (first | replace g2 := of_decide_eq_true g2 | replace g2 := of_decide_eq_false g2 | skip) <;> (first | replace g2 := Classical.not_not.1 g2 | skip) <;> (try dsimp only at g2)
          · have hp : (decide (I ≤ m + 1) && (fun x => nlt dk[a]! x) dk[m + 1]!) = true := by simp only [ix, ia, Nat.zero_add] at g2; simp only [Bool.and_eq_true, decide_eq_true_eq]; exact ⟨by omega, by simpa [nlt] using g2⟩
            (conv => whnf); repeat ((first | (refine And.intro ?_ ?_; (focus ((repeat' (first | exact trivial | refine And.intro rfl ?_)); done))) | (refine And.intro ?_ ?_; (focus (first | omega | (dsimp -iota only; omega) | (simp -iota; omega) | (simp -iota; done) | decide)))); conv => whnf)
            refine ⟨⟨m, by omega, ?_⟩, Ent.mk' [some 0] (by kernel_rfl) (by repeat' first | exact trivial | refine And.intro (AVE.refl _) ?_ | refine And.intro (AVE.int (by first | rfl | omega | (dsimp only; omega) | (simp -iota; omega) | (simp -iota; done))) ?_ | refine And.intro (AVE.bool (by assumption)) ?_ | refine And.intro (AVE.len (by first | rfl | omega | (dsimp only; omega) | (simp -iota; omega) | (simp -iota; done))) ?_) ?_, ?_⟩
            · rw [← hx]
              conv => rhs; unfold scanDown
              rw [if_pos hp]
            · (repeat' first | exact trivial | refine ⟨⟨_, rfl, ChE.refl _⟩, ?_⟩)
            · show m < m + 1
              omega
          · have hp : ¬ (decide (I ≤ m + 1) && (fun x => nlt dk[a]! x) dk[m + 1]!) = true := by simp only [ix, ia, Nat.zero_add] at g2; simp only [Bool.and_eq_true, decide_eq_true_eq]; exact fun h => by have := h.2; simp [nlt] at this; omega
            have e0 : J = m + 1 := by
              rw [← hx]
              unfold scanDown
              rw [if_neg hp]
            (conv => whnf); repeat ((first | (refine And.intro ?_ ?_; (focus ((repeat' (first | exact trivial | refine And.intro rfl ?_)); done))) | (refine And.intro ?_ ?_; (focus (first | omega | (dsimp -iota only; omega) | (simp -iota; omega) | (simp -iota; done) | decide)))); conv => whnf)
            exact ⟨(), Ent.mk' [some 0] (by kernel_rfl) ⟨AVE.refl _, AVE.refl _, AVE.refl _, AVE.int (congrArg Int.ofNat e0.symm), trivial⟩ (by (repeat' first | exact trivial | refine ⟨⟨_, rfl, ChE.refl _⟩, ?_⟩))⟩
        · have e0 : J = x := by
            rw [← hx]
            cases x with
            | zero => rfl
            | succ m =>
              unfold scanDown
              rw [if_neg (by simp only [Bool.and_eq_true, decide_eq_true_eq]; exact fun h => by have := h.1; omega)]
          (conv => whnf); repeat ((first | (refine And.intro ?_ ?_; (focus ((repeat' (first | exact trivial | refine And.intro rfl ?_)); done))) | (refine And.intro ?_ ?_; (focus (first | omega | (dsimp -iota only; omega) | (simp -iota; omega) | (simp -iota; done) | decide)))); conv => whnf)
          exact ⟨(), Ent.mk' [some 0] (by kernel_rfl) ⟨AVE.refl _, AVE.refl _, AVE.refl _, AVE.int (congrArg Int.ofNat e0.symm), trivial⟩ (by (repeat' first | exact trivial | refine ⟨⟨_, rfl, ChE.refl _⟩, ?_⟩))⟩
    refine AWP.loop (X := { x : Nat // a < x ∧ scanUp (fun x => !nlt dk[a]! x) dk j x = I }) (fun x => [(0, .row 0 1 0 n), (1, AV.int .i64 a), (9, AV.int .i64 x.1), (10, AV.int .i64 j)]) (fun x => uH n dk) (fun x => j + 1 - x.1) (⟨i, hai, hI⟩) ?_ fun x => AWP.go (S := sch59) (cfgUOk _ _) (.of_eq (by kernel_rfl)) ?_
    · exact Ent.mk' [some 0] (by kernel_rfl) (by repeat' first | exact trivial | refine And.intro (AVE.refl _) ?_ | refine And.intro (AVE.int (by first | rfl | omega | (dsimp only; omega) | (simp -iota; omega) | (simp -iota; done))) ?_ | refine And.intro (AVE.bool (by assumption)) ?_ | refine And.intro (AVE.len (by first | rfl | omega | (dsimp only; omega) | (simp -iota; omega) | (simp -iota; done))) ?_) (by repeat' (first | exact trivial | refine ⟨⟨_, rfl, ChE.refl _⟩, ?_⟩))
    · obtain ⟨x, hxa, hx⟩ := x
      have ix : ((x : Nat) : Int).toNat = x := by simp
      have ia : ((a : Nat) : Int).toNat = a := by simp
      (conv => whnf); repeat ((first | (refine And.intro ?_ ?_; (focus ((repeat' (first | exact trivial | refine And.intro rfl ?_)); done))) | (refine And.intro ?_ ?_; (focus (first | omega | (dsimp -iota only; omega) | (simp -iota; omega) | (simp -iota; done) | decide)))); conv => whnf)
      refine branchB_of (fun g => ?_) (fun g => ?_) <;> (first | replace g := not_t g | replace g := not_f g | skip) <;> (first | replace g := of_decide_eq_true g | replace g := of_decide_eq_false g | skip) <;> (first | replace g := Classical.not_not.1 g | skip) <;> (try dsimp only at g)
      · (conv => whnf); repeat ((first | (refine And.intro ?_ ?_; (focus ((repeat' (first | exact trivial | refine And.intro rfl ?_)); done))) | (refine And.intro ?_ ?_; (focus (first | omega | (dsimp -iota only; omega) | (simp -iota; omega) | (simp -iota; done) | decide)))); conv => whnf)
        refine AFn.use [] (less_ok _ _) (by kernel_rfl) rfl (by repeat' first | exact trivial | refine ⟨rfl, ?_⟩) fun _ => ?_
        (conv => whnf); repeat ((first | (refine And.intro ?_ ?_; (focus ((repeat' (first | exact trivial | refine And.intro rfl ?_)); done))) | (refine And.intro ?_ ?_; (focus (first | omega | (dsimp -iota only; omega) | (simp -iota; omega) | (simp -iota; done) | decide)))); conv => whnf)
        refine branchB_of (fun g2 => ?_) (fun g2 => ?_) <;> (first | replace g2 := not_t g2 | replace g2 := not_f g2 | skip) <;> (first | replace g2 := of_decide_eq_true g2 | replace g2 := of_decide_eq_false g2 | skip) <;> (first | replace g2 := Classical.not_not.1 g2 | skip) <;> (try dsimp only at g2)
        · have hp : (decide (x ≤ j) && (fun x => !nlt dk[a]! x) dk[x]!) = true := by simp only [ix, ia, Nat.zero_add] at g2; simp only [Bool.and_eq_true, decide_eq_true_eq]; exact ⟨by omega, by simpa [nlt] using g2⟩
          (conv => whnf); repeat ((first | (refine And.intro ?_ ?_; (focus ((repeat' (first | exact trivial | refine And.intro rfl ?_)); done))) | (refine And.intro ?_ ?_; (focus (first | omega | (dsimp -iota only; omega) | (simp -iota; omega) | (simp -iota; done) | decide)))); conv => whnf)
          refine ⟨⟨x + 1, by omega, ?_⟩, Ent.mk' [some 0] (by kernel_rfl) (by repeat' first | exact trivial | refine And.intro (AVE.refl _) ?_ | refine And.intro (AVE.int (by first | rfl | omega | (dsimp only; omega) | (simp -iota; omega) | (simp -iota; done))) ?_ | refine And.intro (AVE.bool (by assumption)) ?_ | refine And.intro (AVE.len (by first | rfl | omega | (dsimp only; omega) | (simp -iota; omega) | (simp -iota; done))) ?_) ?_, ?_⟩
          · rw [← hx]
            conv => rhs; unfold scanUp
            rw [if_pos hp]
          · (repeat' first | exact trivial | refine ⟨⟨_, rfl, ChE.refl _⟩, ?_⟩)
          · show j + 1 - (x + 1) < j + 1 - x
            omega
        · have hp : ¬ (decide (x ≤ j) && (fun x => !nlt dk[a]! x) dk[x]!) = true := by simp only [ix, ia, Nat.zero_add] at g2; simp only [Bool.and_eq_true, decide_eq_true_eq]; exact fun h => by have := h.2; simp [nlt] at this; omega
          have e0 : I = x := by
            rw [← hx]
            unfold scanUp
            rw [if_neg hp]
          (conv => whnf); repeat ((first | (refine And.intro ?_ ?_; (focus ((repeat' (first | exact trivial | refine And.intro rfl ?_)); done))) | (refine And.intro ?_ ?_; (focus (first | omega | (dsimp -iota only; omega) | (simp -iota; omega) | (simp -iota; done) | decide)))); conv => whnf)
          exact ⟨(), Ent.mk' [some 0] (by kernel_rfl) ⟨AVE.refl _, AVE.refl _, AVE.int (congrArg Int.ofNat e0.symm), AVE.refl _, trivial⟩ (by (repeat' first | exact trivial | refine ⟨⟨_, rfl, ChE.refl _⟩, ?_⟩))⟩
      · have hp : ¬ (decide (x ≤ j) && (fun x => !nlt dk[a]! x) dk[x]!) = true := by simp only [Bool.and_eq_true, decide_eq_true_eq]; exact fun h => by have := h.1; omega
        have e0 : I = x := by
          rw [← hx]
          unfold scanUp
          rw [if_neg hp]
        (conv => whnf); repeat ((first | (refine And.intro ?_ ?_; (focus ((repeat' (first | exact trivial | refine And.intro rfl ?_)); done))) | (refine And.intro ?_ ?_; (focus (first | omega | (dsimp -iota only; omega) | (simp -iota; omega) | (simp -iota; done) | decide)))); conv => whnf)
        exact ⟨(), Ent.mk' [some 0] (by kernel_rfl) ⟨AVE.refl _, AVE.refl _, AVE.int (congrArg Int.ofNat e0.symm), AVE.refl _, trivial⟩ (by (repeat' first | exact trivial | refine ⟨⟨_, rfl, ChE.refl _⟩, ?_⟩))⟩
set_option maxHeartbeats 4000000 in
theorem part_ok (n : Nat) (d : Array Nat) (a b p : Nat) (hn : d.size = n) (hab : a + 1 < b) (hb : b ≤ n) (hp1 : a ≤ p) (hp2 : p < b) (h1000 : n ≤ 1000000) : AFn Go.Proofs.Try.prog 60 [.row 0 1 0 n, AV.int .i64 a, AV.int .i64 b, AV.int .i64 p] (uH n d) (fun _ : Unit => .tup [AV.int .i64 (partition nlt d a b p).1, AV.bool (partition nlt d a b p).2.1]) (fun _ => uH n (partition nlt d a b p).2.2) := by
  generalize hP : partition nlt d a b p = P
  unfold partition at hP
  have ia : ((a : Nat) : Int).toNat = a := by simp
  have ip : ((p : Nat) : Int).toNat = p := by simp
  have hs0 : (swp d a p).size = n := by rw [size_swp]; exact hn
  obtain ⟨q, hq⟩ : ∃ q, q = b - 1 := ⟨_, rfl⟩
  have hqn : q < n := by omega
  rw [← hq] at hP
  dsimp only at hP
  generalize hI : scanUp (fun x => nlt x (swp d a p)[a]!) (swp d a p) q (a + 1) = I at hP
  generalize hJ : scanDown (fun x => !nlt x (swp d a p)[a]!) (swp d a p) I q = J at hP
  generalize hR : partLoop nlt a (I + 1) (J - 1) (swp (swp d a p) I J) = R at hP
  have hIa : a + 1 ≤ I := hI ▸ scanUp_ge _ _ _ _
  have hIn : I ≤ n + 1 := hI ▸ scanUp_le2 _ _ _ _ _ (by omega) hqn
  have hJl : J ≤ q := hJ ▸ scanDown_le _ _ _ _
  have iI : ((I : Nat) : Int).toNat = I := by simp
  have iJ : ((J : Nat) : Int).toNat = J := by simp
  refine ACall.fin ?_
  refine ACall.walk (C := cfgU 168 1) (cfgUOk _ _) sch60 (fn := Go.Proofs.Try.f60) (by kernel_rfl) (by kernel_rfl) rfl (by kernel_rfl) (by kernel_rfl) rfl rfl ?_
  (conv => whnf); repeat ((first | (refine And.intro ?_ ?_; (focus ((repeat' (first | exact trivial | refine And.intro rfl ?_)); done))) | (refine And.intro ?_ ?_; (focus (first | omega | (dsimp -iota only; omega) | (simp -iota; omega) | (simp -iota; done) | decide)))); conv => whnf)
  refine AWP.merge (Y := Unit) (fun u => [(0, .row 0 1 0 n), (1, AV.int .i64 a), (10, AV.int .i64 I), (11, AV.int .i64 q)]) (fun u => uH n (swp d a p)) 0 (fun u => ?_) ?_
  · (conv => whnf); repeat ((first | (refine And.intro ?_ ?_; (focus ((repeat' (first | exact trivial | refine And.intro rfl ?_)); done))) | (refine And.intro ?_ ?_; (focus (first | omega | (dsimp -iota only; omega) | (simp -iota; omega) | (simp -iota; done) | decide)))); conv => whnf)
    refine AWP.merge (Y := Unit) (fun u => [(0, .row 0 1 0 n), (1, AV.int .i64 a), (10, AV.int .i64 I), (11, AV.int .i64 J)]) (fun u => uH n (swp d a p)) 2 (fun u => ?_) ?_
    · (conv => whnf); repeat ((first | (refine And.intro ?_ ?_; (focus ((repeat' (first | exact trivial | refine And.intro rfl ?_)); done))) | (refine And.intro ?_ ?_; (focus (first | omega | (dsimp -iota only; omega) | (simp -iota; omega) | (simp -iota; done) | decide)))); conv => whnf)
      refine branchB_of (fun h => ?_) (fun h => ?_) <;> (first | replace h := not_t h | replace h := not_f h | skip) <;> (first | replace h := of_decide_eq_true h | replace h := of_decide_eq_false h | skip) <;> (first | replace h := Classical.not_not.1 h | skip) <;> (try dsimp only at h)
      · rw [if_pos (by omega)] at hP
        subst hP
        (conv => whnf); repeat ((first | (refine And.intro ?_ ?_; (focus ((repeat' (first | exact trivial | refine And.intro rfl ?_)); done))) | (refine And.intro ?_ ?_; (focus (first | omega | (dsimp -iota only; omega) | (simp -iota; omega) | (simp -iota; done) | decide)))); conv => whnf)
        refine ⟨_, _, Ent.mk' (e' := [(0, .tup [AV.int .i64 J, AV.bool true])]) (H' := uH n (swp (swp d a p) J a)) [some 0] (by kernel_rfl) ?_ ?_, (), rfl, rfl⟩
        · exact ⟨AVE.refl _, trivial⟩
        · refine ⟨⟨_, rfl, ?_⟩, trivial⟩
          simp only [ia, iJ, Nat.zero_add]
          exact uswp (by omega) (by omega)
      rw [if_neg (by omega)] at hP
      (conv => whnf); repeat ((first | (refine And.intro ?_ ?_; (focus ((repeat' (first | exact trivial | refine And.intro rfl ?_)); done))) | (refine And.intro ?_ ?_; (focus (first | omega | (dsimp -iota only; omega) | (simp -iota; omega) | (simp -iota; done) | decide)))); conv => whnf)
      refine AWP.loop (X := { x : Nat × Nat × Array Nat // x.2.2.size = n ∧ a < x.1 ∧ x.1 ≤ n + 1 ∧ x.2.1 < n ∧ partLoop nlt a x.1 x.2.1 x.2.2 = R }) (fun x => [(0, .row 0 1 0 n), (1, AV.int .i64 a), (10, AV.int .i64 x.1.1), (11, AV.int .i64 x.1.2.1)]) (fun x => uH n x.1.2.2) (fun x => x.1.2.1 + 1 - x.1.1) (⟨(I + 1, J - 1, swp (swp d a p) I J), by dsimp only; rw [size_swp]; exact hs0, by dsimp only; omega, by dsimp only; omega, by dsimp only; omega, hR⟩) ?_ fun x => AWP.go (S := sch60) (cfgUOk _ _) (.of_eq (by kernel_rfl)) ?_
      · refine Ent.mk' [some 0] (by kernel_rfl) ?_ ?_
        · exact ⟨AVE.refl _, AVE.refl _, AVE.int (by dsimp only; omega), AVE.int (by dsimp only; omega), trivial⟩
        · refine ⟨⟨_, rfl, ?_⟩, trivial⟩
          simp only [iI, iJ, Nat.zero_add]
          exact uswp (by omega) (by omega)
      · obtain ⟨⟨i, j, dk⟩, hs, hai, hin, hjn, ho⟩ := x
        dsimp only at hs hai hin hjn ho
        rw [partLoop_eq] at ho
        generalize hI2 : scanUp (fun x => nlt x dk[a]!) dk j i = I2 at ho
        generalize hJ2 : scanDown (fun x => !nlt x dk[a]!) dk I2 j = J2 at ho
        have hIa2 : i ≤ I2 := hI2 ▸ scanUp_ge _ _ _ _
        have hIn2 : I2 ≤ n + 1 := hI2 ▸ scanUp_le2 _ _ _ _ _ hin hjn
        have hJl2 : J2 ≤ j := hJ2 ▸ scanDown_le _ _ _ _
        have iI2 : ((I2 : Nat) : Int).toNat = I2 := by simp
        have iJ2 : ((J2 : Nat) : Int).toNat = J2 := by simp
        (conv => whnf); repeat ((first | (refine And.intro ?_ ?_; (focus ((repeat' (first | exact trivial | refine And.intro rfl ?_)); done))) | (refine And.intro ?_ ?_; (focus (first | omega | (dsimp -iota only; omega) | (simp -iota; omega) | (simp -iota; done) | decide)))); conv => whnf)
        refine AWP.merge (Y := Unit) (fun u => [(0, .row 0 1 0 n), (1, AV.int .i64 a), (10, AV.int .i64 I2), (11, AV.int .i64 j)]) (fun u => uH n dk) 6 (fun u => ?_) ?_
        · (conv => whnf); repeat ((first | (refine And.intro ?_ ?_; (focus ((repeat' (first | exact trivial | refine And.intro rfl ?_)); done))) | (refine And.intro ?_ ?_; (focus (first | omega | (dsimp -iota only; omega) | (simp -iota; omega) | (simp -iota; done) | decide)))); conv => whnf)
          refine AWP.merge (Y := Unit) (fun u => [(0, .row 0 1 0 n), (1, AV.int .i64 a), (10, AV.int .i64 I2), (11, AV.int .i64 J2)]) (fun u => uH n dk) 8 (fun u => ?_) ?_
          · (conv => whnf); repeat ((first | (refine And.intro ?_ ?_; (focus ((repeat' (first | exact trivial | refine And.intro rfl ?_)); done))) | (refine And.intro ?_ ?_; (focus (first | omega | (dsimp -iota only; omega) | (simp -iota; omega) | (simp -iota; done) | decide)))); conv => whnf)
            refine branchB_of (fun h2 => ?_) (fun h2 => ?_) <;> (first | replace h2 := not_t h2 | replace h2 := not_f h2 | skip) <;> (first | replace h2 := of_decide_eq_true h2 | replace h2 := of_decide_eq_false h2 | skip) <;> (first | replace h2 := Classical.not_not.1 h2 | skip) <;> (try dsimp only at h2)
            · rw [if_pos (by omega)] at ho
              subst ho
              subst hP
              (conv => whnf); repeat ((first | (refine And.intro ?_ ?_; (focus ((repeat' (first | exact trivial | refine And.intro rfl ?_)); done))) | (refine And.intro ?_ ?_; (focus (first | omega | (dsimp -iota only; omega) | (simp -iota; omega) | (simp -iota; done) | decide)))); conv => whnf)
              refine ⟨_, _, Ent.mk' (e' := [(0, .tup [AV.int .i64 J2, AV.bool false])]) (H' := uH n (swp dk J2 a)) [some 0] (by kernel_rfl) ?_ ?_, (), rfl, rfl⟩
              · exact ⟨AVE.refl _, trivial⟩
              · refine ⟨⟨_, rfl, ?_⟩, trivial⟩
                simp only [ia, iJ2, Nat.zero_add]
                exact uswp (by omega) (by omega)
            · rw [if_neg (by omega)] at ho
              (conv => whnf); repeat ((first | (refine And.intro ?_ ?_; (focus ((repeat' (first | exact trivial | refine And.intro rfl ?_)); done))) | (refine And.intro ?_ ?_; (focus (first | omega | (dsimp -iota only; omega) | (simp -iota; omega) | (simp -iota; done) | decide)))); conv => whnf)
              refine ⟨⟨(I2 + 1, J2 - 1, swp dk I2 J2), by rw [size_swp]; exact hs, by dsimp only; omega, by dsimp only; omega, by dsimp only; omega, ho⟩, Ent.mk' [some 0] (by kernel_rfl) (by repeat' first | exact trivial | refine And.intro (AVE.refl _) ?_ | refine And.intro (AVE.int (by first | rfl | omega | (dsimp only; omega) | (simp -iota; omega) | (simp -iota; done))) ?_ | refine And.intro (AVE.bool (by assumption)) ?_ | refine And.intro (AVE.len (by first | rfl | omega | (dsimp only; omega) | (simp -iota; omega) | (simp -iota; done))) ?_) ?_, ?_⟩
              · refine ⟨⟨_, rfl, ?_⟩, trivial⟩
                simp only [iI2, iJ2, Nat.zero_add]
                exact uswp (by omega) (by omega)
              · show J2 - 1 + 1 - (I2 + 1) < j + 1 - i
                omega
          refine AWP.loop (X := { x : Nat // x < n ∧ scanDown (fun x => !nlt x dk[a]!) dk I2 x = J2 }) (fun x => [(0, .row 0 1 0 n), (1, AV.int .i64 a), (10, AV.int .i64 I2), (11, AV.int .i64 x.1)]) (fun x => uH n dk) (fun x => x.1) (⟨j, hjn, hJ2⟩) ?_ fun x => AWP.go (S := sch60) (cfgUOk _ _) (.of_eq (by kernel_rfl)) ?_
          · exact Ent.mk' [some 0] (by kernel_rfl) (by repeat' first | exact trivial | refine And.intro (AVE.refl _) ?_ | refine And.intro (AVE.int (by first | rfl | omega | (dsimp only; omega) | (simp -iota; omega) | (simp -iota; done))) ?_ | refine And.intro (AVE.bool (by assumption)) ?_ | refine And.intro (AVE.len (by first | rfl | omega | (dsimp only; omega) | (simp -iota; omega) | (simp -iota; done))) ?_) (by repeat' (first | exact trivial | refine ⟨⟨_, rfl, ChE.refl _⟩, ?_⟩))
          · obtain ⟨x, hxa, hx⟩ := x
            have ix : ((x : Nat) : Int).toNat = x := by simp
            have ia : ((a : Nat) : Int).toNat = a := by simp
            (conv => whnf); repeat ((first | (refine And.intro ?_ ?_; (focus ((repeat' (first | exact trivial | refine And.intro rfl ?_)); done))) | (refine And.intro ?_ ?_; (focus (first | omega | (dsimp -iota only; omega) | (simp -iota; omega) | (simp -iota; done) | decide)))); conv => whnf)
            refine branchB_of (fun g => ?_) (fun g => ?_) <;> (first | replace g := not_t g | replace g := not_f g | skip) <;> (first | replace g := of_decide_eq_true g | replace g := of_decide_eq_false g | skip) <;> (first | replace g := Classical.not_not.1 g | skip) <;> (try dsimp only at g)
            · obtain ⟨m, rfl⟩ : ∃ m, x = m + 1 := ⟨x - 1, by omega⟩
              (conv => whnf); repeat ((first | (refine And.intro ?_ ?_; (focus ((repeat' (first | exact trivial | refine And.intro rfl ?_)); done))) | (refine And.intro ?_ ?_; (focus (first | omega | (dsimp -iota only; omega) | (simp -iota; omega) | (simp -iota; done) | decide)))); conv => whnf)
              refine AFn.use [] (less_ok _ _) (by kernel_rfl) rfl (by repeat' first | exact trivial | refine ⟨rfl, ?_⟩) fun _ => ?_
              (conv => whnf); repeat ((first | (refine And.intro ?_ ?_; (focus ((repeat' (first | exact trivial | refine And.intro rfl ?_)); done))) | (refine And.intro ?_ ?_; (focus (first | omega | (dsimp -iota only; omega) | (simp -iota; omega) | (simp -iota; done) | decide)))); conv => whnf)
              refine branchB_of (fun g2 => ?_) (fun g2 => ?_) <;> (first | replace g2 := not_t g2 | replace g2 := not_f g2 | skip) <;> (first | replace g2 := of_decide_eq_true g2 | replace g2 := of_decide_eq_false g2 | skip) <;> (first | replace g2 := Classical.not_not.1 g2 | skip) <;> (try dsimp only at g2)
              · have hp : (decide (I2 ≤ m + 1) && (fun x => !nlt x dk[a]!) dk[m + 1]!) = true := by simp only [ix, ia, Nat.zero_add] at g2; simp only [Bool.and_eq_true, decide_eq_true_eq]; exact ⟨by omega, by simpa [nlt] using g2⟩
                (conv => whnf); repeat ((first | (refine And.intro ?_ ?_; (focus ((repeat' (first | exact trivial | refine And.intro rfl ?_)); done))) | (refine And.intro ?_ ?_; (focus (first | omega | (dsimp -iota only; omega) | (simp -iota; omega) | (simp -iota; done) | decide)))); conv => whnf)
                refine ⟨⟨m, by omega, ?_⟩, Ent.mk' [some 0] (by kernel_rfl) (by repeat' first | exact trivial | refine And.intro (AVE.refl _) ?_ | refine And.intro (AVE.int (by first | rfl | omega | (dsimp only; omega) | (simp -iota; omega) | (simp -iota; done))) ?_ | refine And.intro (AVE.bool (by assumption)) ?_ | refine And.intro (AVE.len (by first | rfl | omega | (dsimp only; omega) | (simp -iota; omega) | (simp -iota; done))) ?_) ?_, ?_⟩
                · rw [← hx]
                  conv => rhs; unfold scanDown
                  rw [if_pos hp]
                · (repeat' first | exact trivial | refine ⟨⟨_, rfl, ChE.refl _⟩, ?_⟩)
                · show m < m + 1
                  omega
              · have hp : ¬ (decide (I2 ≤ m + 1) && (fun x => !nlt x dk[a]!) dk[m + 1]!) = true := by simp only [ix, ia, Nat.zero_add] at g2; simp only [Bool.and_eq_true, decide_eq_true_eq]; exact fun h => by have := h.2; simp [nlt] at this; omega
                have e0 : J2 = m + 1 := by
                  rw [← hx]
                  unfold scanDown
                  rw [if_neg hp]
                (conv => whnf); repeat ((first | (refine And.intro ?_ ?_; (focus ((repeat' (first | exact trivial | refine And.intro rfl ?_)); done))) | (refine And.intro ?_ ?_; (focus (first | omega | (dsimp -iota only; omega) | (simp -iota; omega) | (simp -iota; done) | decide)))); conv => whnf)
                exact ⟨(), Ent.mk' [some 0] (by kernel_rfl) ⟨AVE.refl _, AVE.refl _, AVE.refl _, AVE.int (congrArg Int.ofNat e0.symm), trivial⟩ (by (repeat' first | exact trivial | refine ⟨⟨_, rfl, ChE.refl _⟩, ?_⟩))⟩
            · have e0 : J2 = x := by
                rw [← hx]
                cases x with
                | zero => rfl
                | succ m =>
                  unfold scanDown
                  rw [if_neg (by simp only [Bool.and_eq_true, decide_eq_true_eq]; exact fun h => by have := h.1; omega)]
              (conv => whnf); repeat ((first | (refine And.intro ?_ ?_; (focus ((repeat' (first | exact trivial | refine And.intro rfl ?_)); done))) | (refine And.intro ?_ ?_; (focus (first | omega | (dsimp -iota only; omega) | (simp -iota; omega) | (simp -iota; done) | decide)))); conv => whnf)
              exact ⟨(), Ent.mk' [some 0] (by kernel_rfl) ⟨AVE.refl _, AVE.refl _, AVE.refl _, AVE.int (congrArg Int.ofNat e0.symm), trivial⟩ (by (repeat' first | exact trivial | refine ⟨⟨_, rfl, ChE.refl _⟩, ?_⟩))⟩
        refine AWP.loop (X := { x : Nat // a < x ∧ scanUp (fun x => nlt x dk[a]!) dk j x = I2 }) (fun x => [(0, .row 0 1 0 n), (1, AV.int .i64 a), (10, AV.int .i64 x.1), (11, AV.int .i64 j)]) (fun x => uH n dk) (fun x => j + 1 - x.1) (⟨i, hai, hI2⟩) ?_ fun x => AWP.go (S := sch60) (cfgUOk _ _) (.of_eq (by kernel_rfl)) ?_
        · exact Ent.mk' [some 0] (by kernel_rfl) (by repeat' first | exact trivial | refine And.intro (AVE.refl _) ?_ | refine And.intro (AVE.int (by first | rfl | omega | (dsimp only; omega) | (simp -iota; omega) | (simp -iota; done))) ?_ | refine And.intro (AVE.bool (by assumption)) ?_ | refine And.intro (AVE.len (by first | rfl | omega | (dsimp only; omega) | (simp -iota; omega) | (simp -iota; done))) ?_) (by repeat' (first | exact trivial | refine ⟨⟨_, rfl, ChE.refl _⟩, ?_⟩))
        · obtain ⟨x, hxa, hx⟩ := x
          have ix : ((x : Nat) : Int).toNat = x := by simp
          have ia : ((a : Nat) : Int).toNat = a := by simp
          (conv => whnf); repeat ((first | (refine And.intro ?_ ?_; (focus ((repeat' (first | exact trivial | refine And.intro rfl ?_)); done))) | (refine And.intro ?_ ?_; (focus (first | omega | (dsimp -iota only; omega) | (simp -iota; omega) | (simp -iota; done) | decide)))); conv => whnf)
          refine branchB_of (fun g => ?_) (fun g => ?_) <;> (first | replace g := not_t g | replace g := not_f g | skip) <;> (first | replace g := of_decide_eq_true g | replace g := of_decide_eq_false g | skip) <;> (first | replace g := Classical.not_not.1 g | skip) <;> (try dsimp only at g)
          · (conv => whnf); repeat ((first | (refine And.intro ?_ ?_; (focus ((repeat' (first | exact trivial | refine And.intro rfl ?_)); done))) | (refine And.intro ?_ ?_; (focus (first | omega | (dsimp -iota only; omega) | (simp -iota; omega) | (simp -iota; done) | decide)))); conv => whnf)
            refine AFn.use [] (less_ok _ _) (by kernel_rfl) rfl (by repeat' first | exact trivial | refine ⟨rfl, ?_⟩) fun _ => ?_
            (conv => whnf); repeat ((first | (refine And.intro ?_ ?_; (focus ((repeat' (first | exact trivial | refine And.intro rfl ?_)); done))) | (refine And.intro ?_ ?_; (focus (first | omega | (dsimp -iota only; omega) | (simp -iota; omega) | (simp -iota; done) | decide)))); conv => whnf)
            refine branchB_of (fun g2 => ?_) (fun g2 => ?_) <;> (first | replace g2 := not_t g2 | replace g2 := not_f g2 | skip) <;> (first | replace g2 := of_decide_eq_true g2 | replace g2 := of_decide_eq_false g2 | skip) <;> (first | replace g2 := Classical.not_not.1 g2 | skip) <;> (try dsimp only at g2)
            · have hp : (decide (x ≤ j) && (fun x => nlt x dk[a]!) dk[x]!) = true := by simp only [ix, ia, Nat.zero_add] at g2; simp only [Bool.and_eq_true, decide_eq_true_eq]; exact ⟨by omega, by simpa [nlt] using g2⟩
              (conv => whnf); repeat ((first | (refine And.intro ?_ ?_; (focus ((repeat' (first | exact trivial | refine And.intro rfl ?_)); done))) | (refine And.intro ?_ ?_; (focus (first | omega | (dsimp -iota only; omega) | (simp -iota; omega) | (simp -iota; done) | decide)))); conv => whnf)
              refine ⟨⟨x + 1, by omega, ?_⟩, Ent.mk' [some 0] (by kernel_rfl) (by repeat' first | exact trivial | refine And.intro (AVE.refl _) ?_ | refine And.intro (AVE.int (by first | rfl | omega | (dsimp only; omega) | (simp -iota; omega) | (simp -iota; done))) ?_ | refine And.intro (AVE.bool (by assumption)) ?_ | refine And.intro (AVE.len (by first | rfl | omega | (dsimp only; omega) | (simp -iota; omega) | (simp -iota; done))) ?_) ?_, ?_⟩
              · rw [← hx]
                conv => rhs; unfold scanUp
                rw [if_pos hp]
              · (repeat' first | exact trivial | refine ⟨⟨_, rfl, ChE.refl _⟩, ?_⟩)
              · show j + 1 - (x + 1) < j + 1 - x
                omega
            · have hp : ¬ (decide (x ≤ j) && (fun x => nlt x dk[a]!) dk[x]!) = true := by simp only [ix, ia, Nat.zero_add] at g2; simp only [Bool.and_eq_true, decide_eq_true_eq]; exact fun h => by have := h.2; simp [nlt] at this; omega
              have e0 : I2 = x := by
                rw [← hx]
                unfold scanUp
                rw [if_neg hp]
              (conv => whnf); repeat ((first | (refine And.intro ?_ ?_; (focus ((repeat' (first | exact trivial | refine And.intro rfl ?_)); done))) | (refine And.intro ?_ ?_; (focus (first | omega | (dsimp -iota only; omega) | (simp -iota; omega) | (simp -iota; done) | decide)))); conv => whnf)
              exact ⟨(), Ent.mk' [some 0] (by kernel_rfl) ⟨AVE.refl _, AVE.refl _, AVE.int (congrArg Int.ofNat e0.symm), AVE.refl _, trivial⟩ (by (repeat' first | exact trivial | refine ⟨⟨_, rfl, ChE.refl _⟩, ?_⟩))⟩
          · have hp : ¬ (decide (x ≤ j) && (fun x => nlt x dk[a]!) dk[x]!) = true := by simp only [Bool.and_eq_true, decide_eq_true_eq]; exact fun h => by have := h.1; omega
            have e0 : I2 = x := by
              rw [← hx]
              unfold scanUp
              rw [if_neg hp]
            (conv => whnf); repeat ((first | (refine And.intro ?_ ?_; (focus ((repeat' (first | exact trivial | refine And.intro rfl ?_)); done))) | (refine And.intro ?_ ?_; (focus (first | omega | (dsimp -iota only; omega) | (simp -iota; omega) | (simp -iota; done) | decide)))); conv => whnf)
            exact ⟨(), Ent.mk' [some 0] (by kernel_rfl) ⟨AVE.refl _, AVE.refl _, AVE.int (congrArg Int.ofNat e0.symm), AVE.refl _, trivial⟩ (by (repeat' first | exact trivial | refine ⟨⟨_, rfl, ChE.refl _⟩, ?_⟩))⟩
    refine AWP.loop (X := { x : Nat // x < n ∧ scanDown (fun x => !nlt x (swp d a p)[a]!) (swp d a p) I x = J }) (fun x => [(0, .row 0 1 0 n), (1, AV.int .i64 a), (10, AV.int .i64 I), (11, AV.int .i64 x.1)]) (fun x => uH n (swp d a p)) (fun x => x.1) (⟨q, hqn, hJ⟩) ?_ fun x => AWP.go (S := sch60) (cfgUOk _ _) (.of_eq (by kernel_rfl)) ?_
    · exact Ent.mk' [some 0] (by kernel_rfl) (by repeat' first | exact trivial | refine And.intro (AVE.refl _) ?_ | refine And.intro (AVE.int (by first | rfl | omega | (dsimp only; omega) | (simp -iota; omega) | (simp -iota; done))) ?_ | refine And.intro (AVE.bool (by assumption)) ?_ | refine And.intro (AVE.len (by first | rfl | omega | (dsimp only; omega) | (simp -iota; omega) | (simp -iota; done))) ?_) (by repeat' (first | exact trivial | refine ⟨⟨_, rfl, ChE.refl _⟩, ?_⟩))
    · obtain ⟨x, hxa, hx⟩ := x
      have ix : ((x : Nat) : Int).toNat = x := by simp
      have ia : ((a : Nat) : Int).toNat = a := by simp
      (conv => whnf); repeat ((first | (refine And.intro ?_ ?_; (focus ((repeat' (first | exact trivial | refine And.intro rfl ?_)); done))) | (refine And.intro ?_ ?_; (focus (first | omega | (dsimp -iota only; omega) | (simp -iota; omega) | (simp -iota; done) | decide)))); conv => whnf)
      refine branchB_of (fun g => ?_) (fun g => ?_) <;> (first | replace g := not_t g | replace g := not_f g | skip) <;> (first | replace g := of_decide_eq_true g | replace g := of_decide_eq_false g | skip) <;> (first | replace g := Classical.not_not.1 g | skip) <;> (try dsimp only at g)
      · obtain ⟨m, rfl⟩ : ∃ m, x = m + 1 := ⟨x - 1, by omega⟩
        (conv => whnf); repeat ((first | (refine And.intro ?_ ?_; (focus ((repeat' (first | exact trivial | refine And.intro rfl ?_)); done))) | (refine And.intro ?_ ?_; (focus (first | omega | (dsimp -iota only; omega) | (simp -iota; omega) | (simp -iota; done) | decide)))); conv => whnf)
        refine AFn.use [] (less_ok _ _) (by kernel_rfl) rfl (by repeat' first | exact trivial | refine ⟨rfl, ?_⟩) fun _ => ?_
        (conv => whnf); repeat ((first | (refine And.intro ?_ ?_; (focus ((repeat' (first | exact trivial | refine And.intro rfl ?_)); done))) | (refine And.intro ?_ ?_; (focus (first | omega | (dsimp -iota only; omega) | (simp -iota; omega) | (simp -iota; done) | decide)))); conv => whnf)
        refine branchB_of (fun g2 => ?_) (fun g2 => ?_) <;> (first | replace g2 := not_t g2 | replace g2 := not_f g2 | skip) <;> (first | replace g2 := of_decide_eq_true g2 | replace g2 := of_decide_eq_false g2 | skip) <;> (first | replace g2 := Classical.not_not.1 g2 | skip) <;> (try dsimp only at g2)
        · have hp : (decide (I ≤ m + 1) && (fun x => !nlt x (swp d a p)[a]!) (swp d a p)[m + 1]!) = true := by simp only [ix, ia, Nat.zero_add] at g2; simp only [Bool.and_eq_true, decide_eq_true_eq]; exact ⟨by omega, by simpa [nlt] using g2⟩
          (conv => whnf); repeat ((first | (refine And.intro ?_ ?_; (focus ((repeat' (first | exact trivial | refine And.intro rfl ?_)); done))) | (refine And.intro ?_ ?_; (focus (first | omega | (dsimp -iota only; omega) | (simp -iota; omega) | (simp -iota; done) | decide)))); conv => whnf)
          refine ⟨⟨m, by omega, ?_⟩, Ent.mk' [some 0] (by kernel_rfl) (by repeat' first | exact trivial | refine And.intro (AVE.refl _) ?_ | refine And.intro (AVE.int (by first | rfl | omega | (dsimp only; omega) | (simp -iota; omega) | (simp -iota; done))) ?_ | refine And.intro (AVE.bool (by assumption)) ?_ | refine And.intro (AVE.len (by first | rfl | omega | (dsimp only; omega) | (simp -iota; omega) | (simp -iota; done))) ?_) ?_, ?_⟩
          · rw [← hx]
            conv => rhs; unfold scanDown
            rw [if_pos hp]
          · (repeat' first | exact trivial | refine ⟨⟨_, rfl, ChE.refl _⟩, ?_⟩)
          · show m < m + 1
            omega
        · have hp : ¬ (decide (I ≤ m + 1) && (fun x => !nlt x (swp d a p)[a]!) (swp d a p)[m + 1]!) = true := by simp only [ix, ia, Nat.zero_add] at g2; simp only [Bool.and_eq_true, decide_eq_true_eq]; exact fun h => by have := h.2; simp [nlt] at this; omega
          have e0 : J = m + 1 := by
            rw [← hx]
            unfold scanDown
            rw [if_neg hp]
          (conv => whnf); repeat ((first | (refine And.intro ?_ ?_; (focus ((repeat' (first | exact trivial | refine And.intro rfl ?_)); done))) | (refine And.intro ?_ ?_; (focus (first | omega | (dsimp -iota only; omega) | (simp -iota; omega) | (simp -iota; done) | decide)))); conv => whnf)
          exact ⟨(), Ent.mk' [some 0] (by kernel_rfl) ⟨AVE.refl _, AVE.refl _, AVE.refl _, AVE.int (congrArg Int.ofNat e0.symm), trivial⟩ (by (repeat' first | exact trivial | refine ⟨⟨_, rfl, ChE.refl _⟩, ?_⟩))⟩
      · have e0 : J = x := by
          rw [← hx]
          cases x with
          | zero => rfl
          | succ m =>
            unfold scanDown
            rw [if_neg (by simp only [Bool.and_eq_true, decide_eq_true_eq]; exact fun h => by have := h.1; omega)]
        (conv => whnf); repeat ((first | (refine And.intro ?_ ?_; (focus ((repeat' (first | exact trivial | refine And.intro rfl ?_)); done))) | (refine And.intro ?_ ?_; (focus (first | omega | (dsimp -iota only; omega) | (simp -iota; omega) | (simp -iota; done) | decide)))); conv => whnf)
        exact ⟨(), Ent.mk' [some 0] (by kernel_rfl) ⟨AVE.refl _, AVE.refl _, AVE.refl _, AVE.int (congrArg Int.ofNat e0.symm), trivial⟩ (by (repeat' first | exact trivial | refine ⟨⟨_, rfl, ChE.refl _⟩, ?_⟩))⟩
  refine AWP.loop (X := { x : Nat // a < x ∧ scanUp (fun x => nlt x (swp d a p)[a]!) (swp d a p) q x = I }) (fun x => [(0, .row 0 1 0 n), (1, AV.int .i64 a), (10, AV.int .i64 x.1), (11, AV.int .i64 q)]) (fun x => uH n (swp d a p)) (fun x => q + 1 - x.1) (⟨(a + 1), by omega, hI⟩) ?_ fun x => AWP.go (S := sch60) (cfgUOk _ _) (.of_eq (by kernel_rfl)) ?_
  · refine Ent.mk' [some 0] (by kernel_rfl) ?_ ?_
    · exact ⟨AVE.refl _, AVE.refl _, AVE.int (by first | omega | (dsimp only; omega)), AVE.int (by first | omega | (dsimp only; omega)), trivial⟩
    · refine ⟨⟨_, rfl, ?_⟩, trivial⟩
      simp only [ia, ip, Nat.zero_add]
      exact uswp (by omega) (by omega)
  · obtain ⟨x, hxa, hx⟩ := x
    have ix : ((x : Nat) : Int).toNat = x := by simp
    have ia : ((a : Nat) : Int).toNat = a := by simp
    (conv => whnf); repeat ((first | (refine And.intro ?_ ?_; (focus ((repeat' (first | exact trivial | refine And.intro rfl ?_)); done))) | (refine And.intro ?_ ?_; (focus (first | omega | (dsimp -iota only; omega) | (simp -iota; omega) | (simp -iota; done) | decide)))); conv => whnf)
    refine branchB_of (fun g => ?_) (fun g => ?_) <;> (first | replace g := not_t g | replace g := not_f g | skip) <;> (first | replace g := of_decide_eq_true g | replace g := of_decide_eq_false g | skip) <;> (first | replace g := Classical.not_not.1 g | skip) <;> (try dsimp only at g)
    · (conv => whnf); repeat ((first | (refine And.intro ?_ ?_; (focus ((repeat' (first | exact trivial | refine And.intro rfl ?_)); done))) | (refine And.intro ?_ ?_; (focus (first | omega | (dsimp -iota only; omega) | (simp -iota; omega) | (simp -iota; done) | decide)))); conv => whnf)
      refine AFn.use [] (less_ok _ _) (by kernel_rfl) rfl (by repeat' first | exact trivial | refine ⟨rfl, ?_⟩) fun _ => ?_
      (conv => whnf); repeat ((first | (refine And.intro ?_ ?_; (focus ((repeat' (first | exact trivial | refine And.intro rfl ?_)); done))) | (refine And.intro ?_ ?_; (focus (first | omega | (dsimp -iota only; omega) | (simp -iota; omega) | (simp -iota; done) | decide)))); conv => whnf)
      refine branchB_of (fun g2 => ?_) (fun g2 => ?_) <;> (first | replace g2 := not_t g2 | replace g2 := not_f g2 | skip) <;> (first | replace g2 := of_decide_eq_true g2 | replace g2 := of_decide_eq_false g2 | skip) <;> (first | replace g2 := Classical.not_not.1 g2 | skip) <;> (try dsimp only at g2)
      · have hp : (decide (x ≤ q) && (fun x => nlt x (swp d a p)[a]!) (swp d a p)[x]!) = true := by simp only [ix, ia, Nat.zero_add] at g2; simp only [Bool.and_eq_true, decide_eq_true_eq]; exact ⟨by omega, by simpa [nlt] using g2⟩
        (conv => whnf); repeat ((first | (refine And.intro ?_ ?_; (focus ((repeat' (first | exact trivial | refine And.intro rfl ?_)); done))) | (refine And.intro ?_ ?_; (focus (first | omega | (dsimp -iota only; omega) | (simp -iota; omega) | (simp -iota; done) | decide)))); conv => whnf)
        refine ⟨⟨x + 1, by omega, ?_⟩, Ent.mk' [some 0] (by kernel_rfl) (by repeat' first | exact trivial | refine And.intro (AVE.refl _) ?_ | refine And.intro (AVE.int (by first | rfl | omega | (dsimp only; omega) | (simp -iota; omega) | (simp -iota; done))) ?_ | refine And.intro (AVE.bool (by assumption)) ?_ | refine And.intro (AVE.len (by first | rfl | omega | (dsimp only; omega) | (simp -iota; omega) | (simp -iota; done))) ?_) ?_, ?_⟩
        · rw [← hx]
          conv => rhs; unfold scanUp
          rw [if_pos hp]
        · (repeat' first | exact trivial | refine ⟨⟨_, rfl, ChE.refl _⟩, ?_⟩)
        · show q + 1 - (x + 1) < q + 1 - x
          omega
      · have hp : ¬ (decide (x ≤ q) && (fun x => nlt x (swp d a p)[a]!) (swp d a p)[x]!) = true := by simp only [ix, ia, Nat.zero_add] at g2; simp only [Bool.and_eq_true, decide_eq_true_eq]; exact fun h => by have := h.2; simp [nlt] at this; omega
        have e0 : I = x := by
          rw [← hx]
          unfold scanUp
          rw [if_neg hp]
        (conv => whnf); repeat ((first | (refine And.intro ?_ ?_; (focus ((repeat' (first | exact trivial | refine And.intro rfl ?_)); done))) | (refine And.intro ?_ ?_; (focus (first | omega | (dsimp -iota only; omega) | (simp -iota; omega) | (simp -iota; done) | decide)))); conv => whnf)
        exact ⟨(), Ent.mk' [some 0] (by kernel_rfl) ⟨AVE.refl _, AVE.refl _, AVE.int (congrArg Int.ofNat e0.symm), AVE.refl _, trivial⟩ (by (repeat' first | exact trivial | refine ⟨⟨_, rfl, ChE.refl _⟩, ?_⟩))⟩
    · have hp : ¬ (decide (x ≤ q) && (fun x => nlt x (swp d a p)[a]!) (swp d a p)[x]!) = true := by simp only [Bool.and_eq_true, decide_eq_true_eq]; exact fun h => by have := h.1; omega
      have e0 : I = x := by
        rw [← hx]
        unfold scanUp
        rw [if_neg hp]
      (conv => whnf); repeat ((first | (refine And.intro ?_ ?_; (focus ((repeat' (first | exact trivial | refine And.intro rfl ?_)); done))) | (refine And.intro ?_ ?_; (focus (first | omega | (dsimp -iota only; omega) | (simp -iota; omega) | (simp -iota; done) | decide)))); conv => whnf)
      exact ⟨(), Ent.mk' [some 0] (by kernel_rfl) ⟨AVE.refl _, AVE.refl _, AVE.int (congrArg Int.ofNat e0.symm), AVE.refl _, trivial⟩ (by (repeat' first | exact trivial | refine ⟨⟨_, rfl, ChE.refl _⟩, ?_⟩))⟩
end Go.Proofs.Ytoofmkkcaoojiaa.Ax
