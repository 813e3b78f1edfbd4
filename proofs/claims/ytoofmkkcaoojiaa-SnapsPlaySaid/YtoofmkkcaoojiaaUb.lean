/-
  slices.Sort at numbers (uint64): reversed ranges, siftDown, the heap sort.
-/
import Derived.Test.YtoofmkkcaoojiaaUa
namespace Go.Proofs.Ytoofmkkcaoojiaa.Ax
open Go.RowKit Go.Sort
set_option maxRecDepth 100000
theorem rev_ok (n : Nat) (d : Array Nat) (a b : Nat) (hn : d.size = n) (hab : a < b) (hb : b ≤ n) (h1000 : n ≤ 1000000) : AFn Go.Proofs.Try.prog 56 [.row 0 1 0 n, AV.int .i64 a, AV.int .i64 b] (uH n d) (fun _ : Unit => .tup []) (fun _ => uH n (reverseRange d a b)) := by
  generalize hR : reverseRange d a b = R
  refine ACall.fin ?_
  refine ACall.walk (C := cfgU 32 1) (cfgUOk _ _) sch56 (fn := Go.Proofs.Try.f56) (by kernel_rfl) (by kernel_rfl) rfl (by kernel_rfl) (by kernel_rfl) rfl rfl ?_
  (conv => whnf); repeat ((first | (refine And.intro ?_ ?_; (focus ((repeat' (first | exact trivial | refine And.intro rfl ?_)); done))) | (refine And.intro ?_ ?_; (focus (first | omega | (dsimp -iota only; omega) | (simp -iota; omega) | (simp -iota; done) | decide)))); conv => whnf)
  refine AWP.loop (X := { x : Nat × Nat × Array Nat // x.2.2.size = n ∧ x.1 ≤ n ∧ x.2.1 < n ∧ reverseLoop x.1 x.2.1 x.2.2 = R }) (fun x => [(0, .row 0 1 0 n), (6, AV.int .i64 x.1.1), (7, AV.int .i64 x.1.2.1)]) (fun x => uH n x.1.2.2) (fun x => x.1.2.1 - x.1.1) (⟨(a, b - 1, d), hn, by dsimp only; omega, by dsimp only; omega, hR⟩) ?_ fun x => AWP.go (S := sch56) (cfgUOk _ _) (.of_eq (by kernel_rfl)) ?_
  · exact Ent.mk' [some 0] (by kernel_rfl) (by repeat' first | exact trivial | refine And.intro (AVE.refl _) ?_ | refine And.intro (AVE.int (by first | rfl | omega | (dsimp only; omega) | (simp -iota; omega) | (simp -iota; done))) ?_ | refine And.intro (AVE.bool (by assumption)) ?_ | refine And.intro (AVE.len (by first | rfl | omega | (dsimp only; omega) | (simp -iota; omega) | (simp -iota; done))) ?_) (by repeat' (first | exact trivial | refine ⟨⟨_, rfl, ChE.refl _⟩, ?_⟩))
  · obtain ⟨⟨i, j, dk⟩, hs, hi, hj, ho⟩ := x
    dsimp only at hs hi hj ho
    have hix : ((i : Nat) : Int).toNat = i := by simp
    have hjx : ((j : Nat) : Int).toNat = j := by simp
    (conv => whnf); repeat ((first | (refine And.intro ?_ ?_; (focus ((repeat' (first | exact trivial | refine And.intro rfl ?_)); done))) | (refine And.intro ?_ ?_; (focus (first | omega | (dsimp -iota only; omega) | (simp -iota; omega) | (simp -iota; done) | decide)))); conv => whnf)
    refine branchB_of (fun h => ?_) (fun h => ?_) <;> (first | replace h := not_t h | replace h := not_f h | skip) <;> (first | replace h := of_decide_eq_true h | replace h := of_decide_eq_false h | skip) <;> (first | replace h := Classical.not_not.1 h | skip) <;> (try dsimp only at h)
    · (conv => whnf); repeat ((first | (refine And.intro ?_ ?_; (focus ((repeat' (first | exact trivial | refine And.intro rfl ?_)); done))) | (refine And.intro ?_ ?_; (focus (first | omega | (dsimp -iota only; omega) | (simp -iota; omega) | (simp -iota; done) | decide)))); conv => whnf)
      refine ⟨⟨(i + 1, j - 1, swp dk i j), by rw [size_swp]; exact hs, by dsimp only; omega, by dsimp only; omega, ?_⟩, Ent.mk' [some 0] (by kernel_rfl) (by repeat' first | exact trivial | refine And.intro (AVE.refl _) ?_ | refine And.intro (AVE.int (by first | rfl | omega | (dsimp only; omega) | (simp -iota; omega) | (simp -iota; done))) ?_ | refine And.intro (AVE.bool (by assumption)) ?_ | refine And.intro (AVE.len (by first | rfl | omega | (dsimp only; omega) | (simp -iota; omega) | (simp -iota; done))) ?_) ?_, ?_⟩
      · rw [← ho]
        conv => rhs; unfold reverseLoop
        rw [if_pos (by omega)]
      · refine ⟨⟨_, rfl, ?_⟩, trivial⟩
        simp only [hix, hjx, Nat.zero_add]
        exact uswp (by omega) (by omega)
      · show j - 1 - (i + 1) < j - i
        omega
    · (conv => whnf); repeat ((first | (refine And.intro ?_ ?_; (focus ((repeat' (first | exact trivial | refine And.intro rfl ?_)); done))) | (refine And.intro ?_ ?_; (focus (first | omega | (dsimp -iota only; omega) | (simp -iota; omega) | (simp -iota; done) | decide)))); conv => whnf)
      have e0 : R = dk := by
        rw [← ho]
        unfold reverseLoop
        rw [if_neg (by omega)]
      subst e0
      refine ⟨_, _, Ent.mk' (e' := [(0, .tup [])]) (H' := uH n R) [some 0] (by kernel_rfl) ?_ ?_, (), rfl, rfl⟩
      · exact ⟨AVE.refl _, trivial⟩
      · (repeat' first | exact trivial | refine ⟨⟨_, rfl, ChE.refl _⟩, ?_⟩)
theorem size_siftDown (hi first : Nat) : ∀ (root : Nat) (d : Array Nat), (siftDown nlt hi first root d).size = d.size := by
  intro root
  generalize hm : hi - root = m
  induction m using Nat.strongRecOn generalizing root with
  | ind m ih =>
    intro d
    unfold siftDown
    split
    · rfl
    · split
      · split
        · rfl
        · split
          · rw [ih (hi - (2 * root + 2)) (by omega) _ rfl, size_swp]
          · rfl
      · split
        · rfl
        · rw [ih (hi - (2 * root + 1)) (by omega) _ rfl, size_swp]
set_option maxHeartbeats 2000000 in
theorem sift_ok (n : Nat) (d : Array Nat) (lo hi first : Nat) (hn : d.size = n) (hlo : lo ≤ n) (hb : first + hi ≤ n) (h1000 : n ≤ 1000000) : AFn Go.Proofs.Try.prog 66 [.row 0 1 0 n, AV.int .i64 lo, AV.int .i64 hi, AV.int .i64 first] (uH n d) (fun _ : Unit => .tup []) (fun _ => uH n (siftDown nlt hi first lo d)) := by
  generalize hR : siftDown nlt hi first lo d = R
  refine ACall.fin ?_
  refine ACall.walk (C := cfgU 76 1) (cfgUOk _ _) sch66 (fn := Go.Proofs.Try.f66) (by kernel_rfl) (by kernel_rfl) rfl (by kernel_rfl) (by kernel_rfl) rfl rfl ?_
  (conv => whnf); repeat ((first | (refine And.intro ?_ ?_; (focus ((repeat' (first | exact trivial | refine And.intro rfl ?_)); done))) | (refine And.intro ?_ ?_; (focus (first | omega | (dsimp -iota only; omega) | (simp -iota; omega) | (simp -iota; done) | decide)))); conv => whnf)
  refine AWP.loop (X := { x : Nat × Array Nat // x.2.size = n ∧ x.1 ≤ n ∧ siftDown nlt hi first x.1 x.2 = R }) (fun x => [(0, .row 0 1 0 n), (2, AV.int .i64 hi), (3, AV.int .i64 first), (8, AV.int .i64 x.1.1)]) (fun x => uH n x.1.2) (fun x => hi - x.1.1) (⟨(lo, d), hn, hlo, hR⟩) ?_ fun x => AWP.go (S := sch66) (cfgUOk _ _) (.of_eq (by kernel_rfl)) ?_
  · exact Ent.mk' [some 0] (by kernel_rfl) (by repeat' first | exact trivial | refine And.intro (AVE.refl _) ?_ | refine And.intro (AVE.int (by first | rfl | omega | (dsimp only; omega) | (simp -iota; omega) | (simp -iota; done))) ?_ | refine And.intro (AVE.bool (by assumption)) ?_ | refine And.intro (AVE.len (by first | rfl | omega | (dsimp only; omega) | (simp -iota; omega) | (simp -iota; done))) ?_) (by repeat' (first | exact trivial | refine ⟨⟨_, rfl, ChE.refl _⟩, ?_⟩))
  · obtain ⟨⟨r, dk⟩, hs, hr, ho⟩ := x
    dsimp only at hs hr ho
    have i1 : ((first : Int) + (2 * (r : Int) + 1)).toNat = first + (2 * r + 1) := by omega
    have i2 : ((first : Int) + (2 * (r : Int) + 1) + 1).toNat = first + (2 * r + 1) + 1 := by omega
    have i3 : ((first : Int) + (2 * (r : Int) + 1 + 1)).toNat = first + (2 * r + 2) := by omega
    have i4 : ((first : Int) + (r : Int)).toNat = first + r := by omega
    (conv => whnf); repeat ((first | (refine And.intro ?_ ?_; (focus ((repeat' (first | exact trivial | refine And.intro rfl ?_)); done))) | (refine And.intro ?_ ?_; (focus (first | omega | (dsimp -iota only; omega) | (simp -iota; omega) | (simp -iota; done) | decide)))); conv => whnf)
    refine branchB_of (fun h => ?_) (fun h => ?_) <;> (first | replace h := not_t h | replace h := not_f h | skip) <;> (first | replace h := of_decide_eq_true h | replace h := of_decide_eq_false h | skip) <;> (first | replace h := Classical.not_not.1 h | skip) <;> (try dsimp only at h)
    · (conv => whnf); repeat ((first | (refine And.intro ?_ ?_; (focus ((repeat' (first | exact trivial | refine And.intro rfl ?_)); done))) | (refine And.intro ?_ ?_; (focus (first | omega | (dsimp -iota only; omega) | (simp -iota; omega) | (simp -iota; done) | decide)))); conv => whnf)
      have e0 : R = dk := by
        rw [← ho]
        unfold siftDown
        rw [dif_pos (by omega)]
      subst e0
      refine ⟨_, _, Ent.mk' (e' := [(0, .tup [])]) (H' := uH n R) [some 0] (by kernel_rfl) ?_ ?_, (), rfl, rfl⟩
      · exact ⟨AVE.refl _, trivial⟩
      · (repeat' first | exact trivial | refine ⟨⟨_, rfl, ChE.refl _⟩, ?_⟩)
    · (conv => whnf); repeat ((first | (refine And.intro ?_ ?_; (focus ((repeat' (first | exact trivial | refine And.intro rfl ?_)); done))) | (refine And.intro ?_ ?_; (focus (first | omega | (dsimp -iota only; omega) | (simp -iota; omega) | (simp -iota; done) | decide)))); conv => whnf)
      refine branchB_of (fun g => ?_) (fun g => ?_) <;> (first | replace g := not_t g | replace g := not_f g | skip) <;> (first | replace g := of_decide_eq_true g | replace g := of_decide_eq_false g | skip) <;> (first | replace g := Classical.not_not.1 g | skip) <;> (try dsimp only at g)
      · (conv => whnf); repeat ((first | (refine And.intro ?_ ?_; (focus ((repeat' (first | exact trivial | refine And.intro rfl ?_)); done))) | (refine And.intro ?_ ?_; (focus (first | omega | (dsimp -iota only; omega) | (simp -iota; omega) | (simp -iota; done) | decide)))); conv => whnf)
        refine AFn.use [] (less_ok _ _) (by kernel_rfl) rfl (by repeat' first | exact trivial | refine ⟨rfl, ?_⟩) fun _ => ?_
        (conv => whnf); repeat ((first | (refine And.intro ?_ ?_; (focus ((repeat' (first | exact trivial | refine And.intro rfl ?_)); done))) | (refine And.intro ?_ ?_; (focus (first | omega | (dsimp -iota only; omega) | (simp -iota; omega) | (simp -iota; done) | decide)))); conv => whnf)
        refine branchB_of (fun g2 => ?_) (fun g2 => ?_) <;> (first | replace g2 := not_t g2 | replace g2 := not_f g2 | skip) <;> (first | replace g2 := of_decide_eq_true g2 | replace g2 := of_decide_eq_false g2 | skip) <;> (first | replace g2 := Classical.not_not.1 g2 | skip) <;> (try dsimp only at g2)
        · have hc : (decide (2 * r + 1 + 1 < hi) && nlt dk[first + (2 * r + 1)]! dk[first + (2 * r + 1) + 1]!) = true := by simp only [i1, i2, Nat.zero_add] at g2; simp only [Bool.and_eq_true, decide_eq_true_eq, nlt]; exact ⟨by omega, g2⟩
          (conv => whnf); repeat ((first | (refine And.intro ?_ ?_; (focus ((repeat' (first | exact trivial | refine And.intro rfl ?_)); done))) | (refine And.intro ?_ ?_; (focus (first | omega | (dsimp -iota only; omega) | (simp -iota; omega) | (simp -iota; done) | decide)))); conv => whnf)
          refine AFn.use [] (less_ok _ _) (by kernel_rfl) rfl (by repeat' first | exact trivial | refine ⟨rfl, ?_⟩) fun _ => ?_
          (conv => whnf); repeat ((first | (refine And.intro ?_ ?_; (focus ((repeat' (first | exact trivial | refine And.intro rfl ?_)); done))) | (refine And.intro ?_ ?_; (focus (first | omega | (dsimp -iota only; omega) | (simp -iota; omega) | (simp -iota; done) | decide)))); conv => whnf)
          refine branchB_of (fun g3 => ?_) (fun g3 => ?_) <;> (first | replace g3 := not_t g3 | replace g3 := not_f g3 | skip) <;> (first | replace g3 := of_decide_eq_true g3 | replace g3 := of_decide_eq_false g3 | skip) <;> (first | replace g3 := Classical.not_not.1 g3 | skip) <;> (try dsimp only at g3)
          · have g4 : nlt dk[first + r]! dk[first + (2 * r + 2)]! = false := by simp only [i3, i4, Nat.zero_add] at g3; simpa [nlt] using g3
            have e0 : R = dk := by
              rw [← ho]
              unfold siftDown
              rw [dif_neg (by omega), if_pos hc, if_pos (by rw [g4]; rfl)]
            subst e0
            (conv => whnf); repeat ((first | (refine And.intro ?_ ?_; (focus ((repeat' (first | exact trivial | refine And.intro rfl ?_)); done))) | (refine And.intro ?_ ?_; (focus (first | omega | (dsimp -iota only; omega) | (simp -iota; omega) | (simp -iota; done) | decide)))); conv => whnf)
            refine ⟨_, _, Ent.mk' (e' := [(0, .tup [])]) (H' := uH n R) [some 0] (by kernel_rfl) ?_ ?_, (), rfl, rfl⟩
            · exact ⟨AVE.refl _, trivial⟩
            · (repeat' first | exact trivial | refine ⟨⟨_, rfl, ChE.refl _⟩, ?_⟩)
          · have g4 : nlt dk[first + r]! dk[first + (2 * r + 2)]! = true := by simp only [i3, i4, Nat.zero_add] at g3; simpa [nlt] using g3
            (conv => whnf); repeat ((first | (refine And.intro ?_ ?_; (focus ((repeat' (first | exact trivial | refine And.intro rfl ?_)); done))) | (refine And.intro ?_ ?_; (focus (first | omega | (dsimp -iota only; omega) | (simp -iota; omega) | (simp -iota; done) | decide)))); conv => whnf)
            refine ⟨⟨(2 * r + 2, swp dk (first + r) (first + (2 * r + 2))), by rw [size_swp]; exact hs, by dsimp only; omega, ?_⟩, Ent.mk' [some 0] (by kernel_rfl) (by repeat' first | exact trivial | refine And.intro (AVE.refl _) ?_ | refine And.intro (AVE.int (by first | rfl | omega | (dsimp only; omega) | (simp -iota; omega) | (simp -iota; done))) ?_ | refine And.intro (AVE.bool (by assumption)) ?_ | refine And.intro (AVE.len (by first | rfl | omega | (dsimp only; omega) | (simp -iota; omega) | (simp -iota; done))) ?_) ?_, ?_⟩
            · rw [← ho]
              conv => rhs; unfold siftDown
              rw [dif_neg (by omega), if_pos hc, if_neg (by rw [g4]; decide), dif_pos (by omega)]
            · refine ⟨⟨_, rfl, ?_⟩, trivial⟩
              simp only [i3, i4, Nat.zero_add]
              exact uswp (by omega) (by omega)
            · show hi - (2 * r + 2) < hi - r
              omega
        · have hc : ¬ (decide (2 * r + 1 + 1 < hi) && nlt dk[first + (2 * r + 1)]! dk[first + (2 * r + 1) + 1]!) = true := by simp only [i1, i2, Nat.zero_add] at g2; simp only [Bool.and_eq_true, decide_eq_true_eq, nlt]; exact fun h => g2 h.2
          (conv => whnf); repeat ((first | (refine And.intro ?_ ?_; (focus ((repeat' (first | exact trivial | refine And.intro rfl ?_)); done))) | (refine And.intro ?_ ?_; (focus (first | omega | (dsimp -iota only; omega) | (simp -iota; omega) | (simp -iota; done) | decide)))); conv => whnf)
          refine AFn.use [] (less_ok _ _) (by kernel_rfl) rfl (by repeat' first | exact trivial | refine ⟨rfl, ?_⟩) fun _ => ?_
          (conv => whnf); repeat ((first | (refine And.intro ?_ ?_; (focus ((repeat' (first | exact trivial | refine And.intro rfl ?_)); done))) | (refine And.intro ?_ ?_; (focus (first | omega | (dsimp -iota only; omega) | (simp -iota; omega) | (simp -iota; done) | decide)))); conv => whnf)
          refine branchB_of (fun g3 => ?_) (fun g3 => ?_) <;> (first | replace g3 := not_t g3 | replace g3 := not_f g3 | skip) <;> (first | replace g3 := of_decide_eq_true g3 | replace g3 := of_decide_eq_false g3 | skip) <;> (first | replace g3 := Classical.not_not.1 g3 | skip) <;> (try dsimp only at g3)
          · have g4 : nlt dk[first + r]! dk[first + (2 * r + 1)]! = false := by simp only [i1, i4, Nat.zero_add] at g3; simpa [nlt] using g3
            have e0 : R = dk := by
              rw [← ho]
              unfold siftDown
              rw [dif_neg (by omega), if_neg hc, if_pos (by rw [g4]; rfl)]
            subst e0
            (conv => whnf); repeat ((first | (refine And.intro ?_ ?_; (focus ((repeat' (first | exact trivial | refine And.intro rfl ?_)); done))) | (refine And.intro ?_ ?_; (focus (first | omega | (dsimp -iota only; omega) | (simp -iota; omega) | (simp -iota; done) | decide)))); conv => whnf)
            refine ⟨_, _, Ent.mk' (e' := [(0, .tup [])]) (H' := uH n R) [some 0] (by kernel_rfl) ?_ ?_, (), rfl, rfl⟩
            · exact ⟨AVE.refl _, trivial⟩
            · (repeat' first | exact trivial | refine ⟨⟨_, rfl, ChE.refl _⟩, ?_⟩)
          · have g4 : nlt dk[first + r]! dk[first + (2 * r + 1)]! = true := by simp only [i1, i4, Nat.zero_add] at g3; simpa [nlt] using g3
            (conv => whnf); repeat ((first | (refine And.intro ?_ ?_; (focus ((repeat' (first | exact trivial | refine And.intro rfl ?_)); done))) | (refine And.intro ?_ ?_; (focus (first | omega | (dsimp -iota only; omega) | (simp -iota; omega) | (simp -iota; done) | decide)))); conv => whnf)
            refine ⟨⟨(2 * r + 1, swp dk (first + r) (first + (2 * r + 1))), by rw [size_swp]; exact hs, by dsimp only; omega, ?_⟩, Ent.mk' [some 0] (by kernel_rfl) (by repeat' first | exact trivial | refine And.intro (AVE.refl _) ?_ | refine And.intro (AVE.int (by first | rfl | omega | (dsimp only; omega) | (simp -iota; omega) | (simp -iota; done))) ?_ | refine And.intro (AVE.bool (by assumption)) ?_ | refine And.intro (AVE.len (by first | rfl | omega | (dsimp only; omega) | (simp -iota; omega) | (simp -iota; done))) ?_) ?_, ?_⟩
            · rw [← ho]
              conv => rhs; unfold siftDown
              rw [dif_neg (by omega), if_neg hc, if_neg (by rw [g4]; decide)]
            · refine ⟨⟨_, rfl, ?_⟩, trivial⟩
              simp only [i1, i4, Nat.zero_add]
              exact uswp (by omega) (by omega)
            · show hi - (2 * r + 1) < hi - r
              omega
      · have hc : ¬ (decide (2 * r + 1 + 1 < hi) && nlt dk[first + (2 * r + 1)]! dk[first + (2 * r + 1) + 1]!) = true := by simp only [Bool.and_eq_true, decide_eq_true_eq]; exact fun h => by omega
        (conv => whnf); repeat ((first | (refine And.intro ?_ ?_; (focus ((repeat' (first | exact trivial | refine And.intro rfl ?_)); done))) | (refine And.intro ?_ ?_; (focus (first | omega | (dsimp -iota only; omega) | (simp -iota; omega) | (simp -iota; done) | decide)))); conv => whnf)
        refine AFn.use [] (less_ok _ _) (by kernel_rfl) rfl (by repeat' first | exact trivial | refine ⟨rfl, ?_⟩) fun _ => ?_
        (conv => whnf); repeat ((first | (refine And.intro ?_ ?_; (focus ((repeat' (first | exact trivial | refine And.intro rfl ?_)); done))) | (refine And.intro ?_ ?_; (focus (first | omega | (dsimp -iota only; omega) | (simp -iota; omega) | (simp -iota; done) | decide)))); conv => whnf)
        refine branchB_of (fun g3 => ?_) (fun g3 => ?_) <;> (first | replace g3 := not_t g3 | replace g3 := not_f g3 | skip) <;> (first | replace g3 := of_decide_eq_true g3 | replace g3 := of_decide_eq_false g3 | skip) <;> (first | replace g3 := Classical.not_not.1 g3 | skip) <;> (try dsimp only at g3)
        · have g4 : nlt dk[first + r]! dk[first + (2 * r + 1)]! = false := by simp only [i1, i4, Nat.zero_add] at g3; simpa [nlt] using g3
          have e0 : R = dk := by
            rw [← ho]
            unfold siftDown
            rw [dif_neg (by omega), if_neg hc, if_pos (by rw [g4]; rfl)]
          subst e0
          (conv => whnf); repeat ((first | (refine And.intro ?_ ?_; (focus ((repeat' (first | exact trivial | refine And.intro rfl ?_)); done))) | (refine And.intro ?_ ?_; (focus (first | omega | (dsimp -iota only; omega) | (simp -iota; omega) | (simp -iota; done) | decide)))); conv => whnf)
          refine ⟨_, _, Ent.mk' (e' := [(0, .tup [])]) (H' := uH n R) [some 0] (by kernel_rfl) ?_ ?_, (), rfl, rfl⟩
          · exact ⟨AVE.refl _, trivial⟩
          · (repeat' first | exact trivial | refine ⟨⟨_, rfl, ChE.refl _⟩, ?_⟩)
        · have g4 : nlt dk[first + r]! dk[first + (2 * r + 1)]! = true := by simp only [i1, i4, Nat.zero_add] at g3; simpa [nlt] using g3
          (conv => whnf); repeat ((first | (refine And.intro ?_ ?_; (focus ((repeat' (first | exact trivial | refine And.intro rfl ?_)); done))) | (refine And.intro ?_ ?_; (focus (first | omega | (dsimp -iota only; omega) | (simp -iota; omega) | (simp -iota; done) | decide)))); conv => whnf)
          refine ⟨⟨(2 * r + 1, swp dk (first + r) (first + (2 * r + 1))), by rw [size_swp]; exact hs, by dsimp only; omega, ?_⟩, Ent.mk' [some 0] (by kernel_rfl) (by repeat' first | exact trivial | refine And.intro (AVE.refl _) ?_ | refine And.intro (AVE.int (by first | rfl | omega | (dsimp only; omega) | (simp -iota; omega) | (simp -iota; done))) ?_ | refine And.intro (AVE.bool (by assumption)) ?_ | refine And.intro (AVE.len (by first | rfl | omega | (dsimp only; omega) | (simp -iota; omega) | (simp -iota; done))) ?_) ?_, ?_⟩
          · rw [← ho]
            conv => rhs; unfold siftDown
            rw [dif_neg (by omega), if_neg hc, if_neg (by rw [g4]; decide)]
          · refine ⟨⟨_, rfl, ?_⟩, trivial⟩
            simp only [i1, i4, Nat.zero_add]
            exact uswp (by omega) (by omega)
          · show hi - (2 * r + 1) < hi - r
            omega
theorem size_heapBuild (hi first : Nat) : ∀ (k : Nat) (d : Array Nat), (heapBuild nlt hi first k d).size = d.size
  | 0, _ => rfl
  | k + 1, d => by
    show (heapBuild nlt hi first k (siftDown nlt hi first k d)).size = d.size
    rw [size_heapBuild hi first k, size_siftDown]
theorem heap_ok (n : Nat) (d : Array Nat) (a b : Nat) (hn : d.size = n) (hab : a < b) (hb : b ≤ n) (h1000 : n ≤ 1000000) : AFn Go.Proofs.Try.prog 53 [.row 0 1 0 n, AV.int .i64 a, AV.int .i64 b] (uH n d) (fun _ : Unit => .tup []) (fun _ => uH n (heapSort nlt d a b)) := by
  generalize hR : heapSort nlt d a b = R
  unfold heapSort at hR
  generalize hB : heapBuild nlt (b - a) a ((b - a - 1) / 2 + 1) d = B at hR
  have hBs : B.size = n := by rw [← hB, size_heapBuild]; exact hn
  refine ACall.fin ?_
  refine ACall.walk (C := cfgU 56 1) (cfgUOk _ _) sch53 (fn := Go.Proofs.Try.f53) (by kernel_rfl) (by kernel_rfl) rfl (by kernel_rfl) (by kernel_rfl) rfl rfl ?_
  (conv => whnf); repeat ((first | (refine And.intro ?_ ?_; (focus ((repeat' (first | exact trivial | refine And.intro rfl ?_)); done))) | (refine And.intro ?_ ?_; (focus (first | omega | (dsimp -iota only; omega) | (simp -iota; omega) | (simp -iota; done) | decide)))); conv => whnf)
  refine AWP.loop (X := { x : Int × Array Nat // x.2.size = n ∧ -1 ≤ x.1 ∧ x.1 < b - a ∧ heapBuild nlt (b - a) a (x.1 + 1).toNat x.2 = B }) (fun x => [(0, .row 0 1 0 n), (6, AV.int .i64 a), (7, AV.int .i64 (0 : Nat)), (8, AV.int .i64 ((b - a : Nat) : Int)), (9, AV.int .i64 x.1.1)]) (fun x => uH n x.1.2) (fun x => (x.1.1 + 1).toNat) (⟨(((b - a - 1) / 2 : Nat), d), hn, by dsimp only; omega, by dsimp only; omega, by rw [← hB]; congr 1⟩) ?_ fun x => AWP.go (S := sch53) (cfgUOk _ _) (.of_eq (by kernel_rfl)) ?_
  · refine Ent.mk' [some 0] (by kernel_rfl) ?_ ?_
    · refine ⟨AVE.refl _, AVE.refl _, AVE.refl _, AVE.int (by omega), AVE.int ?_, trivial⟩
      have h1 : ((b : Int) - a - 1) = ((b - a - 1 : Nat) : Int) := by omega
      rw [h1]
      rfl
    · (repeat' first | exact trivial | refine ⟨⟨_, rfl, ChE.refl _⟩, ?_⟩)
  · obtain ⟨⟨i, dk⟩, hs, hk1, hk2, ho⟩ := x
    dsimp only at hs hk1 hk2 ho
    (conv => whnf); repeat ((first | (refine And.intro ?_ ?_; (focus ((repeat' (first | exact trivial | refine And.intro rfl ?_)); done))) | (refine And.intro ?_ ?_; (focus (first | omega | (dsimp -iota only; omega) | (simp -iota; omega) | (simp -iota; done) | decide)))); conv => whnf)
    refine branchB_of (fun h => ?_) (fun h => ?_) <;> (first | replace h := not_t h | replace h := not_f h | skip) <;> (first | replace h := of_decide_eq_true h | replace h := of_decide_eq_false h | skip) <;> (first | replace h := Classical.not_not.1 h | skip) <;> (try dsimp only at h)
    · obtain ⟨m, rfl⟩ := Int.eq_ofNat_of_zero_le h
      (conv => whnf); repeat ((first | (refine And.intro ?_ ?_; (focus ((repeat' (first | exact trivial | refine And.intro rfl ?_)); done))) | (refine And.intro ?_ ?_; (focus (first | omega | (dsimp -iota only; omega) | (simp -iota; omega) | (simp -iota; done) | decide)))); conv => whnf)
      refine AFn.use [0] (sift_ok n dk m (b - a) a hs (by omega) (by omega) h1000) (by kernel_rfl) rfl (by repeat' first | exact trivial | refine ⟨rfl, ?_⟩) fun _ => ?_
      (conv => whnf); repeat ((first | (refine And.intro ?_ ?_; (focus ((repeat' (first | exact trivial | refine And.intro rfl ?_)); done))) | (refine And.intro ?_ ?_; (focus (first | omega | (dsimp -iota only; omega) | (simp -iota; omega) | (simp -iota; done) | decide)))); conv => whnf)
      refine ⟨⟨((m : Int) - 1, siftDown nlt (b - a) a m dk), by rw [size_siftDown]; exact hs, by dsimp only; omega, by dsimp only; omega, ?_⟩, Ent.mk' [some 0] (by kernel_rfl) (by repeat' first | exact trivial | refine And.intro (AVE.refl _) ?_ | refine And.intro (AVE.int (by first | rfl | omega | (dsimp only; omega) | (simp -iota; omega) | (simp -iota; done))) ?_ | refine And.intro (AVE.bool (by assumption)) ?_ | refine And.intro (AVE.len (by first | rfl | omega | (dsimp only; omega) | (simp -iota; omega) | (simp -iota; done))) ?_) ?_, ?_⟩
      · have e1 : ((m : Int) + 1).toNat = m + 1 := by omega
        have e2 : ((m : Int) - 1 + 1).toNat = m := by omega
        rw [e1] at ho
        dsimp only
        rw [e2]
        exact ho
      · (repeat' first | exact trivial | refine ⟨⟨_, rfl, ChE.refl _⟩, ?_⟩)
      · show ((m : Int) - 1 + 1).toNat < ((m : Int) + 1).toNat
        omega
    · have e0 : B = dk := by
        have e1 : (i + 1).toNat = 0 := by omega
        rw [e1] at ho
        exact ho.symm
      subst e0
      (conv => whnf); repeat ((first | (refine And.intro ?_ ?_; (focus ((repeat' (first | exact trivial | refine And.intro rfl ?_)); done))) | (refine And.intro ?_ ?_; (focus (first | omega | (dsimp -iota only; omega) | (simp -iota; omega) | (simp -iota; done) | decide)))); conv => whnf)
      refine AWP.loop (X := { x : Int × Array Nat // x.2.size = n ∧ -1 ≤ x.1 ∧ x.1 < b - a ∧ heapPop nlt a (x.1 + 1).toNat x.2 = R }) (fun x => [(0, .row 0 1 0 n), (6, AV.int .i64 a), (7, AV.int .i64 (0 : Nat)), (10, AV.int .i64 x.1.1)]) (fun x => uH n x.1.2) (fun x => (x.1.1 + 1).toNat) (⟨(((b - a : Nat) : Int) - 1, B), hBs, by dsimp only; omega, by dsimp only; omega, by rw [← hR]; congr 1; omega⟩) ?_ fun x => AWP.go (S := sch53) (cfgUOk _ _) (.of_eq (by kernel_rfl)) ?_
      · exact Ent.mk' [some 0] (by kernel_rfl) (by repeat' first | exact trivial | refine And.intro (AVE.refl _) ?_ | refine And.intro (AVE.int (by first | rfl | omega | (dsimp only; omega) | (simp -iota; omega) | (simp -iota; done))) ?_ | refine And.intro (AVE.bool (by assumption)) ?_ | refine And.intro (AVE.len (by first | rfl | omega | (dsimp only; omega) | (simp -iota; omega) | (simp -iota; done))) ?_) (by repeat' (first | exact trivial | refine ⟨⟨_, rfl, ChE.refl _⟩, ?_⟩))
      · obtain ⟨⟨i, dk⟩, hs, hk1, hk2, ho⟩ := x
        dsimp only at hs hk1 hk2 ho
        (conv => whnf); repeat ((first | (refine And.intro ?_ ?_; (focus ((repeat' (first | exact trivial | refine And.intro rfl ?_)); done))) | (refine And.intro ?_ ?_; (focus (first | omega | (dsimp -iota only; omega) | (simp -iota; omega) | (simp -iota; done) | decide)))); conv => whnf)
        refine branchB_of (fun h2 => ?_) (fun h2 => ?_) <;> (first | replace h2 := not_t h2 | replace h2 := not_f h2 | skip) <;> (first | replace h2 := of_decide_eq_true h2 | replace h2 := of_decide_eq_false h2 | skip) <;> (first | replace h2 := Classical.not_not.1 h2 | skip) <;> (try dsimp only at h2)
        · obtain ⟨m, rfl⟩ := Int.eq_ofNat_of_zero_le h2
          have i1 : ((a : Int) + (m : Int)).toNat = a + m := by omega
          have i2 : ((a : Nat) : Int).toNat = a := by simp
          (conv => whnf); repeat ((first | (refine And.intro ?_ ?_; (focus ((repeat' (first | exact trivial | refine And.intro rfl ?_)); done))) | (refine And.intro ?_ ?_; (focus (first | omega | (dsimp -iota only; omega) | (simp -iota; omega) | (simp -iota; done) | decide)))); conv => whnf)
          refine ACall.hent (HEnt.chunk (h := 0) (c' := .rowc 26 1 n (uF (swp dk a (a + m)))) rfl ?_) ?_
          · simp only [i1, i2, Nat.zero_add]
            exact uswp (by omega) (by omega)
          refine AFn.use [0] (sift_ok n (swp dk a (a + m)) 0 m a (by rw [size_swp]; exact hs) (by omega) (by omega) h1000) (by kernel_rfl) rfl (by repeat' first | exact trivial | refine ⟨rfl, ?_⟩) fun _ => ?_
          refine ⟨_, HEnt.refl _, ?_⟩
          (conv => whnf); repeat ((first | (refine And.intro ?_ ?_; (focus ((repeat' (first | exact trivial | refine And.intro rfl ?_)); done))) | (refine And.intro ?_ ?_; (focus (first | omega | (dsimp -iota only; omega) | (simp -iota; omega) | (simp -iota; done) | decide)))); conv => whnf)
          refine ⟨⟨((m : Int) - 1, siftDown nlt m a 0 (swp dk a (a + m))), by rw [size_siftDown, size_swp]; exact hs, by dsimp only; omega, by dsimp only; omega, ?_⟩, Ent.mk' [some 0] (by kernel_rfl) (by repeat' first | exact trivial | refine And.intro (AVE.refl _) ?_ | refine And.intro (AVE.int (by first | rfl | omega | (dsimp only; omega) | (simp -iota; omega) | (simp -iota; done))) ?_ | refine And.intro (AVE.bool (by assumption)) ?_ | refine And.intro (AVE.len (by first | rfl | omega | (dsimp only; omega) | (simp -iota; omega) | (simp -iota; done))) ?_) ?_, ?_⟩
          · have e1 : ((m : Int) + 1).toNat = m + 1 := by omega
            have e2 : ((m : Int) - 1 + 1).toNat = m := by omega
            rw [e1] at ho
            dsimp only
            rw [e2]
            exact ho
          · (repeat' first | exact trivial | refine ⟨⟨_, rfl, ChE.refl _⟩, ?_⟩)
          · show ((m : Int) - 1 + 1).toNat < ((m : Int) + 1).toNat
            omega
        · have e0 : R = dk := by
            have e1 : (i + 1).toNat = 0 := by omega
            rw [e1] at ho
            exact ho.symm
          subst e0
          (conv => whnf); repeat ((first | (refine And.intro ?_ ?_; (focus ((repeat' (first | exact trivial | refine And.intro rfl ?_)); done))) | (refine And.intro ?_ ?_; (focus (first | omega | (dsimp -iota only; omega) | (simp -iota; omega) | (simp -iota; done) | decide)))); conv => whnf)
          refine ⟨_, _, Ent.mk' (e' := [(0, .tup [])]) (H' := uH n R) [some 0] (by kernel_rfl) ?_ ?_, (), rfl, rfl⟩
          · exact ⟨AVE.refl _, trivial⟩
          · (repeat' first | exact trivial | refine ⟨⟨_, rfl, ChE.refl _⟩, ?_⟩)

end Go.Proofs.Ytoofmkkcaoojiaa.Ax
