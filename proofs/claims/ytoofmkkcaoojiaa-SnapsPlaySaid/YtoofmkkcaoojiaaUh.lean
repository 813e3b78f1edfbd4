/-
  slices.Compact at numbers (uint64); the numbers that are pinned.
-/
import Derived.Test.YtoofmkkcaoojiaaUg
import Derived.Test.YtoofmkkcaoojiaaSb
namespace Go.Proofs.Ytoofmkkcaoojiaa.Ax
open Go.RowKit Go.Sort
set_option maxRecDepth 100000
theorem bang_getD (D : List Nat) (i : Nat) : D.toArray[i]! = D.getD i 0 := by
  simp [List.getD, Array.getElem!_eq_getD, Array.getD_eq_getD_getElem?]
theorem take_row {e n m : Nat} {d : Array Nat} {R : List Nat} (hm : R.length ≤ n) (hR : ∀ i, i < R.length → d[i]! = R.getD i 0) (_ : m = R.length) : ChE (.rowc e 1 n (uF d)) (.rowc e 1 R.length (uF R.toArray)) :=
  ChE.row hm fun i hi => by
    unfold uF
    rw [hR i hi, bang_getD]
structure CX (D : List Nat) (k0 : Nat) where
  k : Nat
  k2 : Nat
  e : Array Nat
  hs : e.size = D.length
  h1 : k0 ≤ k
  h2 : k + 1 ≤ k0 + k2
  h3 : k0 + k2 ≤ D.length
  hr : ∀ i, k0 + k2 ≤ i + 1 → i < D.length → e[i]! = D.getD i 0
  hl : (dd (D.take (k0 + k2))).length = k
  hd : ∀ i, i < k → e[i]! = (dd (D.take (k0 + k2))).getD i 0
set_option maxHeartbeats 1000000 in
theorem compact_ok (D : List Nat) (h1000 : D.length ≤ 1000000) : AFn Go.Proofs.Try.prog 30 [.row 0 1 0 D.length] (uH D.length D.toArray) (fun _ : Unit => .row 0 1 0 (dd D).length) (fun _ => uH (dd D).length (dd D).toArray) := by
  have hn : ((D.length : Nat) : Int).toNat = D.length := by simp
  refine ACall.fin ?_
  refine ACall.walk (C := cfgU 61 1) (cfgUOk _ _) sch30 (fn := Go.Proofs.Try.f30) (by kernel_rfl) (by kernel_rfl) rfl (by kernel_rfl) (by kernel_rfl) rfl rfl ?_
  (conv => whnf); repeat ((first | (refine And.intro ?_ ?_; (focus ((repeat' (first | exact trivial | refine And.intro rfl ?_)); done))) | (refine And.intro ?_ ?_; (focus (first | omega | (dsimp -iota only; omega) | (simp -iota; omega) | (simp -iota; done) | decide)))); conv => whnf)
  refine branchB_of (fun h => ?_) (fun h => ?_) <;> (first | replace h := not_t h | replace h := not_f h | skip) <;> (first | replace h := of_decide_eq_true h | replace h := of_decide_eq_false h | skip) <;> (first | replace h := Classical.not_not.1 h | skip) <;> (try dsimp only at h)
  · have e : dd D = D := dd_small (by omega)
    rw [e]
    (conv => whnf); repeat ((first | (refine And.intro ?_ ?_; (focus ((repeat' (first | exact trivial | refine And.intro rfl ?_)); done))) | (refine And.intro ?_ ?_; (focus (first | omega | (dsimp -iota only; omega) | (simp -iota; omega) | (simp -iota; done) | decide)))); conv => whnf)
    refine ⟨_, _, Ent.mk' (e' := [(0, .row 0 1 0 D.length)]) (H' := uH D.length D.toArray) [some 0] (by kernel_rfl) ?_ ?_, (), rfl, rfl⟩
    · exact ⟨AVE.refl _, trivial⟩
    · (repeat' first | exact trivial | refine ⟨⟨_, rfl, ChE.refl _⟩, ?_⟩)
  (conv => whnf); repeat ((first | (refine And.intro ?_ ?_; (focus ((repeat' (first | exact trivial | refine And.intro rfl ?_)); done))) | (refine And.intro ?_ ?_; (focus (first | omega | (dsimp -iota only; omega) | (simp -iota; omega) | (simp -iota; done) | decide)))); conv => whnf)
  refine AWP.loop (X := { x : Nat // 1 ≤ x ∧ x ≤ D.length ∧ dd (D.take x) = D.take x }) (fun x => [(0, .row 0 1 0 D.length), (3, AV.int .i64 x.1)]) (fun x => uH D.length D.toArray) (fun x => D.length - x.1) (⟨1, by omega, by omega, dd_small (by simp; omega)⟩) ?_ fun x => AWP.go (S := sch30) (cfgUOk _ _) (.of_eq (by kernel_rfl)) ?_
  · exact Ent.mk' [some 0] (by kernel_rfl) (by repeat' first | exact trivial | refine And.intro (AVE.refl _) ?_ | refine And.intro (AVE.int (by first | rfl | omega | (dsimp only; omega) | (simp -iota; omega) | (simp -iota; done))) ?_ | refine And.intro (AVE.bool (by assumption)) ?_ | refine And.intro (AVE.len (by first | rfl | omega | (dsimp only; omega) | (simp -iota; omega) | (simp -iota; done))) ?_) (by repeat' (first | exact trivial | refine ⟨⟨_, rfl, ChE.refl _⟩, ?_⟩))
  · obtain ⟨k, hk1, hkn, hkd⟩ := x
    have ik : ((k : Nat) : Int).toNat = k := by simp
    have ik1 : ((k : Int) - 1).toNat = k - 1 := by omega
    (conv => whnf); repeat ((first | (refine And.intro ?_ ?_; (focus ((repeat' (first | exact trivial | refine And.intro rfl ?_)); done))) | (refine And.intro ?_ ?_; (focus (first | omega | (dsimp -iota only; omega) | (simp -iota; omega) | (simp -iota; done) | decide)))); conv => whnf)
    refine branchB_of (fun g => ?_) (fun g => ?_) <;> (first | replace g := not_t g | replace g := not_f g | skip) <;> (first | replace g := of_decide_eq_true g | replace g := of_decide_eq_false g | skip) <;> (first | replace g := Classical.not_not.1 g | skip) <;> (try dsimp only at g)
    · (conv => whnf); repeat ((first | (refine And.intro ?_ ?_; (focus ((repeat' (first | exact trivial | refine And.intro rfl ?_)); done))) | (refine And.intro ?_ ?_; (focus (first | omega | (dsimp -iota only; omega) | (simp -iota; omega) | (simp -iota; done) | decide)))); conv => whnf)
      refine branchB_of (fun g2 => ?_) (fun g2 => ?_) <;> (first | replace g2 := not_t g2 | replace g2 := not_f g2 | skip) <;> (first | replace g2 := of_decide_eq_true g2 | replace g2 := of_decide_eq_false g2 | skip) <;> (first | replace g2 := Classical.not_not.1 g2 | skip) <;> (try dsimp only at g2)
      · have g3 : D.getD k 0 = D.getD (k - 1) 0 := by
          simp only [ik, ik1, Nat.zero_add, bang_getD] at g2
          omega
        have hd1 : dd (D.take (k + 1)) = D.take k := by rw [dd_take (by omega) (by omega), if_pos g3, hkd]
        (conv => whnf); repeat ((first | (refine And.intro ?_ ?_; (focus ((repeat' (first | exact trivial | refine And.intro rfl ?_)); done))) | (refine And.intro ?_ ?_; (focus (first | omega | (dsimp -iota only; omega) | (simp -iota; omega) | (simp -iota; done) | decide)))); conv => whnf)
        refine AWP.loop (X := CX D k) (fun y => [(0, .row 0 1 0 D.length), (3, AV.int .i64 y.k), (4, .row 0 1 k (D.length - k)), (5, AV.int .i64 y.k2)]) (fun y => uH D.length y.e) (fun y => D.length - y.k2) (⟨k, 1, D.toArray, by simp, Nat.le_refl _, by omega, by omega, fun i _ _ => bang_getD D i, by rw [hd1]; simp; omega, fun i hi => by rw [hd1, bang_getD]; simp [List.getD, hi, List.getElem?_take]⟩) ?_ fun y => AWP.go (S := sch30) (cfgUOk _ _) (.of_eq (by kernel_rfl)) ?_
        · refine Ent.mk' [some 0] (by kernel_rfl) ?_ ?_
          · exact ⟨AVE.refl _, AVE.refl _, AVE.of_eq (by show AV.row 0 1 (0 + ((k : Nat) : Int).toNat) (((D.length : Nat) : Int).toNat - ((k : Nat) : Int).toNat) = AV.row 0 1 k (D.length - k); rw [ik, hn, Nat.zero_add]), AVE.refl _, trivial⟩
          · (repeat' first | exact trivial | refine ⟨⟨_, rfl, ChE.refl _⟩, ?_⟩)
        · obtain ⟨k', k2, e, hs, h1, h2, h3, hr, hl, hd⟩ := y
          have i2 : ((k2 : Nat) : Int).toNat = k2 := by simp
          have i21 : ((k2 : Int) - 1).toNat = k2 - 1 := by omega
          have ik' : ((k' : Nat) : Int).toNat = k' := by simp
          (conv => whnf); repeat ((first | (refine And.intro ?_ ?_; (focus ((repeat' (first | exact trivial | refine And.intro rfl ?_)); done))) | (refine And.intro ?_ ?_; (focus (first | omega | (dsimp -iota only; omega) | (simp -iota; omega) | (simp -iota; done) | decide)))); conv => whnf)
          refine branchB_of (fun g4 => ?_) (fun g4 => ?_) <;> (first | replace g4 := not_t g4 | replace g4 := not_f g4 | skip) <;> (first | replace g4 := of_decide_eq_true g4 | replace g4 := of_decide_eq_false g4 | skip) <;> (first | replace g4 := Classical.not_not.1 g4 | skip) <;> (try dsimp only at g4)
          · have hlt : k + k2 < D.length := by omega
            have ht := dd_take (D := D) (m := k + k2) (by omega) hlt
            have r1 := hr (k + k2) (by omega) hlt
            have r2 := hr (k + k2 - 1) (by omega) (by omega)
            (conv => whnf); repeat ((first | (refine And.intro ?_ ?_; (focus ((repeat' (first | exact trivial | refine And.intro rfl ?_)); done))) | (refine And.intro ?_ ?_; (focus (first | omega | (dsimp -iota only; omega) | (simp -iota; omega) | (simp -iota; done) | decide)))); conv => whnf)
            refine branchB_of (fun g5 => ?_) (fun g5 => ?_) <;> (first | replace g5 := not_t g5 | replace g5 := not_f g5 | skip) <;> (first | replace g5 := of_decide_eq_true g5 | replace g5 := of_decide_eq_false g5 | skip) <;> (first | replace g5 := Classical.not_not.1 g5 | skip) <;> (try dsimp only at g5)
            · have g6 : ¬ D.getD (k + k2) 0 = D.getD (k + k2 - 1) 0 := by
                simp only [i2, i21] at g5
                rw [r1, show k + (k2 - 1) = k + k2 - 1 by omega, r2] at g5
                omega
              rw [if_neg g6] at ht
              (conv => whnf); repeat ((first | (refine And.intro ?_ ?_; (focus ((repeat' (first | exact trivial | refine And.intro rfl ?_)); done))) | (refine And.intro ?_ ?_; (focus (first | omega | (dsimp -iota only; omega) | (simp -iota; omega) | (simp -iota; done) | decide)))); conv => whnf)
              refine ⟨⟨k' + 1, k2 + 1, e.setIfInBounds k' (D.getD (k + k2) 0), by simp; exact hs, by omega, by omega, by omega, fun i q1 q2 => ?_, ?_, fun i hi => ?_⟩, Ent.mk' [some 0] (by kernel_rfl) (by repeat' first | exact trivial | refine And.intro (AVE.refl _) ?_ | refine And.intro (AVE.int (by first | rfl | omega | (dsimp only; omega) | (simp -iota; omega) | (simp -iota; done))) ?_ | refine And.intro (AVE.bool (by assumption)) ?_ | refine And.intro (AVE.len (by first | rfl | omega | (dsimp only; omega) | (simp -iota; omega) | (simp -iota; done))) ?_) ?_, ?_⟩
              · rw [Array.getElem!_eq_getD, Array.getD_eq_getD_getElem?, Array.getElem?_setIfInBounds, if_neg (by omega), ← Array.getD_eq_getD_getElem?, ← Array.getElem!_eq_getD]
                exact hr i (by omega) q2
              · rw [show k + (k2 + 1) = k + k2 + 1 by omega, ht]
                simp [hl]
              · rw [show k + (k2 + 1) = k + k2 + 1 by omega, ht, Array.getElem!_eq_getD, Array.getD_eq_getD_getElem?, Array.getElem?_setIfInBounds]
                by_cases hik : k' = i
                · subst hik
                  simp [hs, List.getD, hl, show k' < D.length by omega]
                · rw [if_neg hik, ← Array.getD_eq_getD_getElem?, ← Array.getElem!_eq_getD, hd i (by omega)]
                  simp [List.getD, List.getElem?_append_left, hl, show i < k' by omega]
              · refine ⟨⟨_, rfl, ?_⟩, trivial⟩
                simp only [i2, ik', Nat.zero_add]
                rw [r1]
                exact uset (by omega)
              · show D.length - (k2 + 1) < D.length - k2
                omega
            · have g6 : D.getD (k + k2) 0 = D.getD (k + k2 - 1) 0 := by
                simp only [i2, i21] at g5
                rw [r1, show k + (k2 - 1) = k + k2 - 1 by omega, r2] at g5
                omega
              rw [if_pos g6] at ht
              (conv => whnf); repeat ((first | (refine And.intro ?_ ?_; (focus ((repeat' (first | exact trivial | refine And.intro rfl ?_)); done))) | (refine And.intro ?_ ?_; (focus (first | omega | (dsimp -iota only; omega) | (simp -iota; omega) | (simp -iota; done) | decide)))); conv => whnf)
              refine ⟨⟨k', k2 + 1, e, hs, h1, by omega, by omega, fun i q1 q2 => hr i (by omega) q2, by rw [show k + (k2 + 1) = k + k2 + 1 by omega, ht]; exact hl, fun i hi => by rw [show k + (k2 + 1) = k + k2 + 1 by omega, ht]; exact hd i hi⟩, Ent.mk' [some 0] (by kernel_rfl) (by repeat' first | exact trivial | refine And.intro (AVE.refl _) ?_ | refine And.intro (AVE.int (by first | rfl | omega | (dsimp only; omega) | (simp -iota; omega) | (simp -iota; done))) ?_ | refine And.intro (AVE.bool (by assumption)) ?_ | refine And.intro (AVE.len (by first | rfl | omega | (dsimp only; omega) | (simp -iota; omega) | (simp -iota; done))) ?_) ?_, ?_⟩
              · (repeat' first | exact trivial | refine ⟨⟨_, rfl, ChE.refl _⟩, ?_⟩)
              · show D.length - (k2 + 1) < D.length - k2
                omega
          · have hall : k + k2 = D.length := by omega
            rw [hall, List.take_length] at hl hd
            (conv => whnf); repeat ((first | (refine And.intro ?_ ?_; (focus ((repeat' (first | exact trivial | refine And.intro rfl ?_)); done))) | (refine And.intro ?_ ?_; (focus (first | omega | (dsimp -iota only; omega) | (simp -iota; omega) | (simp -iota; done) | decide)))); conv => whnf)
            refine ⟨_, _, Ent.mk' (e' := [(0, .row 0 1 0 (dd D).length)]) (H' := uH (dd D).length (dd D).toArray) [some 0] (by kernel_rfl) ?_ ?_, (), rfl, rfl⟩
            · refine ⟨AVE.of_eq ?_, trivial⟩
              show AV.row 0 1 (0 + Int.toNat 0) ((k' : Int).toNat - Int.toNat 0) = AV.row 0 1 0 (dd D).length
              rw [ik', hl]
              rfl
            · refine ⟨⟨_, rfl, ?_⟩, trivial⟩
              refine ChE.row (by omega) fun i hi => ?_
              show clearF IntKind.u64 0 (0 + (k' : Int).toNat) ((D.length : Int).toNat - (k' : Int).toNat) (uF e) i = uF (dd D).toArray i
              unfold clearF
              rw [ik', if_neg (by omega)]
              unfold uF
              rw [hd i (by omega), bang_getD]
      · have g3 : ¬ D.getD k 0 = D.getD (k - 1) 0 := by
          simp only [ik, ik1, Nat.zero_add, bang_getD] at g2
          omega
        (conv => whnf); repeat ((first | (refine And.intro ?_ ?_; (focus ((repeat' (first | exact trivial | refine And.intro rfl ?_)); done))) | (refine And.intro ?_ ?_; (focus (first | omega | (dsimp -iota only; omega) | (simp -iota; omega) | (simp -iota; done) | decide)))); conv => whnf)
        refine ⟨⟨k + 1, by omega, by omega, ?_⟩, Ent.mk' [some 0] (by kernel_rfl) (by repeat' first | exact trivial | refine And.intro (AVE.refl _) ?_ | refine And.intro (AVE.int (by first | rfl | omega | (dsimp only; omega) | (simp -iota; omega) | (simp -iota; done))) ?_ | refine And.intro (AVE.bool (by assumption)) ?_ | refine And.intro (AVE.len (by first | rfl | omega | (dsimp only; omega) | (simp -iota; omega) | (simp -iota; done))) ?_) ?_, ?_⟩
        · rw [dd_take (by omega) (by omega), if_neg g3, hkd]
          rw [List.take_succ_eq_append_getElem (by omega)]
          simp [List.getD, show k < D.length by omega]
        · (repeat' first | exact trivial | refine ⟨⟨_, rfl, ChE.refl _⟩, ?_⟩)
        · show D.length - (k + 1) < D.length - k
          omega
    · have hk : k = D.length := by omega
      subst hk
      have e : dd D = D := by rw [List.take_length] at hkd; exact hkd
      rw [e]
      (conv => whnf); repeat ((first | (refine And.intro ?_ ?_; (focus ((repeat' (first | exact trivial | refine And.intro rfl ?_)); done))) | (refine And.intro ?_ ?_; (focus (first | omega | (dsimp -iota only; omega) | (simp -iota; omega) | (simp -iota; done) | decide)))); conv => whnf)
      refine ⟨_, _, Ent.mk' (e' := [(0, .row 0 1 0 D.length)]) (H' := uH D.length D.toArray) [some 0] (by kernel_rfl) ?_ ?_, (), rfl, rfl⟩
      · exact ⟨AVE.refl _, trivial⟩
      · (repeat' first | exact trivial | refine ⟨⟨_, rfl, ChE.refl _⟩, ?_⟩)
end Go.Proofs.Ytoofmkkcaoojiaa.Ax
