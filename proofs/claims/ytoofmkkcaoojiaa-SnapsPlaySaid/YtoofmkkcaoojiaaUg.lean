/-
  slices.Sort and slices.Compact at numbers (uint64).
-/
import Derived.Test.YtoofmkkcaoojiaaUf
import Derived.Test.YtoofmkkcaoojiaaSch19
namespace Go.Proofs.Ytoofmkkcaoojiaa.Ax
open Go.RowKit Go.Sort
set_option maxRecDepth 100000
def sortU (l : List Nat) : List Nat := l.mergeSort fun x y => !nlt y x
theorem sortU_of (l : List Nat) (lim : Nat) : pdq nlt l.toArray 0 l.length lim true true = (sortU l).toArray := by
  have h := pdq_sorts nlt nlt_swo l.toArray 0 l.length lim true true (Nat.zero_le _) (by simp) (Or.inl rfl)
  have hz : l.length = l.toArray.size := by simp
  rw [hz] at h ⊢
  have h2 := sorted_unique_holds (lt := nlt) nlt_swo (fun x y h1 h2 => by simp only [nlt, decide_eq_false_iff_not] at h1 h2; omega) l.toArray _ h.1 h.2
  show _ = (l.mergeSort fun x y => !nlt y x).toArray
  rw [← h2]
theorem sort_ok (l : List Nat) (h50 : l.length < 50) : AFn Go.Proofs.Try.prog 29 [.row 0 1 0 l.length] (uH l.length l.toArray) (fun _ : Unit => .tup []) (fun _ => uH l.length (sortU l).toArray) := by
  have hb := bitsLen_small (show l.length ≤ 1000000 by omega)
  have hp := pdq_ok l.length h50 l.length l.toArray 0 l.length (bitsLen l.length) (by omega) (by simp) (Nat.zero_le _) (Nat.le_refl _) (by omega) (Or.inl rfl)
  rw [sortU_of] at hp
  refine ACall.fin ?_
  refine ACall.walk (C := cfgU 11 1) (cfgUOk _ _) [] (fn := Go.Proofs.Try.f29) (by kernel_rfl) (by kernel_rfl) rfl (by kernel_rfl) (by kernel_rfl) rfl rfl ?_
  (conv => whnf); repeat ((first | (refine And.intro ?_ ?_; (focus ((repeat' (first | exact trivial | refine And.intro rfl ?_)); done))) | (refine And.intro ?_ ?_; (focus (first | omega | (dsimp -iota only; omega) | (simp -iota; omega) | (simp -iota; done) | decide)))); conv => whnf)
  refine AFn.use [] (len_u l.length (by omega)) (by kernel_rfl) rfl (by repeat' first | exact trivial | refine ⟨rfl, ?_⟩) fun _ => ?_
  (conv => whnf); repeat ((first | (refine And.intro ?_ ?_; (focus ((repeat' (first | exact trivial | refine And.intro rfl ?_)); done))) | (refine And.intro ?_ ?_; (focus (first | omega | (dsimp -iota only; omega) | (simp -iota; omega) | (simp -iota; done) | decide)))); conv => whnf)
  refine AFn.use [0] (hp) (by kernel_rfl) rfl (by repeat' first | exact trivial | refine ⟨rfl, ?_⟩) fun _ => ?_
  (conv => whnf); repeat ((first | (refine And.intro ?_ ?_; (focus ((repeat' (first | exact trivial | refine And.intro rfl ?_)); done))) | (refine And.intro ?_ ?_; (focus (first | omega | (dsimp -iota only; omega) | (simp -iota; omega) | (simp -iota; done) | decide)))); conv => whnf)
  refine ⟨_, _, Ent.mk' (e' := [(0, .tup [])]) (H' := uH l.length (sortU l).toArray) [some 0] (by kernel_rfl) ?_ ?_, (), rfl, rfl⟩
  · exact ⟨AVE.refl _, trivial⟩
  · (repeat' first | exact trivial | refine ⟨⟨_, rfl, ChE.refl _⟩, ?_⟩)
/-- Neighbours that are the same become one. -/
def ddGo (p : Nat) : List Nat → List Nat
  | [] => []
  | y :: ys => if y = p then ddGo p ys else y :: ddGo y ys
def dd : List Nat → List Nat
  | [] => []
  | x :: xs => x :: ddGo x xs
theorem ddGo_snoc : ∀ (xs : List Nat) (p y : Nat), ddGo p (xs ++ [y]) = if (p :: xs).getLast (by simp) = y then ddGo p xs else ddGo p xs ++ [y]
  | [], p, y => by
    simp only [List.nil_append, ddGo, List.getLast_singleton]
    by_cases h : y = p
    · simp [h]
    · simp [h, Ne.symm h]
  | x :: xs, p, y => by
    simp only [List.cons_append, ddGo]
    have ih := ddGo_snoc xs
    by_cases h : x = p
    · subst h
      simp only [if_true]
      rw [ih x y]
      rfl
    · simp only [if_neg h]
      rw [ih x y]
      have e : (p :: x :: xs).getLast (by simp) = (x :: xs).getLast (by simp) := rfl
      rw [e]
      split <;> rfl
theorem dd_take {D : List Nat} {m : Nat} (h0 : 0 < m) (hm : m < D.length) : dd (D.take (m + 1)) = if D.getD m 0 = D.getD (m - 1) 0 then dd (D.take m) else dd (D.take m) ++ [D.getD m 0] := by
  rw [List.take_succ_eq_append_getElem hm]
  have hne : D.take m ≠ [] := fun e => by
    have := congrArg List.length e
    rw [List.length_take, List.length_nil] at this
    omega
  obtain ⟨x, xs, hx⟩ := List.exists_cons_of_ne_nil hne
  have hl : (x :: xs).getLast (by simp) = D.getD (m - 1) 0 := by
    have h1 : (D.take m).getLast hne = D.getD (m - 1) 0 := by
      rw [List.getLast_eq_getElem]
      simp [List.getD, show m - 1 < D.length by omega, Nat.min_eq_left (Nat.le_of_lt hm)]
    simp only [hx] at h1
    exact h1
  have hg : D[m] = D.getD m 0 := by simp [List.getD, hm]
  rw [hx, List.cons_append]
  show x :: ddGo x (xs ++ [D[m]]) = _
  rw [ddGo_snoc, hl, hg]
  by_cases h : D.getD m 0 = D.getD (m - 1) 0
  · rw [if_pos h, if_pos h.symm]; rfl
  · rw [if_neg h, if_neg (Ne.symm h)]; rfl
theorem dd_small {D : List Nat} (h : D.length < 2) : dd D = D := by
  match D, h with
  | [], _ => rfl
  | [x], _ => rfl
theorem dd_len (D : List Nat) (m : Nat) : (dd (D.take m)).length ≤ m := by
  induction m with
  | zero => simp [dd]
  | succ m ih =>
    by_cases hm : m < D.length
    · rcases Nat.eq_zero_or_pos m with h0 | h0
      · subst h0
        match D, hm with
        | x :: xs, _ => simp [dd, ddGo]
      · rw [dd_take h0 hm]
        split
        · omega
        · simp; omega
    · rw [List.take_of_length_le (by omega)]
      rw [List.take_of_length_le (by omega)] at ih
      omega
theorem uset {e n : Nat} {d : Array Nat} {i v : Nat} (hi : i < d.size) : ChE (.rowc e 1 n fun k => if k = i then layI (uF d i) 0 [.v (.int .u64 (v : Nat))] else uF d k) (.rowc e 1 n (uF (d.setIfInBounds i v))) :=
  ChE.row (Nat.le_refl _) fun k hk => by
    have e1 : layI (uF d i) 0 [IV.v (.int .u64 (v : Nat))] = [.v (.int .u64 (v : Nat))] := layI_one rfl
    rw [e1]
    unfold uF
    by_cases h : k = i
    · subst h
      simp [hi]
    · rw [if_neg h]
      simp [Array.getElem!_eq_getD, Array.getD_eq_getD_getElem?, Array.getElem?_setIfInBounds, Ne.symm h]
end Go.Proofs.Ytoofmkkcaoojiaa.Ax
