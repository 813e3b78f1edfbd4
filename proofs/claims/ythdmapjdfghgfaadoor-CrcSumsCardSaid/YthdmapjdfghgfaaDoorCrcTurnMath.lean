/-
  Turned bits: plain mathematics.
-/
import Derived.Test.YthdmapjdfghgfaaDoorCrcMath
namespace Go.Proofs.YthdmapjdfghgfaaDoor.Cm

/-- A bit of a row is turned. -/
theorem F_flip (s : BitVec 32) (r : List UInt8) (i b : Nat) (hi : i < r.length) (hb : b < 8) (m : UInt8) (hm : m.toBitVec.setWidth 32 = BitVec.twoPow 32 b) :
    F s (r.set i (r.getD i 0 ^^^ m)) = F s r ^^^ steps (8 * r.length - (8 * i + b)) 1#32 := by
  have hr : r = r.take i ++ r.getD i 0 :: r.drop (i + 1) := by
    have h1 : r.getD i 0 = r[i] := by simp [List.getD, hi]
    rw [h1, ← List.drop_eq_getElem_cons hi, List.take_append_drop]
  have hset : r.set i (r.getD i 0 ^^^ m) = r.take i ++ (r.getD i 0 ^^^ m) :: r.drop (i + 1) := by
    rw [List.set_eq_take_append_cons_drop, if_pos hi]
  have hupd : ∀ t c, upd t (c ^^^ m) = steps 8 (BitVec.twoPow 32 b) ^^^ upd t c := by
    intro t c
    have h := upd_zip 0#32 t m c
    rw [BitVec.zero_xor, UInt8.xor_comm] at h
    rw [h]
    congr 1
    unfold upd
    rw [hm, BitVec.zero_xor]
  have h8 : steps 8 (BitVec.twoPow 32 b) = steps (8 - b) 1#32 := by
    have h : ∀ j : Fin 8, steps 8 (BitVec.twoPow 32 j.1) = steps (8 - j.1) 1#32 := by decide
    exact h ⟨b, hb⟩
  rw [hset]
  conv => rhs; rw [hr]
  rw [F_append, F_append]
  show F (upd (F s (r.take i)) (r.getD i 0 ^^^ m)) (r.drop (i + 1)) = F (upd (F s (r.take i)) (r.getD i 0)) (r.drop (i + 1)) ^^^ _
  rw [hupd, F_xor, h8, ← steps_add, BitVec.xor_comm]
  congr 2
  rw [List.length_append, List.length_take, List.length_cons, List.length_drop, Nat.min_eq_left (by omega)]
  omega

/-- The lowest k bits. -/
def lo : Nat → BitVec 32 → BitVec 32
  | 0, _ => 0#32
  | k + 1, a => lo k a ^^^ (if a.getLsbD k then BitVec.twoPow 32 k else 0#32)
theorem lo_zero (k : Nat) (a : BitVec 32) (h : a.getLsbD 0 = true) (hk : 0 < k) : (lo k a).getLsbD 0 = true := by
  induction k with
  | zero => omega
  | succ k ih =>
    simp only [lo, BitVec.getLsbD_xor]
    rcases Nat.eq_zero_or_pos k with h0 | h0
    · subst h0
      simp only [lo, h, if_true]
      decide
    · rw [ih h0]
      have : (if a.getLsbD k = true then BitVec.twoPow 32 k else 0#32).getLsbD 0 = false := by
        split
        · rw [BitVec.getLsbD_twoPow]; simp; omega
        · simp
      rw [this]; rfl
theorem lo_ne (k : Nat) (a : BitVec 32) (h : a.getLsbD 0 = true) (hk : 0 < k) : lo k a ≠ 0#32 := by
  intro he
  have := lo_zero k a h hk
  rw [he] at this
  simp at this
theorem steps_pow (R k : Nat) (hk : k ≤ R) (h32 : k < 32) : steps R (BitVec.twoPow 32 k) = steps (R - k) 1#32 := by
  have h : steps k (BitVec.twoPow 32 k) = 1#32 := by
    have h : ∀ j : Fin 32, steps j.1 (BitVec.twoPow 32 j.1) = 1#32 := by decide
    exact h ⟨k, h32⟩
  rw [← h, ← steps_add]
  congr 1
  omega
/-- One more turned bit. -/
theorem turn_step (K : BitVec 32) (R k : Nat) (a : BitVec 32) (hk : k < R) (h32 : k < 32) (hb : a.getLsbD k = true) :
    (K ^^^ steps R (lo k a)) ^^^ steps (R - k) 1#32 = K ^^^ steps R (lo (k + 1) a) := by
  rw [lo, if_pos hb, steps_xor, steps_pow R k (by omega) h32, BitVec.xor_assoc]
theorem turn_none (k : Nat) (a : BitVec 32) (hb : a.getLsbD k = false) : lo (k + 1) a = lo k a := by
  rw [lo, hb]; simp

/-- Four bytes as a word. -/
def word (t0 t1 t2 t3 : UInt8) : BitVec 32 := t0.toBitVec.setWidth 32 ^^^ t1.toBitVec.setWidth 32 <<< 8 ^^^ t2.toBitVec.setWidth 32 <<< 16 ^^^ t3.toBitVec.setWidth 32 <<< 24
theorem shift_back (n : Nat) (hn : n ≤ 24) (c : UInt8) : steps n (c.toBitVec.setWidth 32 <<< n) = c.toBitVec.setWidth 32 := by
  rw [steps_shift n n _ (fun i hi => by simp [BitVec.getLsbD_shiftLeft, hi]) (Nat.le_refl _)]
  apply BitVec.eq_of_getLsbD_eq
  intro i hi
  simp only [BitVec.getLsbD_ushiftRight, BitVec.getLsbD_shiftLeft, BitVec.getLsbD_setWidth]
  by_cases h8 : i < 8
  · have h1 : n + i < 32 := by omega
    have h2 : ¬ n + i < n := by omega
    have h3 : n + i - n = i := by omega
    simp [h1, h2, h3, hi]
  · have h4 : c.toBitVec.getLsbD i = false := BitVec.getLsbD_of_ge _ _ (by omega)
    have h3 : n + i - n = i := by omega
    rw [h3, h4]; simp
theorem F_word (s : BitVec 32) (t0 t1 t2 t3 : UInt8) : F s [t0, t1, t2, t3] = steps 32 (s ^^^ word t0 t1 t2 t3) := by
  show upd (upd (upd (upd s t0) t1) t2) t3 = _
  unfold upd word
  have e1 := shift_back 8 (by omega) t1
  have e2 := shift_back 16 (by omega) t2
  have e3 := shift_back 24 (by omega) t3
  have a1 : ∀ x, steps 32 x = steps 8 (steps 24 x) := fun x => steps_add 8 24 x
  have a2 : ∀ x, steps 24 x = steps 8 (steps 16 x) := fun x => steps_add 8 16 x
  have a3 : ∀ x, steps 16 x = steps 8 (steps 8 x) := fun x => steps_add 8 8 x
  rw [a1]
  congr 1
  rw [← BitVec.xor_assoc, ← BitVec.xor_assoc, ← BitVec.xor_assoc, steps_xor 24, e3]
  congr 1
  rw [a2]
  congr 1
  rw [steps_xor 16, e2]
  congr 1
  rw [a3]
  congr 1
  rw [steps_xor 8 (s ^^^ t0.toBitVec.setWidth 32) (t1.toBitVec.setWidth 32 <<< 8), e1]
end Go.Proofs.YthdmapjdfghgfaaDoor.Cm
