/-
  The document's answer for sums: rows of coefficients, divided as on paper: plain mathematics.
-/
import Derived.Test.YthdmapjdfghgfaaDoorCrcTurnMath
namespace Go.Proofs.YthdmapjdfghgfaaDoor.Cm

def bit (c : Bool) (a : BitVec 32) : BitVec 32 := if c then a else 0#32
theorem bit_xor (c d : Bool) (a : BitVec 32) : bit (c ^^ d) a = bit c a ^^^ bit d a := by cases c <;> cases d <;> simp [bit]
theorem steps_bit (n : Nat) (c : Bool) (a : BitVec 32) : steps n (bit c a) = bit c (steps n a) := by
  cases c
  · exact steps_zero n
  · rfl

/-- A row of coefficients, the greatest power first, modulo the modulus. -/
def R (s : BitVec 32) (l : List Bool) : BitVec 32 := l.foldl (fun s c => step s ^^^ bit c one) s
theorem R_append (s : BitVec 32) (x y : List Bool) : R s (x ++ y) = R (R s x) y := by simp [R]
theorem R_cons (s : BitVec 32) (c : Bool) (l : List Bool) : R s (c :: l) = R (step s ^^^ bit c one) l := rfl
theorem R_xor (s t : BitVec 32) (l : List Bool) : R (s ^^^ t) l = steps l.length s ^^^ R t l := by
  induction l generalizing s t with
  | nil => rfl
  | cons c l ih =>
    rw [R_cons, R_cons, step_xor, BitVec.xor_assoc, ih]
    rfl
theorem R_start (s : BitVec 32) (l : List Bool) : R s l = steps l.length s ^^^ R 0#32 l := by
  have := R_xor s 0#32 l
  rwa [BitVec.xor_zero] at this
theorem R_zeros (s : BitVec 32) (n : Nat) : R s (List.replicate n false) = steps n s := by
  induction n generalizing s with
  | zero => rfl
  | succ n ih =>
    rw [List.replicate_succ, R_cons, ih]
    simp [bit, steps]
theorem R_zip (s t : BitVec 32) (x y : List Bool) (h : x.length = y.length) : R (s ^^^ t) (List.zipWith (· ^^ ·) x y) = R s x ^^^ R t y := by
  induction x generalizing s t y with
  | nil => cases y with
    | nil => rfl
    | cons _ _ => simp at h
  | cons c x ih => cases y with
    | nil => simp at h
    | cons d y =>
      simp only [List.length_cons, Nat.add_right_cancel_iff] at h
      rw [List.zipWith_cons_cons, R_cons, R_cons, R_cons, step_xor, bit_xor, xor4, ih _ _ _ h]
/-- One coefficient is turned. -/
theorem R_flip (s : BitVec 32) (l : List Bool) (i : Nat) (hi : i < l.length) (c : Bool) :
    R s (l.set i (l.getD i false ^^ c)) = R s l ^^^ bit c (steps (l.length - 1 - i) one) := by
  have hl : l = l.take i ++ l.getD i false :: l.drop (i + 1) := by
    have h1 : l.getD i false = l[i] := by simp [List.getD, hi]
    rw [h1, ← List.drop_eq_getElem_cons hi, List.take_append_drop]
  have hset : l.set i (l.getD i false ^^ c) = l.take i ++ (l.getD i false ^^ c) :: l.drop (i + 1) := by
    rw [List.set_eq_take_append_cons_drop, if_pos hi]
  rw [hset]
  conv => rhs; rw [hl]
  rw [R_append, R_append, R_cons, R_cons, bit_xor, ← BitVec.xor_assoc, BitVec.xor_comm _ (bit c one), R_xor, BitVec.xor_comm, steps_bit]
  congr 3
  rw [List.length_append, List.length_take, List.length_cons, List.length_drop, Nat.min_eq_left (by omega)]
  omega

/-- The coefficients of 32 bits. -/
def bitsOf (a : BitVec 32) : List Bool := (List.range 32).map fun k => a.getLsbD k
theorem bitsOf_length (a : BitVec 32) : (bitsOf a).length = 32 := by simp [bitsOf]
theorem bitsOf_get (a : BitVec 32) (k : Nat) (hk : k < 32) : (bitsOf a).getD k false = a.getLsbD k := by simp [bitsOf, List.getD, hk]
/-- Up to 32 coefficients are their own rest: they lie in the highest bits. -/
theorem R_top (l : List Bool) (h : l.length ≤ 32) (i : Nat) (hi : i < 32) : (R 0#32 l).getLsbD i = (decide (32 - l.length ≤ i) && l.getD (i - (32 - l.length)) false) := by
  obtain ⟨n, hn⟩ : ∃ n, n = l.length := ⟨_, rfl⟩
  induction n generalizing l i with
  | zero =>
    have : l = [] := List.eq_nil_of_length_eq_zero hn.symm
    subst this
    simp [R]
  | succ n ih =>
    have hne : l ≠ [] := by intro e; subst e; simp at hn
    obtain ⟨x, c, rfl⟩ : ∃ x c, l = x ++ [c] := ⟨l.dropLast, l.getLast hne, (List.dropLast_concat_getLast hne).symm⟩
    have hx : x.length = n := by simp at hn; omega
    have hl : (x ++ [c]).length = n + 1 := by simp [hx]
    rw [hl] at h ⊢
    rw [R_append]
    show (step (R 0#32 x) ^^^ bit c one).getLsbD i = _
    have h0 : (R 0#32 x).getLsbD 0 = false := by
      rw [ih x (by omega) 0 (by omega) hx.symm, hx]
      simp; omega
    rw [step_even h0, BitVec.getLsbD_xor, BitVec.getLsbD_ushiftRight]
    have hone : (bit c one).getLsbD i = (decide (i = 31) && c) := by
      cases c
      · simp [bit]
      · have : ∀ j : Fin 32, (one).getLsbD j.1 = decide (j.1 = 31) := by decide
        simp [bit, this ⟨i, hi⟩]
    rw [hone]
    by_cases h31 : i = 31
    · subst h31
      have e1 : (R 0#32 x).getLsbD (1 + 31) = false := BitVec.getLsbD_of_ge _ _ (by omega)
      rw [e1]
      have e2 : 31 - (32 - (n + 1)) = n := by omega
      rw [e2]
      have e3 : (x ++ [c]).getD n false = c := by simp [List.getD, ← hx]
      rw [e3]
      have e4 : (decide (32 - (n + 1) ≤ 31)) = true := by simp
      rw [e4]; simp
    · have hi1 : 1 + i < 32 := by omega
      rw [ih x (by omega) (1 + i) hi1 hx.symm, hx]
      have e5 : decide (i = 31) = false := by simp [h31]
      rw [e5, Bool.false_and, Bool.xor_false]
      by_cases hc : 32 - n ≤ 1 + i
      · have hc' : 32 - (n + 1) ≤ i := by omega
        simp only [hc, hc', decide_true, Bool.true_and]
        have e6 : 1 + i - (32 - n) = i - (32 - (n + 1)) := by omega
        rw [e6]
        have e7 : i - (32 - (n + 1)) < x.length := by omega
        simp only [List.getD, List.getElem?_append_left e7]
      · have hc' : ¬ 32 - (n + 1) ≤ i := by omega
        simp only [hc, hc', decide_false, Bool.false_and]
theorem R_32 (l : List Bool) (h : l.length = 32) : l = bitsOf (R 0#32 l) := by
  apply List.ext_getElem?
  intro i
  by_cases hi : i < 32
  · have h1 := R_top l (by omega) i hi
    rw [h] at h1
    simp only [Nat.sub_self, Nat.zero_le, decide_true, Bool.true_and, Nat.sub_zero] at h1
    simp only [bitsOf, List.getElem?_map, List.getElem?_range hi, Option.map_some, h1]
    rw [List.getElem?_eq_getElem (by omega)]
    simp [List.getD, h, hi]
  · rw [List.getElem?_eq_none (by omega), List.getElem?_eq_none (by rw [bitsOf_length]; omega)]
theorem R_bitsOf (a : BitVec 32) : R 0#32 (bitsOf a) = a := by
  apply BitVec.eq_of_getLsbD_eq
  intro i hi
  rw [R_top _ (by rw [bitsOf_length]; omega) i hi, bitsOf_length]
  simp only [Nat.sub_self, Nat.zero_le, decide_true, Bool.true_and, Nat.sub_zero]
  exact bitsOf_get a i hi
theorem M_steps : steps 32 one = M := by decide

/-- A step of the division: the leading coefficient goes, the modulus is taken off. -/
theorem R_divide (c : Bool) (t : List Bool) (h : 32 ≤ t.length) :
    R 0#32 (c :: t) = R 0#32 (List.zipWith (· ^^ ·) t ((bitsOf (bit c M)) ++ List.replicate (t.length - 32) false)) := by
  have h2 := R_zip 0#32 0#32 t ((bitsOf (bit c M)) ++ List.replicate (t.length - 32) false) (by rw [List.length_append, bitsOf_length, List.length_replicate]; omega)
  rw [BitVec.xor_zero] at h2
  rw [h2, R_append, R_bitsOf, R_zeros, R_cons, R_start, step_zero, BitVec.zero_xor, BitVec.xor_comm]
  congr 1
  rw [steps_bit, steps_bit, ← M_steps, ← steps_add]
  congr 2
  omega

/-- Sums of products. -/
def PB : Nat → BitVec 32 → BitVec 32
  | 0, _ => 0#32
  | k + 1, b => PB k b ^^^ bit (b.getLsbD k) (steps (31 - k) one)
theorem PB_bits (k : Nat) (hk : k ≤ 32) (b : BitVec 32) (i : Nat) (hi : i < 32) : (PB k b).getLsbD i = (decide (i < k) && b.getLsbD i) := by
  induction k with
  | zero => simp [PB]
  | succ k ih =>
    have hs : steps (31 - k) one = BitVec.twoPow 32 k := by
      rw [steps_one (31 - k) (by omega)]
      congr 1
      omega
    rw [PB, BitVec.getLsbD_xor, ih (by omega), hs]
    have ht : (bit (b.getLsbD k) (BitVec.twoPow 32 k)).getLsbD i = (decide (k = i) && b.getLsbD k) := by
      cases b.getLsbD k
      · simp [bit]
      · simp only [bit, if_true, BitVec.getLsbD_twoPow, Bool.and_true]
        simp; omega
    rw [ht]
    by_cases h1 : i = k
    · subst h1; simp
    · have h2 : ¬ k = i := fun e => h1 e.symm
      have h3 : decide (i < k + 1) = decide (i < k) := by simp; omega
      simp [h2, h3]
theorem PB_32 (b : BitVec 32) : PB 32 b = b := by
  apply BitVec.eq_of_getLsbD_eq
  intro i hi
  rw [PB_bits 32 (Nat.le_refl _) b i hi]
  simp [hi]
def PT : Nat → BitVec 32 → BitVec 32 → BitVec 32
  | 0, _, _ => 0#32
  | i + 1, a, b => PT i a b ^^^ bit (a.getLsbD i) (steps (31 - i) b)
theorem PT_step (i : Nat) (a b c : BitVec 32) : PT i a (b ^^^ c) = PT i a b ^^^ PT i a c := by
  induction i with
  | zero => simp [PT]
  | succ i ih =>
    simp only [PT, ih, xor4, steps_xor]
    congr 1
    cases a.getLsbD i <;> simp [bit]
theorem PT_zero (i : Nat) (a : BitVec 32) : PT i a 0#32 = 0#32 := by
  induction i with
  | zero => rfl
  | succ i ih => simp [PT, ih, steps_zero, bit]
theorem PT_steps (i n : Nat) (a b : BitVec 32) : PT i a (steps n b) = steps n (PT i a b) := by
  induction i with
  | zero => simp [PT, steps_zero]
  | succ i ih =>
    simp only [PT, ih, steps_xor, steps_bit]
    rw [steps_comm]
theorem PT_one (i : Nat) (a : BitVec 32) : PT i a one = PB i a := by
  induction i with
  | zero => rfl
  | succ i ih => simp only [PT, PB, ih]
theorem PT_times (a b : BitVec 32) : PT 32 a b = times a b := by
  have key : ∀ k, PT 32 a (S k b one) = S k b a := by
    intro k
    induction k with
    | zero => exact PT_zero 32 a
    | succ k ih =>
      rw [S, S, PT_step, ih]
      congr 1
      split
      · rw [PT_steps, PT_one, PB_32]
      · exact PT_zero 32 a
  have h := key 32
  rw [show S 32 b one = times b one from rfl, times_one, show S 32 b a = times b a from rfl, times_comm b a] at h
  exact h

/-- Bits that come one by one, as bytes bring them. -/
def FB (s : BitVec 32) (l : List Bool) : BitVec 32 := l.foldl (fun s c => step (s ^^^ bit c 1#32)) s
theorem FB_append (s : BitVec 32) (x y : List Bool) : FB s (x ++ y) = FB (FB s x) y := by simp [FB]
def bits8 (c : UInt8) : List Bool := (List.range 8).map fun k => c.toBitVec.getLsbD k
theorem FB_start (s : BitVec 32) (l : List Bool) : FB s l = steps l.length s ^^^ FB 0#32 l := by
  induction l generalizing s with
  | nil => simp [FB, steps]
  | cons c l ih =>
    show FB (step (s ^^^ bit c 1#32)) l = _ ^^^ FB (step (0#32 ^^^ bit c 1#32)) l
    rw [ih, ih (step (0#32 ^^^ bit c 1#32)), BitVec.zero_xor, step_xor, steps_xor, BitVec.xor_assoc]
    rfl
theorem FB_bits8 (c : UInt8) : FB 0#32 (bits8 c) = steps 8 (c.toBitVec.setWidth 32) := by
  have h : ∀ j : Fin 256, FB 0#32 (bits8 (UInt8.ofNat j.1)) = steps 8 ((UInt8.ofNat j.1).toBitVec.setWidth 32) := by decide +kernel
  have h2 := h ⟨c.toNat, c.toNat_lt⟩
  simpa using h2
theorem upd_FB (s : BitVec 32) (c : UInt8) : upd s c = FB s (bits8 c) := by
  rw [FB_start, FB_bits8, show (bits8 c).length = 8 by simp [bits8], ← steps_xor]
  rfl
def allBits (l : List UInt8) : List Bool := l.flatMap bits8
theorem allBits_length (l : List UInt8) : (allBits l).length = 8 * l.length := by
  induction l with
  | nil => rfl
  | cons c l ih =>
    have : (bits8 c).length = 8 := by simp [bits8]
    rw [allBits, List.flatMap_cons, List.length_append, this, List.length_cons]
    have : (List.flatMap bits8 l).length = 8 * l.length := ih
    omega
theorem F_FB (s : BitVec 32) (l : List UInt8) : F s l = FB s (allBits l) := by
  induction l generalizing s with
  | nil => rfl
  | cons c l ih =>
    show F (upd s c) l = FB s (bits8 c ++ allBits l)
    rw [FB_append, ih, upd_FB]
theorem R_FB (s : BitVec 32) (l : List Bool) : steps 32 (R s l) = FB (steps 32 s) l := by
  induction l generalizing s with
  | nil => rfl
  | cons c l ih =>
    rw [R_cons, ih]
    show FB _ l = FB (step (steps 32 s ^^^ bit c 1#32)) l
    congr 1
    rw [step_xor, steps_xor, steps_bit]
    rw [steps_comm 32 1 s |> fun h => (h : steps 32 (step s) = step (steps 32 s))]
    congr 1
    cases c <;> decide
/-- The sum of P2.1: the first 32 coefficients turned, divided, turned. -/
theorem sum_R (l : List UInt8) : ~~~ (R 0#32 (List.zipWith (· ^^ ·) (allBits l ++ List.replicate 32 false) (List.replicate 32 true ++ List.replicate (8 * l.length) false))) = sum l := by
  unfold sum more
  congr 1
  have hz : ∀ s, R s (List.replicate 32 false) = steps 32 s := fun s => R_zeros s 32
  have ho : R 0#32 (List.replicate 32 true) = ~~~ 0#32 := by decide +kernel
  have lz : (List.replicate 32 false).length = 32 := List.length_replicate
  have lo' : (List.replicate 32 true).length = 32 := List.length_replicate
  generalize List.replicate 32 false = Z at *
  generalize List.replicate 32 true = O at *
  have h := R_zip 0#32 0#32 (allBits l ++ Z) (O ++ List.replicate (8 * l.length) false) (by rw [List.length_append, List.length_append, lz, lo', List.length_replicate, allBits_length, Nat.add_comm])
  rw [BitVec.xor_zero] at h
  rw [h, R_append, hz, R_FB, steps_zero, R_append, R_zeros, ho, F_FB, FB_start (~~~ 0#32), allBits_length, BitVec.xor_comm]
end Go.Proofs.YthdmapjdfghgfaaDoor.Cm
