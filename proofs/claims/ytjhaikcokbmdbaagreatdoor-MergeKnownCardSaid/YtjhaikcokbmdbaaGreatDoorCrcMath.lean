/-
  Plain mathematics of CRC-32C over 32 bits, the greatest power in the lowest bit: no program in sight.
-/
import Derived.KernelRfl
namespace Go.Proofs.YtjhaikcokbmdbaaGreatDoor.Cm

/-- The modulus but its greatest power. -/
def M : BitVec 32 := 0x82f63b78#32
def one : BitVec 32 := 0x80000000#32
def step (a : BitVec 32) : BitVec 32 := (a >>> 1) ^^^ (if a.getLsbD 0 then M else 0#32)
def steps : Nat → BitVec 32 → BitVec 32
  | 0, a => a
  | n + 1, a => steps n (step a)

theorem xor4 (a b c d : BitVec 32) : (a ^^^ b) ^^^ (c ^^^ d) = (a ^^^ c) ^^^ (b ^^^ d) := by
  rw [BitVec.xor_assoc, BitVec.xor_assoc, ← BitVec.xor_assoc b c d, BitVec.xor_comm b c, BitVec.xor_assoc c b d]

theorem step_xor (a b : BitVec 32) : step (a ^^^ b) = step a ^^^ step b := by
  unfold step
  rw [BitVec.ushiftRight_xor_distrib, xor4, BitVec.getLsbD_xor]
  congr 1
  cases a.getLsbD 0 <;> cases b.getLsbD 0 <;> simp
theorem step_zero : step 0#32 = 0#32 := by decide
theorem steps_xor (n : Nat) (a b : BitVec 32) : steps n (a ^^^ b) = steps n a ^^^ steps n b := by
  induction n generalizing a b with
  | zero => rfl
  | succ n ih => simp only [steps, step_xor, ih]
theorem steps_zero (n : Nat) : steps n 0#32 = 0#32 := by
  induction n with
  | zero => rfl
  | succ n ih => simp only [steps, step_zero, ih]
theorem steps_add (m n : Nat) (a : BitVec 32) : steps (m + n) a = steps m (steps n a) := by
  induction n generalizing a with
  | zero => rfl
  | succ n ih => rw [← Nat.add_assoc]; simp only [steps, ih]
theorem steps_comm (m n : Nat) (a : BitVec 32) : steps m (steps n a) = steps n (steps m a) := by
  rw [← steps_add, ← steps_add, Nat.add_comm]
theorem steps_succ (n : Nat) (a : BitVec 32) : steps (n + 1) a = step (steps n a) := by
  rw [Nat.add_comm, steps_add]; rfl
theorem step_eq_zero {a : BitVec 32} (h : step a = 0#32) : a = 0#32 := by
  unfold step at h
  by_cases hb : a.getLsbD 0 = true
  · rw [if_pos hb] at h
    have h31 := congrArg (fun v => BitVec.getLsbD v 31) h
    simp [M] at h31
  · rw [if_neg hb, BitVec.xor_zero] at h
    apply BitVec.eq_of_getLsbD_eq
    intro i hi
    rcases i with _ | i
    · simpa using hb
    · have h1 := congrArg (fun v => BitVec.getLsbD v i) h
      simp only [BitVec.getLsbD_ushiftRight, BitVec.getLsbD_zero] at h1
      rw [Nat.add_comm] at h1
      simpa using h1
theorem steps_eq_zero (n : Nat) {a : BitVec 32} (h : steps n a = 0#32) : a = 0#32 := by
  induction n generalizing a with
  | zero => exact h
  | succ n ih => exact step_eq_zero (ih h)
theorem xor_eq_zero {a b : BitVec 32} (h : a ^^^ b = 0#32) : a = b := by
  have := congrArg (· ^^^ b) h
  simpa [BitVec.xor_assoc] using this
theorem steps_inj (n : Nat) {a b : BitVec 32} (h : steps n a = steps n b) : a = b := by
  apply xor_eq_zero
  apply steps_eq_zero n
  rw [steps_xor, h, BitVec.xor_self]

/-- Sums of powers: the first n coefficients of a. -/
def S : Nat → BitVec 32 → BitVec 32 → BitVec 32
  | 0, _, _ => 0#32
  | n + 1, a, b => S n a b ^^^ (if a.getMsbD n then steps n b else 0#32)
def times (a b : BitVec 32) : BitVec 32 := S 32 a b

theorem S_right (n : Nat) (a b c : BitVec 32) : S n a (b ^^^ c) = S n a b ^^^ S n a c := by
  induction n with
  | zero => simp [S]
  | succ n ih =>
    simp only [S, ih, xor4]
    congr 1
    split
    · exact steps_xor n b c
    · simp
theorem S_left (n : Nat) (a b c : BitVec 32) : S n (a ^^^ b) c = S n a c ^^^ S n b c := by
  induction n with
  | zero => simp [S]
  | succ n ih =>
    simp only [S, ih, xor4, BitVec.getMsbD_xor]
    congr 1
    cases a.getMsbD n <;> cases b.getMsbD n <;> simp
theorem S_zero (n : Nat) (a : BitVec 32) : S n a 0#32 = 0#32 := by
  induction n with
  | zero => rfl
  | succ n ih => simp [S, ih, steps_zero]
theorem S_steps (n k : Nat) (a b : BitVec 32) : S n a (steps k b) = steps k (S n a b) := by
  induction n with
  | zero => simp [S, steps_zero]
  | succ n ih =>
    simp only [S, ih, steps_xor]
    congr 1
    split
    · exact steps_comm n k b
    · exact (steps_zero k).symm
theorem S_S (m n : Nat) (a b c : BitVec 32) : S m a (S n b c) = S n b (S m a c) := by
  induction n with
  | zero => simp [S, S_zero]
  | succ n ih =>
    simp only [S, S_right, ih]
    congr 1
    split
    · exact S_steps m n a c
    · exact S_zero m a
theorem steps_one (k : Nat) (hk : k < 32) : steps k one = BitVec.twoPow 32 (31 - k) := by
  have h : ∀ j : Fin 32, steps j.1 one = BitVec.twoPow 32 (31 - j.1) := by decide
  exact h ⟨k, hk⟩
theorem S_one (n : Nat) (hn : n ≤ 32) (a : BitVec 32) (i : Nat) : (S n a one).getMsbD i = (decide (i < n) && a.getMsbD i) := by
  induction n with
  | zero => simp [S]
  | succ n ih =>
    simp only [S, BitVec.getMsbD_xor, ih (by omega)]
    have hs := steps_one n (by omega)
    have ht : ∀ i, (steps n one).getMsbD i = decide (i = n) := by
      intro i
      rw [hs, BitVec.getMsbD_eq_getLsbD, BitVec.getLsbD_twoPow]
      rw [Bool.eq_iff_iff]
      simp only [Bool.and_eq_true, decide_eq_true_eq]
      omega
    by_cases h : i = n
    · subst h
      cases hb : a.getMsbD i <;> simp [ht]
    · have hlt : decide (i < n + 1) = decide (i < n) := by simp; omega
      rw [hlt]
      cases hb : a.getMsbD n <;> simp [ht, h]
theorem times_one (a : BitVec 32) : times a one = a := by
  apply BitVec.eq_of_getMsbD_eq
  intro i hi
  unfold times
  rw [S_one 32 (by omega)]
  simp [hi]
theorem times_comm (a b : BitVec 32) : times a b = times b a := by
  have h : times a (times b one) = times b (times a one) := S_S 32 32 a b one
  rwa [times_one, times_one] at h
theorem times_assoc (a b c : BitVec 32) : times (times a b) c = times a (times b c) := by
  have h : times c (times a b) = times a (times c b) := S_S 32 32 c a b
  rw [times_comm _ c, h, times_comm c b]
theorem times_xor (a b c : BitVec 32) : times a (b ^^^ c) = times a b ^^^ times a c := S_right 32 a b c
theorem times_zero (a : BitVec 32) : times a 0#32 = 0#32 := S_zero 32 a
theorem times_steps (n : Nat) (a : BitVec 32) : times (steps n one) a = steps n a := by
  rw [times_comm]
  have h : times a (steps n one) = steps n (times a one) := S_steps 32 n a one
  rw [h, times_one]

/-- When what is left of a is nothing, the sum is whole. -/
theorem S_done (a b : BitVec 32) (k : Nat) (hk : k ≤ 32) (h : a <<< k = 0#32) : S k a b = times a b := by
  have key : ∀ j, k + j ≤ 32 → S (k + j) a b = S k a b := by
    intro j
    induction j with
    | zero => intro _; rfl
    | succ j ih =>
      intro hj
      rw [← Nat.add_assoc]
      simp only [S]
      rw [ih (by omega)]
      have hb : a.getMsbD (k + j) = false := by
        have h1 := congrArg (fun v => BitVec.getMsbD v j) h
        simp only [BitVec.getMsbD_shiftLeft] at h1
        have h2 : BitVec.getMsbD (0#32) j = false := by simp
        rw [h2, Nat.add_comm] at h1
        exact h1
      simp [hb]
  have := key (32 - k) (by omega)
  rw [show k + (32 - k) = 32 by omega] at this
  exact this.symm

/-- Powers of x to 8. -/
def pw (n : Nat) : BitVec 32 := steps (8 * n) one
theorem pw_zero : pw 0 = one := rfl
theorem pw_one : pw 1 = 0x00800000#32 := by decide
theorem times_pw (m n : Nat) : times (pw m) (pw n) = pw (m + n) := by
  unfold pw; rw [times_steps, ← steps_add, Nat.mul_add]
theorem times_pw_left (n : Nat) (a : BitVec 32) : times (pw n) a = steps (8 * n) a := times_steps _ a
theorem pw_ne (n : Nat) : pw n ≠ 0#32 := fun h => absurd (steps_eq_zero _ h) (by decide)

/-- A byte. -/
def upd (s : BitVec 32) (c : UInt8) : BitVec 32 := steps 8 (s ^^^ c.toBitVec.setWidth 32)
def F (s : BitVec 32) (l : List UInt8) : BitVec 32 := l.foldl upd s
def more (s : BitVec 32) (l : List UInt8) : BitVec 32 := ~~~ (F (~~~ s) l)
def sum (l : List UInt8) : BitVec 32 := more 0#32 l

theorem F_append (s : BitVec 32) (x y : List UInt8) : F s (x ++ y) = F (F s x) y := by simp [F]
theorem F_snoc (s : BitVec 32) (x : List UInt8) (c : UInt8) : F s (x ++ [c]) = upd (F s x) c := by simp [F]
theorem more_nil (s : BitVec 32) : more s [] = s := by simp [more, F]
theorem more_append (s : BitVec 32) (x y : List UInt8) : more s (x ++ y) = more (more s x) y := by simp [more, F_append]
theorem upd_xor (s t : BitVec 32) (c : UInt8) : upd (s ^^^ t) c = steps 8 s ^^^ upd t c := by
  unfold upd; rw [BitVec.xor_assoc, steps_xor]
theorem F_xor (s t : BitVec 32) (l : List UInt8) : F (s ^^^ t) l = steps (8 * l.length) s ^^^ F t l := by
  induction l generalizing s t with
  | nil => rfl
  | cons c l ih =>
    show F (upd (s ^^^ t) c) l = _ ^^^ F (upd t c) l
    rw [upd_xor, ih, ← steps_add, List.length_cons, Nat.mul_add, Nat.mul_one]
theorem not_xor (a b : BitVec 32) : ~~~ (a ^^^ b) = a ^^^ ~~~ b := by
  apply BitVec.eq_of_getLsbD_eq; intro i hi
  simp [hi]
theorem not_eq (a : BitVec 32) : ~~~ a = a ^^^ ~~~ 0#32 := by
  have h := not_xor a 0#32
  rw [BitVec.xor_zero] at h
  exact h
/-- The sum of a row that is parted. -/
theorem sum_join (x y : List UInt8) : sum (x ++ y) = times (pw y.length) (sum x) ^^^ sum y := by
  rw [times_pw_left]
  unfold sum
  rw [more_append]
  generalize more 0#32 x = s
  unfold more
  rw [not_eq s, F_xor, not_xor]
/-- Sums of one row behind another. -/
theorem more_eq (s : BitVec 32) (y : List UInt8) : more s y = times (pw y.length) s ^^^ sum y := by
  rw [times_pw_left]
  unfold sum more
  rw [not_eq s, F_xor, not_xor]

/-- Rows that are xored. -/
theorem upd_zip (s t : BitVec 32) (c d : UInt8) : upd (s ^^^ t) (c ^^^ d) = upd s c ^^^ upd t d := by
  unfold upd
  have e : (c ^^^ d).toBitVec.setWidth 32 = c.toBitVec.setWidth 32 ^^^ d.toBitVec.setWidth 32 := by
    rw [UInt8.toBitVec_xor]
    apply BitVec.eq_of_getLsbD_eq; intro i hi
    simp [BitVec.getLsbD_setWidth]
  rw [← steps_xor, e, xor4]
theorem F_zip (s t : BitVec 32) (x y : List UInt8) (h : x.length = y.length) : F (s ^^^ t) (List.zipWith (· ^^^ ·) x y) = F s x ^^^ F t y := by
  induction x generalizing s t y with
  | nil => cases y with
    | nil => rfl
    | cons _ _ => simp at h
  | cons c x ih => cases y with
    | nil => simp at h
    | cons d y =>
      simp only [List.length_cons, Nat.add_right_cancel_iff] at h
      show F (upd (s ^^^ t) (c ^^^ d)) _ = F (upd s c) x ^^^ F (upd t d) y
      rw [upd_zip, ih _ _ _ h]
theorem sum_zip3 (x y z : List UInt8) (h : x.length = y.length) (h' : x.length = z.length) :
    sum (List.zipWith (· ^^^ ·) (List.zipWith (· ^^^ ·) x y) z) = sum x ^^^ sum y ^^^ sum z := by
  unfold sum more
  have e : ~~~ (0#32) = (~~~ (0#32) ^^^ ~~~ (0#32)) ^^^ ~~~ (0#32) := by decide
  rw [e, F_zip _ _ _ _ (by simp only [List.length_zipWith]; omega), F_zip _ _ _ _ h, ← e]
  generalize F (~~~ 0#32) x = a
  generalize F (~~~ 0#32) y = b
  generalize F (~~~ 0#32) z = c
  rw [not_eq (a ^^^ b ^^^ c), not_eq a, not_eq b, not_eq c, xor4 a _ b _, BitVec.xor_self, BitVec.xor_zero, BitVec.xor_assoc]

/-- Four steps by a table of 16. -/
def half : List (BitVec 32) := [0x00000000#32, 0x105ec76f#32, 0x20bd8ede#32, 0x30e349b1#32, 0x417b1dbc#32, 0x5125dad3#32, 0x61c69362#32, 0x7198540d#32,
  0x82f63b78#32, 0x92a8fc17#32, 0xa24bb5a6#32, 0xb21572c9#32, 0xc38d26c4#32, 0xd3d3e1ab#32, 0xe330a81a#32, 0xf36e6f75#32]
theorem half_steps (i : Nat) (hi : i < 16) : half.getD i 0 = steps 4 (BitVec.ofNat 32 i) := by
  have h : ∀ j : Fin 16, half.getD j.1 0 = steps 4 (BitVec.ofNat 32 j.1) := by decide
  exact h ⟨i, hi⟩
theorem step_even {a : BitVec 32} (h : a.getLsbD 0 = false) : step a = a >>> 1 := by
  unfold step
  rw [if_neg (by rw [h]; exact Bool.false_ne_true), BitVec.xor_zero]
theorem steps_shift (n k : Nat) (a : BitVec 32) (h : ∀ i, i < n → a.getLsbD i = false) (hk : k ≤ n) : steps k a = a >>> k := by
  induction k with
  | zero => simp [steps]
  | succ k ih =>
    rw [steps_succ, ih (by omega), step_even (by simpa [BitVec.getLsbD_ushiftRight] using h k (by omega)), BitVec.shiftRight_add]
theorem half_word (s : BitVec 32) : (s >>> 4) ^^^ half.getD (s &&& 15#32).toNat 0 = steps 4 s := by
  have hlt : (s &&& 15#32).toNat < 16 := by
    rw [BitVec.toNat_and]
    exact Nat.lt_of_le_of_lt Nat.and_le_right (by decide)
  rw [half_steps _ hlt]
  have e1 : BitVec.ofNat 32 (s &&& 15#32).toNat = s &&& 15#32 := by simp
  rw [e1]
  have e2 : s = (s &&& ~~~ 15#32) ^^^ (s &&& 15#32) := by
    apply BitVec.eq_of_getLsbD_eq; intro i hi
    simp only [BitVec.getLsbD_xor, BitVec.getLsbD_and, BitVec.getLsbD_not]
    cases s.getLsbD i <;> cases (15#32).getLsbD i <;> simp [hi]
  have e3 : steps 4 s = steps 4 (s &&& ~~~ 15#32) ^^^ steps 4 (s &&& 15#32) := by rw [← steps_xor, ← e2]
  have h15 : ∀ j : Fin 32, (15#32).getLsbD j.1 = decide (j.1 < 4) := by decide
  rw [e3, steps_shift 4 4 (s &&& ~~~ 15#32) ?_ (by omega)]
  · congr 1
    apply BitVec.eq_of_getLsbD_eq; intro i hi
    simp only [BitVec.getLsbD_ushiftRight, BitVec.getLsbD_and, BitVec.getLsbD_not]
    by_cases h4 : 4 + i < 32
    · rw [h15 ⟨4 + i, h4⟩]; simp; omega
    · simp [BitVec.getLsbD_of_ge s (4 + i) (by omega)]
  · intro i hi
    simp only [BitVec.getLsbD_and, BitVec.getLsbD_not]
    rw [h15 ⟨i, by omega⟩]; simp [hi]
theorem half_lt (s : BitVec 32) : (s &&& 15#32).toNat < 16 := by
  rw [BitVec.toNat_and]
  exact Nat.lt_of_le_of_lt Nat.and_le_right (by decide)
theorem upd_half (s : BitVec 32) (c : UInt8) (t u : BitVec 32) (ht : t = s ^^^ c.toBitVec.setWidth 32)
    (hu : u = (t >>> 4) ^^^ half.getD (t &&& 15#32).toNat 0) : (u >>> 4) ^^^ half.getD (u &&& 15#32).toNat 0 = upd s c := by
  rw [half_word, hu, half_word, ← steps_add, ht]; rfl
end Go.Proofs.YtjhaikcokbmdbaaGreatDoor.Cm
