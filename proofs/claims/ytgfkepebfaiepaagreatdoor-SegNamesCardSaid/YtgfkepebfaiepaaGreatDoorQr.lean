/-
  Chapter 11: sums, records, heads, scans: plain laws; sums walked.
-/
import Derived.KernelRfl
import Derived.Test.YtgfkepebfaiepaaGreatDoorQh
import Derived.Test.YtgfkepebfaiepaaGreatDoorQa
import Derived.Test.YtgfkepebfaiepaaGreatDoorQt
namespace Go.Proofs.YtgfkepebfaiepaaGreatDoor.Cm
def M : BitVec 32 := 0x82f63b78#32
def one : BitVec 32 := 0x80000000#32
def step (a : BitVec 32) : BitVec 32 := (a >>> 1) ^^^ (if a.getLsbD 0 then M else 0#32)
def steps : Nat → BitVec 32 → BitVec 32
 | 0, a => a
 | n + 1, a => steps n (step a)
theorem xor4 (a b c d : BitVec 32) : (a ^^^ b) ^^^ (c ^^^ d) = (a ^^^ c) ^^^ (b ^^^ d) := by
 rw [BitVec.xor_assoc, BitVec.xor_assoc, ← BitVec.xor_assoc b c d, BitVec.xor_comm b c, BitVec.xor_assoc c b d]
theorem step_xor (a b : BitVec 32) : step (a ^^^ b) = step a ^^^ step b := by
 unfold step
 rw [BitVec.ushiftRight_xor_distrib, xor4, BitVec.getLsbD_xor]
 congr 1
 cases a.getLsbD 0 <;> cases b.getLsbD 0 <;> simp
theorem steps_xor (n : Nat) (a b : BitVec 32) : steps n (a ^^^ b) = steps n a ^^^ steps n b := by
 induction n generalizing a b with
 | zero => rfl
 | succ n ih => simp only [steps, step_xor, ih]
theorem steps_add (m n : Nat) (a : BitVec 32) : steps (m + n) a = steps m (steps n a) := by
 induction n generalizing a with
 | zero => rfl
 | succ n ih => rw [← Nat.add_assoc]; simp only [steps, ih]
theorem steps_succ (n : Nat) (a : BitVec 32) : steps (n + 1) a = step (steps n a) := by
 rw [Nat.add_comm, steps_add]; rfl
def S : Nat → BitVec 32 → BitVec 32 → BitVec 32
 | 0, _, _ => 0#32
 | n + 1, a, b => S n a b ^^^ (if a.getMsbD n then steps n b else 0#32)
def upd (s : BitVec 32) (c : UInt8) : BitVec 32 := steps 8 (s ^^^ c.toBitVec.setWidth 32)
def F (s : BitVec 32) (l : List UInt8) : BitVec 32 := l.foldl upd s
def more (s : BitVec 32) (l : List UInt8) : BitVec 32 := ~~~ (F (~~~ s) l)
def sum (l : List UInt8) : BitVec 32 := more 0#32 l
theorem F_snoc (s : BitVec 32) (x : List UInt8) (c : UInt8) : F s (x ++ [c]) = upd (F s x) c := by simp [F]
def half : List (BitVec 32) := [0x00000000#32, 0x105ec76f#32, 0x20bd8ede#32, 0x30e349b1#32, 0x417b1dbc#32, 0x5125dad3#32, 0x61c69362#32, 0x7198540d#32,
 0x82f63b78#32, 0x92a8fc17#32, 0xa24bb5a6#32, 0xb21572c9#32, 0xc38d26c4#32, 0xd3d3e1ab#32, 0xe330a81a#32, 0xf36e6f75#32]
theorem half_steps (i : Nat) (hi : i < 16) : half.getD i 0 = steps 4 (BitVec.ofNat 32 i) := by
 have h : ∀ j : Fin 16, half.getD j.1 0 = steps 4 (BitVec.ofNat 32 j.1) := by decide
 exact h ⟨i, hi⟩
theorem step_even {a : BitVec 32} (h : a.getLsbD 0 = false) : step a = a >>> 1 := by
 unfold step
 rw [if_neg (by rw [h]; exact Bool.false_ne_true), BitVec.xor_zero]
theorem steps_shift (n k : Nat) (a : BitVec 32) (h : ∀ i, i < n → a.getLsbD i = false) (hk : k ≤ n) : steps k a = a >>> k := by
 induction k with
 | zero => simp [steps]
 | succ k ih =>
   rw [steps_succ, ih (by omega), step_even (by simpa [BitVec.getLsbD_ushiftRight] using h k (by omega)), BitVec.shiftRight_add]
theorem half_word (s : BitVec 32) : (s >>> 4) ^^^ half.getD (s &&& 15#32).toNat 0 = steps 4 s := by
 have hlt : (s &&& 15#32).toNat < 16 := by
  rw [BitVec.toNat_and]
  exact Nat.lt_of_le_of_lt Nat.and_le_right (by decide)
 rw [half_steps _ hlt]
 have e1 : BitVec.ofNat 32 (s &&& 15#32).toNat = s &&& 15#32 := by simp
 rw [e1]
 have e2 : s = (s &&& ~~~ 15#32) ^^^ (s &&& 15#32) := by
  apply BitVec.eq_of_getLsbD_eq; intro i hi
  simp only [BitVec.getLsbD_xor, BitVec.getLsbD_and, BitVec.getLsbD_not]
  cases s.getLsbD i <;> cases (15#32).getLsbD i <;> simp [hi]
 have e3 : steps 4 s = steps 4 (s &&& ~~~ 15#32) ^^^ steps 4 (s &&& 15#32) := by rw [← steps_xor, ← e2]
 have h15 : ∀ j : Fin 32, (15#32).getLsbD j.1 = decide (j.1 < 4) := by decide
 rw [e3, steps_shift 4 4 (s &&& ~~~ 15#32) ?_ (by omega)]
 ·congr 1
  apply BitVec.eq_of_getLsbD_eq; intro i hi
  simp only [BitVec.getLsbD_ushiftRight, BitVec.getLsbD_and, BitVec.getLsbD_not]
  by_cases h4 : 4 + i < 32
  ·rw [h15 ⟨4 + i, h4⟩]; simp; omega
  ·simp [BitVec.getLsbD_of_ge s (4 + i) (by omega)]
 ·intro i hi
  simp only [BitVec.getLsbD_and, BitVec.getLsbD_not]
  rw [h15 ⟨i, by omega⟩]; simp [hi]
theorem half_lt (s : BitVec 32) : (s &&& 15#32).toNat < 16 := by
 rw [BitVec.toNat_and]
 exact Nat.lt_of_le_of_lt Nat.and_le_right (by decide)
theorem upd_half (s : BitVec 32) (c : UInt8) (t u : BitVec 32) (ht : t = s ^^^ c.toBitVec.setWidth 32)
 (hu : u = (t >>> 4) ^^^ half.getD (t &&& 15#32).toNat 0) : (u >>> 4) ^^^ half.getD (u &&& 15#32).toNat 0 = upd s c := by
 rw [half_word, hu, half_word, ← steps_add, ht]; rfl
end Go.Proofs.YtgfkepebfaiepaaGreatDoor.Cm

namespace Go.Proofs.YtgfkepebfaiepaaGreatDoor.Cm
def lo : Nat → BitVec 32 → BitVec 32
 | 0, _ => 0#32
 | k + 1, a => lo k a ^^^ (if a.getLsbD k then BitVec.twoPow 32 k else 0#32)
end Go.Proofs.YtgfkepebfaiepaaGreatDoor.Cm

namespace Go.Proofs.YtgfkepebfaiepaaGreatDoor.Ax
def le (n : Nat) : Nat → List UInt8
 | 0 => []
 | k + 1 => le n k ++ [UInt8.ofNat (n / 256 ^ k)]
def unle : List UInt8 → Nat
 | [] => 0
 | c :: t => c.toNat + 256 * unle t
theorem le_len (n k : Nat) : (le n k).length = k := by
 induction k with
 | zero => rfl
 | succ k ih => simp [le, ih]
theorem unle_snoc (l : List UInt8) (c : UInt8) : unle (l ++ [c]) = unle l + 256 ^ l.length * c.toNat := by
 induction l with
 | nil => simp [unle]
 | cons d t ih =>
   simp only [List.cons_append, unle, ih, List.length_cons, Nat.pow_succ]
   rw [Nat.mul_add, Nat.mul_comm (256 ^ t.length) 256, Nat.mul_assoc, Nat.add_assoc]
theorem unle_le (n k : Nat) : unle (le n k) = n % 256 ^ k := by
 induction k with
 | zero => simp [le, unle, Nat.mod_one]
 | succ k ih =>
   rw [le, unle_snoc, ih, le_len, Nat.pow_succ, Nat.mod_mul]
   simp
theorem unle_le' {n k : Nat} (h : n < 256 ^ k) : unle (le n k) = n := by rw [unle_le, Nat.mod_eq_of_lt h]
def by4 (s : BitVec 32) (k : Nat) : UInt8 := ⟨(s >>> (8 * k)).setWidth 8⟩
def le4 (s : BitVec 32) : List UInt8 := [by4 s 0, by4 s 1, by4 s 2, by4 s 3]
def cover (l : List UInt8) : List UInt8 := l ++ le4 (Cm.sum l)
def right (l : List UInt8) : Bool := decide (4 ≤ l.length) && decide (le4 (Cm.sum (l.take (l.length - 4))) = l.drop (l.length - 4))
theorem le4_len (s : BitVec 32) : (le4 s).length = 4 := rfl
theorem cover_len (l : List UInt8) : (cover l).length = l.length + 4 := by simp [cover, le4_len]
theorem right_cover (l : List UInt8) : right (cover l) = true := by
 unfold right
 rw [cover_len, Nat.add_sub_cancel, cover, List.take_left', List.drop_left'] <;> simp
structure Rec where
 seq : Nat
 kind : Int
 key : List UInt8
 val : List UInt8
 seg : Nat
 off : Nat
deriving DecidableEq
instance : Inhabited Rec := ⟨⟨0, 0, [], [], 0, 0⟩⟩
def LMay (s o : Nat) : Prop := (s = 0 ∧ o = 0) ∨ ((1 ≤ s ∧ s ≤ 16777215) ∧ (16 ≤ o ∧ o ≤ 16777216))
instance (s o : Nat) : Decidable (LMay s o) := inferInstanceAs (Decidable (_ ∨ _))
def Rec.May (r : Rec) : Prop := (r.kind = 1 ∨ (r.kind = 2 ∧ r.val.length = 0)) ∧ (1 ≤ r.seq ∧ r.seq ≤ 1099511627776) ∧ (1 ≤ r.key.length ∧ r.key.length ≤ 64) ∧ r.val.length ≤ 1024 ∧ LMay r.seg r.off
instance (r : Rec) : Decidable r.May := inferInstanceAs (Decidable (_ ∧ _))
def Rec.size (r : Rec) : Nat := 25 + r.key.length + r.val.length
def Rec.nums (r : Rec) : List UInt8 := le r.kind.toNat 1 ++ le r.key.length 1 ++ le r.val.length 2 ++ le r.seq 6 ++ le r.seg 3 ++ le r.off 4
def Rec.head (r : Rec) : List UInt8 := cover r.nums
def Rec.enc (r : Rec) : List UInt8 := cover (r.head ++ r.key ++ r.val)
theorem nums_len (r : Rec) : r.nums.length = 17 := by simp [Rec.nums, le_len]
theorem head_len (r : Rec) : r.head.length = 21 := by rw [Rec.head, cover_len, nums_len]
theorem enc_len (r : Rec) : r.enc.length = r.size := by
 rw [Rec.enc, cover_len]
 simp only [List.length_append, head_len, Rec.size]
 omega
def toldR (b : List UInt8) : Rec := ⟨unle ((b.drop 4).take 6), (unle (b.take 1) : Nat), List.replicate (unle ((b.drop 1).take 1)) 0, List.replicate (unle ((b.drop 2).take 2)) 0, unle ((b.drop 10).take 3), unle ((b.drop 13).take 4)⟩
def getR (b : List UInt8) : Rec × Nat × Nat :=
 if b.length < 21 then (default, 0, 22) else
 if right (b.take 21) = false then (default, 0, 23) else
 if ¬ (toldR b).May then (default, 0, 23) else
 if b.length < (toldR b).size then (default, 0, 22) else
 if right (b.take (toldR b).size) = false then (default, (toldR b).size, 23) else
 ({ toldR b with key := (b.drop 21).take (toldR b).key.length, val := (b.drop (21 + (toldR b).key.length)).take (toldR b).val.length }, (toldR b).size, 0)
theorem toldR_head {r : Rec} (h : r.May) (t : List UInt8) : toldR (r.head ++ t) = { r with key := List.replicate r.key.length 0, val := List.replicate r.val.length 0 } := by
 obtain ⟨h1, ⟨_, h2⟩, ⟨_, h3⟩, h4, h5⟩ := h
 have hk : ((r.kind.toNat : Nat) : Int) = r.kind := by omega
 have hk2 : r.kind.toNat < 256 ^ 1 := by omega
 have hs : r.seg < 256 ^ 3 := by unfold LMay at h5; omega
 have ho : r.off < 256 ^ 4 := by unfold LMay at h5; omega
 have e : r.head ++ t = le r.kind.toNat 1 ++ (le r.key.length 1 ++ (le r.val.length 2 ++ (le r.seq 6 ++ (le r.seg 3 ++ (le r.off 4 ++ (le4 (Cm.sum r.nums) ++ t)))))) := by
  simp only [Rec.head, cover, Rec.nums, List.append_assoc]
 have g : ∀ (x y z : List UInt8) (a b : Nat), x.length = a → y.length = b → ((x ++ (y ++ z)).drop a).take b = y := fun x y z a b h1 h2 => by
  rw [List.drop_left' h1, List.take_left' h2]
 unfold toldR
 rw [e]
 have a0 : (le r.kind.toNat 1 ++ (le r.key.length 1 ++ (le r.val.length 2 ++ (le r.seq 6 ++ (le r.seg 3 ++ (le r.off 4 ++ (le4 (Cm.sum r.nums) ++ t))))))).take 1 = le r.kind.toNat 1 := List.take_left' (le_len _ _)
 have a1 : ((le r.kind.toNat 1 ++ (le r.key.length 1 ++ (le r.val.length 2 ++ (le r.seq 6 ++ (le r.seg 3 ++ (le r.off 4 ++ (le4 (Cm.sum r.nums) ++ t))))))).drop 1).take 1 = le r.key.length 1 := g _ _ _ _ _ (le_len _ _) (le_len _ _)
 have a2 : ((le r.kind.toNat 1 ++ (le r.key.length 1 ++ (le r.val.length 2 ++ (le r.seq 6 ++ (le r.seg 3 ++ (le r.off 4 ++ (le4 (Cm.sum r.nums) ++ t))))))).drop 2).take 2 = le r.val.length 2 := by
  rw [← List.append_assoc]
  exact g _ _ _ _ _ (by simp [le_len]) (le_len _ _)
 have a3 : ((le r.kind.toNat 1 ++ (le r.key.length 1 ++ (le r.val.length 2 ++ (le r.seq 6 ++ (le r.seg 3 ++ (le r.off 4 ++ (le4 (Cm.sum r.nums) ++ t))))))).drop 4).take 6 = le r.seq 6 := by
  rw [← List.append_assoc, ← List.append_assoc]
  exact g _ _ _ _ _ (by simp [le_len]) (le_len _ _)
 have a4 : ((le r.kind.toNat 1 ++ (le r.key.length 1 ++ (le r.val.length 2 ++ (le r.seq 6 ++ (le r.seg 3 ++ (le r.off 4 ++ (le4 (Cm.sum r.nums) ++ t))))))).drop 10).take 3 = le r.seg 3 := by
  rw [← List.append_assoc, ← List.append_assoc, ← List.append_assoc]
  exact g _ _ _ _ _ (by simp [le_len]) (le_len _ _)
 have a5 : ((le r.kind.toNat 1 ++ (le r.key.length 1 ++ (le r.val.length 2 ++ (le r.seq 6 ++ (le r.seg 3 ++ (le r.off 4 ++ (le4 (Cm.sum r.nums) ++ t))))))).drop 13).take 4 = le r.off 4 := by
  rw [← List.append_assoc, ← List.append_assoc, ← List.append_assoc, ← List.append_assoc]
  exact g _ _ _ _ _ (by simp [le_len]) (le_len _ _)
 rw [a0, a1, a2, a3, a4, a5, unle_le' hk2, unle_le' (show r.key.length < 256 ^ 1 by omega), unle_le' (show r.val.length < 256 ^ 2 by omega), unle_le' (show r.seq < 256 ^ 6 by omega), unle_le' hs, unle_le' ho, hk]
theorem may_zero {r : Rec} (h : r.May) : Rec.May { r with key := List.replicate r.key.length 0, val := List.replicate r.val.length 0 } := by
 unfold Rec.May at *
 simpa using h
theorem getR_head {r : Rec} (h : r.May) (t : List UInt8) : getR (r.head ++ t) =
 if 21 + t.length < r.size then (default, 0, 22) else
 if right ((r.head ++ t).take r.size) = false then (default, r.size, 23) else
 ({ r with key := t.take r.key.length, val := (t.drop r.key.length).take r.val.length }, r.size, 0) := by
 unfold getR
 rw [if_neg (show ¬ (r.head ++ t).length < 21 by simp [head_len]), List.take_left' (head_len r), if_neg (show ¬ right r.head = false by rw [Rec.head, right_cover]; decide), toldR_head h, if_neg (not_not_intro (may_zero h))]
 simp only [Rec.size, List.length_replicate, List.length_append, head_len]
 rw [List.drop_left' (head_len r), show (r.head ++ t).drop (21 + r.key.length) = t.drop r.key.length by rw [← List.drop_drop, List.drop_left' (head_len r)]]
 rfl
theorem getR_enc {r : Rec} (h : r.May) (t : List UInt8) : getR (r.enc ++ t) = (r, r.size, 0) := by
 have e : r.enc ++ t = r.head ++ (r.key ++ (r.val ++ (le4 (Cm.sum (r.head ++ r.key ++ r.val)) ++ t))) := by simp only [Rec.enc, cover, List.append_assoc]
 rw [e, getR_head h, if_neg (by simp [Rec.size, le4_len]; omega), ← e, List.take_left' (enc_len r), if_neg (by rw [Rec.enc, right_cover]; decide)]
 rw [List.take_left' rfl, List.drop_left' rfl, List.take_left' rfl]
end Go.Proofs.YtgfkepebfaiepaaGreatDoor.Ax

namespace Go.Proofs.YtgfkepebfaiepaaGreatDoor.Ax
end Go.Proofs.YtgfkepebfaiepaaGreatDoor.Ax

namespace Go.Proofs.YtgfkepebfaiepaaGreatDoor.Ax
def HMay (k n : Nat) : Prop := (k = 2 ∧ n = 0) ∨ (k = 1 ∧ (1 ≤ n ∧ n ≤ 16777215))
instance (k n : Nat) : Decidable (HMay k n) := inferInstanceAs (Decidable (_ ∨ _))
def lettersB : List UInt8 := [104, 111, 117, 114, 98, 107, 49]
def headB (k n : Nat) : List UInt8 := cover (lettersB ++ [UInt8.ofNat k] ++ le n 4)
theorem headB_len (k n : Nat) : (headB k n).length = 16 := by rw [headB, cover_len]; simp [le_len, lettersB]
theorem HMay.lt {k n : Nat} (h : HMay k n) : k < 256 ∧ n < 4294967296 := by unfold HMay at h; omega
structure Fnd where
 off : Nat
 size : Nat
 r : Rec
deriving DecidableEq
instance : Inhabited Fnd := ⟨⟨0, 0, default⟩⟩
structure SC where
 found : List Fnd
 passed : List Nat
 end_ : Nat
 why : Nat
def SC.last (s : SC) : Nat := (s.found.getD (s.found.length - 1) default).r.seq
def SC.next (b : List UInt8) (s : SC) : SC × Bool :=
 if s.end_ = b.length then (s, false) else
 if 16777216 < s.end_ then ({ s with why := 23 }, false) else
 let g := getR (b.drop s.end_)
 if g.2.2 = 0 ∧ s.last < g.1.seq then ({ s with found := s.found ++ [⟨s.end_, g.2.1, g.1⟩], end_ := s.end_ + g.2.1 }, true) else
 if g.2.2 = 23 ∧ 0 < g.2.1 then ({ s with passed := s.passed ++ [s.end_], end_ := s.end_ + g.2.1 }, true) else
 if g.2.2 = 22 then ({ s with why := 22 }, false) else ({ s with why := 23 }, false)
def SC.runs (b : List UInt8) : Nat → SC → SC
 | 0, s => s
 | n + 1, s => if (s.next b).2 then SC.runs b n (s.next b).1 else (s.next b).1
end Go.Proofs.YtgfkepebfaiepaaGreatDoor.Ax

namespace Go.Proofs.YtgfkepebfaiepaaGreatDoor.Ax
def encs (l : List Rec) : List UInt8 := (l.map Rec.enc).flatten
def Asc (s : Nat) : List Rec → Prop
 | [] => True
 | r :: t => r.May ∧ s < r.seq ∧ Asc r.seq t
theorem encs_cons (r : Rec) (t : List Rec) : encs (r :: t) = r.enc ++ encs t := rfl
theorem encs_append (x y : List Rec) : encs (x ++ y) = encs x ++ encs y := by simp [encs]
end Go.Proofs.YtgfkepebfaiepaaGreatDoor.Ax

namespace Go.Proofs.YtgfkepebfaiepaaGreatDoor.Ax
open Go.RowKit Go.Sort
set_option maxRecDepth 100000
theorem len64_ok (m : Nat) (hm : m < 18446744073709551616) : AFn Go.Proofs.Tryz.prog 251 [AV.int .u64 m] ⟨0, []⟩ (fun _ : Unit => AV.int .i64 (bitsLen m : Nat)) (fun _ => ⟨0, []⟩) :=
 AFn.scalar ⟨_, Go.Proofs.Tryz.func251, by kernel_rfl, by kernel_rfl⟩ fun W => by
  have h := Any.bits_Len64 { Tryz.bitsLen with } (m : Int) W (by omega) (by omega)
  have h64 : (2 : Nat) ^ 64 = 18446744073709551616 := by decide
  rw [Int.toNat_natCast, bitLen_eq m (by omega)] at h
  exact h
theorem sized_ok (z : Int) : AFn Go.Proofs.Tryz.prog 245 [AV.int .i64 z] ⟨0, []⟩ (fun _ : Unit => AV.bool (decide (1 ≤ z ∧ z ≤ 8))) (fun _ => ⟨0, []⟩) := by
 refine ACall.walk (C := cfg 9 0) (cfgOk _ _) [] (fn := Go.Proofs.Tryz.f245) (by kernel_rfl) (by kernel_rfl) rfl (by kernel_rfl) (by kernel_rfl) rfl rfl ?_
 refine goA ?_
 refine ifdA (fun h => ?_) (fun h => ?_) <;> (try dsimp only at h)
 ·refine goA ?_
  exact ⟨(), by congr 3; simp only [ge_iff_le] at h; simp [h], rfl⟩
 ·refine goA ?_
  exact ⟨(), by congr 3; rw [eq_comm, decide_eq_false_iff_not]; omega, rfl⟩
theorem below_ok (n : Nat) (k : Nat) (hn : n < 18446744073709551616) : AFn Go.Proofs.Tryz.prog 246 [AV.int .u64 n, AV.int .i64 k] ⟨0, []⟩ (fun _ : Unit => AV.bool (decide (n < 2 ^ k))) (fun _ => ⟨0, []⟩) := by
 refine ACall.walk (C := cfg 9 0) (cfgOk _ _) [] (fn := Go.Proofs.Tryz.f246) (by kernel_rfl) (by kernel_rfl) rfl (by kernel_rfl) (by kernel_rfl) rfl rfl ?_
 refine goA ?_
 refine AFn.useA [] (len64_ok n hn) fun _ => ?_
 refine goA ?_
 refine ⟨(), ?_, rfl⟩
 congr 3
 have := bitsLen_le_iff n k
 rw [decide_eq_decide]
 omega
theorem byte_of (n i : Nat) (hi : i ≤ 7) : wrK IntKind.u8 ((n : Int) / 2 ^ (min (8 * ((i : Nat) : Int)).toNat IntKind.u64.bits)) = ((n / 256 ^ i % 256 : Nat) : Int) := by
 have e : min (8 * ((i : Nat) : Int)).toNat IntKind.u64.bits = 8 * i := by
  show min (8 * ((i : Nat) : Int)).toNat 64 = 8 * i
  omega
 rw [e, Int.pow_mul]
 show ((n : Int) / (2 ^ 8) ^ i) % 256 = _
 rw [Int.natCast_emod, Int.natCast_ediv, Int.natCast_pow]
 rfl
theorem fixed_ok (b : List UInt8) (n k : Nat) (hb : b.length ≤ 1000000) (hk : 1 ≤ k ∧ k ≤ 8) (hn : n < 256 ^ k) : AFn Go.Proofs.Tryz.prog 182 [.iv (.bs b), AV.int .u64 n, AV.int .i64 k] ⟨0, []⟩ (fun _ : Unit => .tup [.iv (.bs (b ++ le n k)), AV.int .i64 0]) (fun _ => ⟨0, []⟩) := by
 have h8 : (256 : Nat) ^ k ≤ 256 ^ 8 := Nat.pow_le_pow_right (by decide) hk.2
 have h64 : (256 : Nat) ^ 8 = 18446744073709551616 := by decide
 have h2 : (2 : Nat) ^ (8 * k) = 256 ^ k := by rw [Nat.pow_mul]
 refine ACall.fin ?_
 refine ACall.walk (C := cfg 35 0) (cfgOk _ _) [] (fn := Go.Proofs.Tryz.f182) (by kernel_rfl) (by kernel_rfl) rfl (by kernel_rfl) (by kernel_rfl) rfl rfl ?_
 refine goA ?_
 refine AFn.useA [] (sized_ok k) fun _ => ?_
 rw [decide_eq_true (show (1 : Int) ≤ k ∧ (k : Int) ≤ 8 by omega)]
 refine goA ?_
 rw [show (8 : Int) * (k : Int) = ((8 * k : Nat) : Int) by omega]
 refine AFn.useA [] (below_ok n (8 * k) (by omega)) fun _ => ?_
 rw [decide_eq_true (show n < 2 ^ (8 * k) by omega)]
 refine goA ?_
 refine AFn.useA [] (bcloneR_ok b (by omega)) fun _ => ?_
 refine goA ?_
 refine AWP.loop (X := { i : Nat // i ≤ k }) (fun x => [(0, .row 0 1 0 (b.length + x.1)), (1, AV.int .u64 n), (21, AV.int .i64 k), (22, AV.int .i64 x.1)]) (fun x => ⟨1, [(0, .brow 5 (b ++ le n x.1))]⟩) (fun x => k - x.1) (⟨0, Nat.zero_le _⟩) ?_ fun x => AWP.go (S := []) (cfgOk _ _) (.of_eq (by kernel_rfl)) ?_
 ·refine Ent.mk' [some 0] (by kernel_rfl) ⟨AVE.refl _, AVE.refl _, AVE.refl _, AVE.refl _, trivial⟩ ⟨⟨_, rfl, ChE.brow (by simp [le])⟩, trivial⟩
 ·obtain ⟨i, hi⟩ := x
  have hll : (le n i).length = i := le_len n i
  refine goA ?_
  refine ifdA (fun h => ?_) (fun h => ?_) <;> (try dsimp only at h)
  ·refine goA ?_
   have hw : wrK IntKind.u8 ((n : Int) / 2 ^ (min (8 * ((i : Nat) : Int)).toNat IntKind.u64.bits)) = ((n / 256 ^ i % 256 : Nat) : Int) := byte_of n i (by omega)
   rw [hw]
   refine goA ?_
   refine ⟨⟨i + 1, by omega⟩, Ent.mk' [some 2] (by kernel_rfl) ⟨AVE.len (by simp; omega), AVE.refl _, AVE.refl _, AVE.int (by simp), trivial⟩ ⟨⟨_, rfl, ChE.brow ?_⟩, trivial⟩, by show k - (i + 1) < k - i; omega⟩
   show List.take (b.length + i) (b ++ le n i) ++ List.take 1 (List.drop 0 [UInt8.ofNat ((n / 256 ^ i % 256 : Nat) : Int).toNat]) = b ++ (le n i ++ [UInt8.ofNat (n / 256 ^ i)])
   rw [List.take_of_length_le (by simp [hll]), Int.toNat_natCast]
   simp
   rw [← UInt8.toNat_inj]
   simp
  ·have hik : i = k := by omega
   subst hik
   refine goA ?_
   refine ⟨_, _, (Ent.freeze 0 _ rfl rfl (e' := [(0, .tup [.iv (.bs (b ++ le n i)), AV.int .i64 0])]) ⟨AVF.tup (AVF.bs (by simp [hll]) (by rw [List.take_of_length_le (by simp [hll])])) (AVF.same ..), trivial⟩).trans (Ent.mk' (e' := [(0, .tup [.iv (.bs (b ++ le n i)), AV.int .i64 0])]) (H' := ⟨0, []⟩) [] (by kernel_rfl) ⟨AVE.refl _, trivial⟩ trivial), (), rfl, rfl⟩
end Go.Proofs.YtgfkepebfaiepaaGreatDoor.Ax

namespace Go.Proofs.YtgfkepebfaiepaaGreatDoor.Ax
open Go.RowKit
set_option maxRecDepth 100000
def u32 (x : BitVec 32) : AV := AV.int .u32 (x.toNat : Nat)
theorem u32wrap (n : Nat) (h : n < 4294967296) : IntKind.u32.wrap ((n : Nat) : Int) = ((n : Nat) : Int) := by
 simp [IntKind.wrap, IntKind.bits, IntKind.signed]
 omega
theorem u32xor (x y : BitVec 32) : bitK .xor .u32 ((x.toNat : Nat) : Int) ((y.toNat : Nat) : Int) = (((x ^^^ y).toNat : Nat) : Int) := by
 show IntKind.u32.wrap ((BitVec.ofInt 32 (x.toNat : Int) ^^^ BitVec.ofInt 32 (y.toNat : Int)).toNat : Nat) = _
 rw [BitVec.ofInt_natCast, BitVec.ofInt_natCast, BitVec.ofNat_toNat, BitVec.ofNat_toNat, BitVec.setWidth_eq, BitVec.setWidth_eq]
 exact u32wrap _ (x ^^^ y).isLt
theorem u32and (x : BitVec 32) : bitK .and .u32 ((x.toNat : Nat) : Int) 15 = (((x &&& 15#32).toNat : Nat) : Int) := by
 show IntKind.u32.wrap ((BitVec.ofInt 32 (x.toNat : Int) &&& BitVec.ofInt 32 15).toNat : Nat) = _
 rw [BitVec.ofInt_natCast, BitVec.ofNat_toNat, BitVec.setWidth_eq]
 exact u32wrap _ (x &&& 15#32).isLt
theorem u32not (x : BitVec 32) : bitK .xor .u32 4294967295 ((x.toNat : Nat) : Int) = (((~~~ x).toNat : Nat) : Int) := by
 have h := u32xor (BitVec.allOnes 32) x
 rw [BitVec.allOnes_xor] at h
 exact h
theorem u32shr (x : BitVec 32) : ((x.toNat : Nat) : Int) / (2 : Int) ^ (min (4 : Int).toNat IntKind.u32.bits) = (((x >>> 4).toNat : Nat) : Int) := by
 rw [BitVec.toNat_ushiftRight, Nat.shiftRight_eq_div_pow]
 show ((x.toNat : Nat) : Int) / (2 : Int) ^ 4 = _
 simp
theorem u32byte (c : UInt8) : wrK .u32 ((c.toNat : Nat) : Int) = (((c.toBitVec.setWidth 32).toNat : Nat) : Int) := by
 have := c.toNat_lt
 rw [BitVec.toNat_setWidth]
 show ((c.toNat : Nat) : Int) % 4294967296 = _
 rw [UInt8.toNat_toBitVec]
 omega
theorem half_drop (n : Nat) (h : n < 16) : halfI.drop (n * 1) = .v (.int .u32 (((Cm.half.getD n 0#32).toNat : Nat) : Int)) :: halfI.drop (n + 1) := by
 have : n = 0 ∨ n = 1 ∨ n = 2 ∨ n = 3 ∨ n = 4 ∨ n = 5 ∨ n = 6 ∨ n = 7 ∨ n = 8 ∨ n = 9 ∨ n = 10 ∨ n = 11 ∨ n = 12 ∨ n = 13 ∨ n = 14 ∨ n = 15 := by omega
 rcases this with rfl | rfl | rfl | rfl | rfl | rfl | rfl | rfl | rfl | rfl | rfl | rfl | rfl | rfl | rfl | rfl <;> rfl
theorem half_at (y : BitVec 32) : List.take 1 (List.drop ((((y &&& 15#32).toNat : Nat) : Int).toNat * 1) halfI) = [.v (.int .u32 (((Cm.half.getD (y &&& 15#32).toNat 0#32).toNat : Nat) : Int))] := by
 rw [show List.drop ((((y &&& 15#32).toNat : Nat) : Int).toNat * 1) halfI = _ from half_drop _ (Cm.half_lt y)]
 rfl
theorem F_take (s : BitVec 32) (l : List UInt8) (k : Nat) (h : k < l.length) : Cm.F s (l.take (k + 1)) = Cm.upd (Cm.F s (l.take k)) (l.getD k 0) := by
 rw [List.take_succ_eq_append_getElem h, Cm.F_snoc]
 simp [List.getD, h]
theorem more_ok (s : BitVec 32) (l : List UInt8) (hl : l.length ≤ 9223372036854775807) : AFn Go.Proofs.Tryz.prog 290 [u32 s, .iv (.bs l)] ⟨0, []⟩ (fun _ : Unit => u32 (Cm.more s l)) (fun _ => ⟨0, []⟩) := by
 unfold u32
 refine ACall.fin ?_
 refine ACall.walk (C := cfg 36 0) (cfgOk _ _) [] (fn := Go.Proofs.Tryz.f290) (by kernel_rfl) (by kernel_rfl) rfl (by kernel_rfl) (by kernel_rfl) rfl rfl ?_
 refine goA ?_
 refine AWP.loop (X := { i : Nat // i ≤ l.length }) (fun x => [(0, AV.int .u32 ((Cm.F (~~~ s) (l.take x.1)).toNat : Nat)), (9, .iv (.bs l)), (10, AV.int .i64 l.length), (11, AV.int .i64 x.1)]) (fun x => ⟨0, []⟩) (fun x => l.length - x.1) (⟨0, Nat.zero_le _⟩) ?_ fun x => AWP.go (S := []) (cfgOk _ _) (.of_eq (by kernel_rfl)) ?_
 ·refine Ent.mk' [] (by kernel_rfl) ⟨AVE.int (u32not s), AVE.refl _, AVE.refl _, AVE.refl _, trivial⟩ trivial
 ·obtain ⟨i, hi⟩ := x
  have hg : l.getD ((i : Nat) : Int).toNat 0 = l.getD i 0 := rfl
  refine goA ?_
  refine ifdA (fun h => ?_) (fun h => ?_) <;> (try dsimp only at h)
  ·have hil : i < l.length := by omega
   have hf := F_take (~~~ s) l i hil
   generalize hF : Cm.F (~~~ s) (l.take i) = z at *
   generalize hc : l.getD i 0 = c at *
   have hu := Cm.upd_half z c _ _ rfl rfl
   have b1 := Cm.half_lt (z ^^^ c.toBitVec.setWidth 32)
   refine goA ?_
   rw [hg, u32byte, u32xor, u32and]
   generalize hy : z ^^^ c.toBitVec.setWidth 32 = y at *
   refine goA ?_
   rw [half_at]
   refine goA ?_
   rw [u32shr, u32xor]
   generalize hy2 : (y >>> 4) ^^^ Cm.half.getD (y &&& 15#32).toNat 0#32 = y2 at *
   have b2 := Cm.half_lt y2
   rw [u32and]
   refine goA ?_
   rw [half_at]
   refine goA ?_
   rw [u32shr, u32xor]
   refine ⟨⟨i + 1, by omega⟩, Ent.mk' [] (by kernel_rfl) ⟨AVE.int (by rw [hf, ← hu]; rfl), AVE.refl _, AVE.refl _, AVE.int (by simp), trivial⟩ trivial, by show l.length - (i + 1) < l.length - i; omega⟩
  ·have hik : i = l.length := by omega
   subst hik
   refine goA ?_
   have e : bitK BinOp.xor IntKind.u32 (if IntKind.u32.signed = true then -1 else IntKind.u32.max) (((Cm.F (~~~ s) (l.take l.length)).toNat : Nat) : Int) = (((Cm.more s l).toNat : Nat) : Int) := by
    rw [List.take_length]
    exact u32not _
   refine ⟨_, _, Ent.mk' (e' := [(0, AV.int .u32 ((Cm.more s l).toNat : Nat))]) (H' := ⟨0, []⟩) [] (by kernel_rfl) ⟨AVE.int e, trivial⟩ trivial, (), rfl, rfl⟩
end Go.Proofs.YtgfkepebfaiepaaGreatDoor.Ax

namespace Go.Proofs.YtgfkepebfaiepaaGreatDoor.Ax
open Go.RowKit
set_option maxRecDepth 100000
theorem sum_ok (l : List UInt8) (hl : l.length ≤ 9223372036854775807) : AFn Go.Proofs.Tryz.prog 241 [.iv (.bs l)] ⟨0, []⟩ (fun _ : Unit => u32 (Cm.sum l)) (fun _ => ⟨0, []⟩) := by
 refine ACall.fin ?_
 refine ACall.walkF (C := cfg 5 0) (cfgOk _ _) [] (fn := Go.Proofs.Tryz.f241) (by kernel_rfl) (by kernel_rfl) rfl (by kernel_rfl) (by kernel_rfl) rfl rfl fun hlen hheap => ?_
 refine goA ?_
 refine AFn.useA [] (more_ok 0#32 l hl) fun _ => ?_
 refine goA ?_
 refine ⟨_, _, Ent.mk' (e' := [(0, u32 (Cm.sum l))]) (H' := ⟨0, []⟩) [] (by kernel_rfl) ?_ ?_, (), rfl, rfl⟩
 ·exact ⟨AVE.refl _, trivial⟩
 ·trivial
theorem by4_of (s : BitVec 32) (k : Nat) (hk : 8 * k ≤ 32) : wrK .u8 (((s.toNat : Nat) : Int) / (2 : Int) ^ (min ((8 * k : Nat) : Int).toNat IntKind.u32.bits)) = (((by4 s k).toNat : Nat) : Int) := by
 have e : min ((8 * k : Nat) : Int).toNat IntKind.u32.bits = 8 * k := by
  show min ((8 * k : Nat) : Int).toNat 32 = 8 * k
  omega
 rw [e]
 show (((s.toNat : Nat) : Int) / (2 : Int) ^ (8 * k)) % 256 = ((((s >>> (8 * k)).setWidth 8).toNat : Nat) : Int)
 rw [BitVec.toNat_setWidth, BitVec.toNat_ushiftRight, Nat.shiftRight_eq_div_pow]
 simp
theorem by4_0 (s : BitVec 32) : wrK .u8 ((s.toNat : Nat) : Int) = (((by4 s 0).toNat : Nat) : Int) := by
 have h := by4_of s 0 (by decide)
 rw [← h]
 simp
def arr4 (s : BitVec 32) : AV := .agg [.iv (byteI (by4 s 0)), .iv (byteI (by4 s 1)), .iv (byteI (by4 s 2)), .iv (byteI (by4 s 3))]
theorem laid_ok (s : BitVec 32) : AFn Go.Proofs.Tryz.prog 240 [u32 s] ⟨0, []⟩ (fun _ : Unit => arr4 s) (fun _ => ⟨0, []⟩) := by
 unfold u32
 refine ACall.fin ?_
 refine ACall.walkF (C := cfg 15 0) (cfgOk _ _) [] (fn := Go.Proofs.Tryz.f240) (by kernel_rfl) (by kernel_rfl) rfl (by kernel_rfl) (by kernel_rfl) rfl rfl fun hlen hheap => ?_
 refine goA ?_
 have h1 : wrK IntKind.u8 (((s.toNat : Nat) : Int) / (2 : Int) ^ min (Int.toNat 8) IntKind.u32.bits) = (((by4 s 1).toNat : Nat) : Int) := by4_of s 1 (by decide)
 have h2 : wrK IntKind.u8 (((s.toNat : Nat) : Int) / (2 : Int) ^ min (Int.toNat 16) IntKind.u32.bits) = (((by4 s 2).toNat : Nat) : Int) := by4_of s 2 (by decide)
 have h3 : wrK IntKind.u8 (((s.toNat : Nat) : Int) / (2 : Int) ^ min (Int.toNat 24) IntKind.u32.bits) = (((by4 s 3).toNat : Nat) : Int) := by4_of s 3 (by decide)
 rw [by4_0, h1, h2, h3]
 refine ⟨_, _, Ent.mk' (e' := [(0, arr4 s)]) (H' := ⟨0, []⟩) [] (by kernel_rfl) ?_ ?_, (), rfl, rfl⟩
 ·exact ⟨AVE.refl _, trivial⟩
 ·trivial
end Go.Proofs.YtgfkepebfaiepaaGreatDoor.Ax

namespace Go.Proofs.YtgfkepebfaiepaaGreatDoor.Ax
open Go.RowKit
set_option maxRecDepth 100000
theorem keyMay_ok (k : List UInt8) (hk : k.length ≤ 9223372036854775807) : AFn Go.Proofs.Tryz.prog 145 [.iv (.bs k)] ⟨0, []⟩ (fun _ : Unit => AV.bool (decide (1 ≤ k.length ∧ k.length ≤ 64))) (fun _ => ⟨0, []⟩) := by
 refine ACall.walk (C := cfg 11 0) (cfgOk _ _) [] (fn := Go.Proofs.Tryz.f145) (by kernel_rfl) (by kernel_rfl) rfl (by kernel_rfl) (by kernel_rfl) rfl rfl ?_
 refine goA ?_
 refine ifdA (fun h => ?_) (fun h => ?_) <;> (try dsimp only at h)
 ·refine goA ?_
  exact ⟨(), by congr 3; rw [decide_eq_decide]; omega, rfl⟩
 ·refine goA ?_
  exact ⟨(), by congr 3; rw [eq_comm, decide_eq_false_iff_not]; omega, rfl⟩
theorem valMay_ok (v : List UInt8) (hv : v.length ≤ 9223372036854775807) : AFn Go.Proofs.Tryz.prog 146 [.iv (.bs v)] ⟨0, []⟩ (fun _ : Unit => AV.bool (decide (v.length ≤ 1024))) (fun _ => ⟨0, []⟩) := by
 refine ACall.walk (C := cfg 6 0) (cfgOk _ _) [] (fn := Go.Proofs.Tryz.f146) (by kernel_rfl) (by kernel_rfl) rfl (by kernel_rfl) (by kernel_rfl) rfl rfl ?_
 refine goA ?_
 exact ⟨(), by congr 3; rw [decide_eq_decide]; omega, rfl⟩
def locA (s o : Nat) : AV := .agg [AV.int .u32 s, AV.int .u32 o]
theorem locNone_ok (s o : Nat) : AFn Go.Proofs.Tryz.prog 211 [locA s o] ⟨0, []⟩ (fun _ : Unit => AV.bool (decide (s = 0 ∧ o = 0))) (fun _ => ⟨0, []⟩) := by
 refine ACall.fin ?_
 refine ACall.walk (C := cfg 6 0) (cfgOk _ _) [] (fn := Go.Proofs.Tryz.f211) (by kernel_rfl) (by kernel_rfl) rfl (by kernel_rfl) (by kernel_rfl) rfl rfl ?_
 refine goA ?_
 refine ⟨_, _, Ent.mk' (e' := [(0, AV.bool (decide (s = 0 ∧ o = 0)))]) (H' := ⟨0, []⟩) [] (by kernel_rfl) ⟨AVE.bool ?_, trivial⟩ trivial, (), rfl, rfl⟩
 rw [Bool.and_true, Bool.eq_iff_iff]
 simp
theorem locStands_ok (s o : Nat) : AFn Go.Proofs.Tryz.prog 212 [locA s o] ⟨0, []⟩ (fun _ : Unit => AV.bool (decide ((1 ≤ s ∧ s ≤ 16777215) ∧ (16 ≤ o ∧ o ≤ 16777216)))) (fun _ => ⟨0, []⟩) := by
 refine ACall.fin ?_
 refine ACall.walk (C := cfg 21 0) (cfgOk _ _) [] (fn := Go.Proofs.Tryz.f212) (by kernel_rfl) (by kernel_rfl) rfl (by kernel_rfl) (by kernel_rfl) rfl rfl ?_
 refine goA ?_
 repeat' (refine ifdA (fun h => ?_) (fun h => ?_) <;> (try dsimp only at h) <;> (refine goA ?_))
 all_goals
  refine ⟨_, _, Ent.mk' (e' := [(0, AV.bool (decide ((1 ≤ s ∧ s ≤ 16777215) ∧ (16 ≤ o ∧ o ≤ 16777216))))]) (H' := ⟨0, []⟩) [] (by kernel_rfl) ⟨AVE.bool ?_, trivial⟩ trivial, (), rfl, rfl⟩
  first | (rw [decide_eq_decide]; omega) | (rw [eq_comm, decide_eq_false_iff_not]; omega)
theorem locMay_ok (s o : Nat) : AFn Go.Proofs.Tryz.prog 147 [locA s o] ⟨0, []⟩ (fun _ : Unit => AV.bool (decide (LMay s o))) (fun _ => ⟨0, []⟩) := by
 refine ACall.fin ?_
 refine ACall.walk (C := cfg 9 0) (cfgOk _ _) [] (fn := Go.Proofs.Tryz.f147) (by kernel_rfl) (by kernel_rfl) rfl (by kernel_rfl) (by kernel_rfl) rfl rfl ?_
 refine goA ?_
 refine AFn.useA [] (locNone_ok s o) fun _ => ?_
 by_cases h : s = 0 ∧ o = 0
 ·rw [decide_eq_true h]
  refine goA ?_
  refine ⟨_, _, Ent.mk' (e' := [(0, AV.bool (decide (LMay s o)))]) (H' := ⟨0, []⟩) [] (by kernel_rfl) ⟨AVE.bool ?_, trivial⟩ trivial, (), rfl, rfl⟩
  rw [eq_comm, decide_eq_true_eq]
  exact .inl h
 ·rw [decide_eq_false h]
  refine goA ?_
  refine AFn.useA [] (locStands_ok s o) fun _ => ?_
  refine goA ?_
  refine ⟨_, _, Ent.mk' (e' := [(0, AV.bool (decide (LMay s o)))]) (H' := ⟨0, []⟩) [] (by kernel_rfl) ⟨AVE.bool ?_, trivial⟩ trivial, (), rfl, rfl⟩
  rw [decide_eq_decide]
  unfold LMay
  exact ⟨fun h2 => .inr h2, fun h2 => h2.resolve_left h⟩
end Go.Proofs.YtgfkepebfaiepaaGreatDoor.Ax
