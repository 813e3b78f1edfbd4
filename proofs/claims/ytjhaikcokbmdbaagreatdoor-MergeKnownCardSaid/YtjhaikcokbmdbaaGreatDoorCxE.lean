/-
  Closed runs: operations on integers, strings, structs.
-/
import Derived.Test.YtjhaikcokbmdbaaGreatDoorCxD
namespace Go.Proofs.YtjhaikcokbmdbaaGreatDoor.Cx
open Go.RowKit Go.Proofs.YtjhaikcokbmdbaaGreatDoor.Ax

/-- A reading operation comes to a value. -/
def Out.rd (P : Program) (ρ : Rho) (w : World) (s : Sem Value) : Out → Prop
  | .no _ => True
  | .old v .nop => ∃ u, s.run P w = .ok u w ∧ v.R ρ u
  | .new v .nop => ∃ u, s.run P w = .ok u w ∧ v.R ρ u
  | _ => False

/-! Integers. -/
theorem wrapN_u (k : IntKind) (n : Int) (hs : k.signed = false) : wrapN k n = k.wrap n := by
  rw [← wrK_eq]
  unfold wrapN
  rw [hs]
  cases k <;> first | (cases hs; done) | skip
  all_goals
    cases n <;> simp only [cond_false, wrK, pw, Int.ofNat_eq_natCast, Int.negSucc_eq] <;> omega
theorem wrapN_s (k : IntKind) (n : Int) (hs : k.signed = true) : wrapN k n = k.wrap n := by
  unfold wrapN
  rw [hs]
  simp only [cond_true]
  have key : ∀ m : Int, -(hf k : Int) ≤ m → m < (hf k : Int) → k.wrap m = m := fun m h1 h2 => by
    refine inK_wrap ?_
    cases k <;> first | (cases hs; done) | skip
    all_goals
      simp only [hf] at h1 h2
      exact ⟨by omega, by omega, trivial⟩
  cases n with
  | ofNat m =>
    cases hb : Nat.blt m (hf k) with
    | false => simp only [hb, cond_false]
    | true =>
      have hb' : m < hf k := by rw [← Nat.blt_eq]; exact hb
      simp only [hb, cond_true, Int.ofNat_eq_natCast]
      exact (key _ (by omega) (by omega)).symm
  | negSucc m =>
    cases hb : Nat.blt m (hf k) with
    | false => simp only [hb, cond_false]
    | true =>
      have hb' : m < hf k := by rw [← Nat.blt_eq]; exact hb
      simp only [hb, cond_true]
      exact (key _ (by rw [Int.negSucc_eq]; omega) (by rw [Int.negSucc_eq]; omega)).symm
theorem wrapN_eq (k : IntKind) (n : Int) : wrapN k n = k.wrap n := by
  cases hs : k.signed with
  | true => exact wrapN_s k n hs
  | false => exact wrapN_u k n hs
theorem lim_le (k : IntKind) {x : Nat} (h : x < lim k) : x < 2 ^ k.bits := by
  cases k <;> simp only [lim, IntKind.signed, cond_true, cond_false, hf, pw, IntKind.bits, Nat.reducePow] at h ⊢ <;> omega
theorem wrap_lim (k : IntKind) {x : Nat} (h : x < lim k) : k.wrap (x : Int) = x := by
  rw [← wrapN_eq]
  show wrapN k (Int.ofNat x) = Int.ofNat x
  unfold wrapN
  unfold lim at h
  cases hs : k.signed with
  | true =>
    rw [hs] at h
    simp only [cond_true] at h ⊢
    rw [show Nat.blt x (hf k) = true by rw [Nat.blt_eq]; exact h]
    rfl
  | false =>
    rw [hs] at h
    simp only [cond_false] at h ⊢
    rw [Nat.mod_eq_of_lt h]
theorem lim_pow (k : IntKind) : ∃ n, lim k = 2 ^ n := by
  cases k <;> first | exact ⟨7, rfl⟩ | exact ⟨8, rfl⟩ | exact ⟨15, rfl⟩ | exact ⟨16, rfl⟩ | exact ⟨31, rfl⟩ | exact ⟨32, rfl⟩ | exact ⟨63, rfl⟩ | exact ⟨64, rfl⟩
theorem ofInt_nat {n x : Nat} (h : x < 2 ^ n) : (BitVec.ofInt n (x : Int)).toNat = x := by
  rw [BitVec.toNat_ofInt]
  have : ((x : Int) % ((2 ^ n : Nat) : Int)).toNat = x % 2 ^ n := by
    rw [← Int.natCast_emod]; rfl
  rw [this, Nat.mod_eq_of_lt h]
theorem bitN_and (k : IntKind) (a b : Int) : bitN .and k a b = bitK .and k a b := by
  unfold bitN
  split
  · rename_i x y
    cases hb : Nat.blt x (lim k) && Nat.blt y (lim k) with
    | false => rfl
    | true =>
      simp only [Bool.and_eq_true, Nat.blt_eq] at hb
      obtain ⟨n, hn⟩ := lim_pow k
      have e : (BitVec.ofInt k.bits (x : Int) &&& BitVec.ofInt k.bits (y : Int)).toNat = Nat.land x y := by
        rw [BitVec.toNat_and, ofInt_nat (lim_le k hb.1), ofInt_nat (lim_le k hb.2)]; rfl
      have hl : Nat.land x y < lim k := Nat.lt_of_le_of_lt Nat.and_le_left hb.1
      simp only [cond_true, bitK, Int.ofNat_eq_natCast, e]
      exact (wrap_lim k hl).symm
  · rfl
theorem bitN_or (k : IntKind) (a b : Int) : bitN .or k a b = bitK .or k a b := by
  unfold bitN
  split
  · rename_i x y
    cases hb : Nat.blt x (lim k) && Nat.blt y (lim k) with
    | false => rfl
    | true =>
      simp only [Bool.and_eq_true, Nat.blt_eq] at hb
      obtain ⟨n, hn⟩ := lim_pow k
      have e : (BitVec.ofInt k.bits (x : Int) ||| BitVec.ofInt k.bits (y : Int)).toNat = Nat.lor x y := by
        rw [BitVec.toNat_or, ofInt_nat (lim_le k hb.1), ofInt_nat (lim_le k hb.2)]; rfl
      have hl : Nat.lor x y < lim k := by rw [hn] at hb ⊢; exact Nat.or_lt_two_pow hb.1 hb.2
      simp only [cond_true, bitK, Int.ofNat_eq_natCast, e]
      exact (wrap_lim k hl).symm
  · rfl
theorem bitN_xor (k : IntKind) (a b : Int) : bitN .xor k a b = bitK .xor k a b := by
  unfold bitN
  split
  · rename_i x y
    cases hb : Nat.blt x (lim k) && Nat.blt y (lim k) with
    | false => rfl
    | true =>
      simp only [Bool.and_eq_true, Nat.blt_eq] at hb
      obtain ⟨n, hn⟩ := lim_pow k
      have e : (BitVec.ofInt k.bits (x : Int) ^^^ BitVec.ofInt k.bits (y : Int)).toNat = Nat.xor x y := by
        rw [BitVec.toNat_xor, ofInt_nat (lim_le k hb.1), ofInt_nat (lim_le k hb.2)]; rfl
      have hl : Nat.xor x y < lim k := by rw [hn] at hb ⊢; exact Nat.xor_lt_two_pow hb.1 hb.2
      simp only [cond_true, bitK, Int.ofNat_eq_natCast, e]
      exact (wrap_lim k hl).symm
  · rfl
theorem bitN_andNot (k : IntKind) (a b : Int) : bitN .andNot k a b = bitK .andNot k a b := by
  unfold bitN
  split
  · rename_i x y
    cases hb : Nat.blt x (lim k) && Nat.blt y (lim k) with
    | false => rfl
    | true =>
      simp only [Bool.and_eq_true, Nat.blt_eq] at hb
      obtain ⟨n, hn⟩ := lim_pow k
      have hx := lim_le k hb.1
      have hy := lim_le k hb.2
      have e : (BitVec.ofInt k.bits (x : Int) &&& ~~~ BitVec.ofInt k.bits (y : Int)).toNat = Nat.xor x (Nat.land x y) := by
        rw [BitVec.toNat_and, BitVec.toNat_not, ofInt_nat hx, ofInt_nat hy]
        apply Nat.eq_of_testBit_eq
        intro i
        have e1 : (Nat.xor x (Nat.land x y)).testBit i = (x.testBit i ^^ (x.testBit i && y.testBit i)) := by
          show (x ^^^ (x &&& y)).testBit i = _
          rw [Nat.testBit_xor, Nat.testBit_and]
        rw [e1, Nat.testBit_and]
        have e2 : 2 ^ k.bits - 1 - y = 2 ^ k.bits - (y + 1) := by omega
        rw [e2, Nat.testBit_two_pow_sub_succ hy]
        by_cases hi : i < k.bits
        · cases x.testBit i <;> cases y.testBit i <;> simp [hi]
        · have : x.testBit i = false := Nat.testBit_lt_two_pow (Nat.lt_of_lt_of_le hx (Nat.pow_le_pow_right (by decide) (by omega)))
          simp [this]
      have hl : Nat.xor x (Nat.land x y) < lim k := by
        rw [hn] at hb ⊢
        exact Nat.xor_lt_two_pow hb.1 (Nat.lt_of_le_of_lt Nat.and_le_left hb.1)
      simp only [cond_true, bitK, Int.ofNat_eq_natCast, e]
      exact (wrap_lim k hl).symm
  · rfl
theorem quoN_eq (k : IntKind) (a b : Int) : quoN k a b = k.wrap (a.tdiv b) := by
  unfold quoN
  split
  · rw [wrapN_eq]; rfl
  · rfl
theorem remN_eq (a b : Int) : remN a b = a.tmod b := by
  unfold remN
  split <;> rfl
theorem shlN_eq (k : IntKind) (a : Int) (n : Nat) : shlN k a n = k.wrap (a * 2 ^ n) := by
  unfold shlN
  split
  · rename_i x
    rw [wrapN_eq]
    congr 1
    show Int.ofNat (x <<< n) = _
    rw [Nat.shiftLeft_eq]
    simp
  · rfl
theorem shrN_eq (a : Int) (n : Nat) : shrN a n = a.fdiv (2 ^ n) := by
  unfold shrN
  split
  · rename_i x
    rw [Int.fdiv_eq_ediv_of_nonneg _ (Int.pow_nonneg (by decide))]
    show Int.ofNat (x >>> n) = _
    rw [Nat.shiftRight_eq_div_pow]
    simp
  · rfl

section
variable {P : Program} {ρ : Rho} {w : World}
theorem R_int (k : IntKind) (n : Int) : (CV.int k n).R ρ (.int k n) := by simp only [CV.R]
theorem R_bool (b : Bool) : (CV.bool b).R ρ (.bool b) := by simp only [CV.R]
theorem rd_int {s : Sem Value} {k : IntKind} {n m : Int} (h : s.run P w = .ok (.int k n) w) (e : m = n) : (Out.new (.int k m) .nop).rd P ρ w s := ⟨_, h, by rw [e]; exact R_int ..⟩
theorem rd_bool {s : Sem Value} {b c : Bool} (h : s.run P w = .ok (.bool b) w) (e : c = b) : (Out.new (.bool c) .nop).rd P ρ w s := ⟨_, h, by rw [e]; exact R_bool ..⟩
theorem intC_ok (op : BinOp) (k : IntKind) (a b : Int) (t : TypeId) : (intC op k a b).rd P ρ w (binOp op t (.int k a) (.int k b)) := by
  cases op <;> simp only [intC]
  case add => exact rd_int (n := k.wrap (a + b)) (by simp [binOp, Op.intArith]) (wrapN_eq ..)
  case sub => exact rd_int (n := k.wrap (a - b)) (by simp [binOp, Op.intArith]) (wrapN_eq ..)
  case mul => exact rd_int (n := k.wrap (a * b)) (by simp [binOp, Op.intArith]) (wrapN_eq ..)
  case quo =>
    unfold iQuo
    cases hz : zI b with
    | true => exact trivial
    | false =>
      have hb : b ≠ 0 := by rintro rfl; cases hz
      exact rd_int (n := k.wrap (a.tdiv b)) (by simp [binOp, Op.intDiv, hb]) (quoN_eq ..)
  case rem =>
    unfold iRem
    cases hz : zI b with
    | true => exact trivial
    | false =>
      have hb : b ≠ 0 := by rintro rfl; cases hz
      exact rd_int (n := a.tmod b) (by simp [binOp, Op.intDiv, hb]) (remN_eq ..)
  case and => exact rd_int (n := bitK .and k a b) (by simp [binOp, Op.intBits, bitK]) (bitN_and ..)
  case or => exact rd_int (n := bitK .or k a b) (by simp [binOp, Op.intBits, bitK]) (bitN_or ..)
  case xor => exact rd_int (n := bitK .xor k a b) (by simp [binOp, Op.intBits, bitK]) (bitN_xor ..)
  case andNot => exact rd_int (n := bitK .andNot k a b) (by simp [binOp, Op.intBits, bitK]) (bitN_andNot ..)
  case eql => exact rd_bool (b := decide (a = b)) (by simp [binOp, Op.intCmp, beq_dec]) (eqI_eq ..)
  case neq => exact rd_bool (b := !decide (a = b)) (by simp [binOp, Op.intCmp, bne, beq_dec]) (by rw [eqI_eq])
  case lss => exact rd_bool (b := decide (a < b)) (by simp [binOp, Op.intCmp]) (ltI_eq ..)
  case leq => exact rd_bool (b := decide (a ≤ b)) (by simp [binOp, Op.intCmp]) (by rw [ltI_eq, ← decide_not]; congr 1; simp)
  case gtr => exact rd_bool (b := decide (b < a)) (by simp [binOp, Op.intCmp]) (ltI_eq ..)
  case geq => exact rd_bool (b := decide (b ≤ a)) (by simp [binOp, Op.intCmp]) (by rw [ltI_eq, ← decide_not]; congr 1; simp)
  all_goals exact trivial

/-! Strings. -/
def u8s (l : List Nat) : List UInt8 := l.map UInt8.ofNat
theorem u8_inj {a b : Nat} (ha : a < 256) (hb : b < 256) (h : UInt8.ofNat a = UInt8.ofNat b) : a = b := by
  have := congrArg UInt8.toNat h
  simp only [UInt8.toNat_ofNat'] at this
  omega
theorem u8s_inj : ∀ {a b : List Nat}, (∀ c ∈ a, c < 256) → (∀ c ∈ b, c < 256) → u8s a = u8s b → a = b
  | [], [], _, _, _ => rfl
  | [], _ :: _, _, _, h => by simp [u8s] at h
  | _ :: _, [], _, _, h => by simp [u8s] at h
  | x :: xs, y :: ys, ha, hb, h => by
    simp only [u8s, List.map_cons, List.cons.injEq] at h
    rw [u8_inj (ha x (by simp)) (hb y (by simp)) h.1, u8s_inj (fun c hc => ha c (by simp [hc])) (fun c hc => hb c (by simp [hc])) h.2]
theorem lless_eq : ∀ {a b : List Nat}, (∀ c ∈ a, c < 256) → (∀ c ∈ b, c < 256) → lless a b = Op.bytesLess (u8s a) (u8s b)
  | [], [], _, _ => rfl
  | [], _ :: _, _, _ => rfl
  | _ :: _, [], _, _ => rfl
  | x :: xs, y :: ys, ha, hb => by
    have hx := ha x (by simp)
    have hy := hb y (by simp)
    have ih := lless_eq (a := xs) (b := ys) (fun c hc => ha c (by simp [hc])) (fun c hc => hb c (by simp [hc]))
    show (bif Nat.beq x y then lless xs ys else Nat.blt x y) = (decide (UInt8.ofNat x < UInt8.ofNat y) || (UInt8.ofNat x == UInt8.ofNat y && Op.bytesLess (u8s xs) (u8s ys)))
    have e : (UInt8.ofNat x < UInt8.ofNat y) ↔ x < y := by
      rw [UInt8.lt_iff_toNat_lt, UInt8.toNat_ofNat', UInt8.toNat_ofNat', Nat.mod_eq_of_lt hx, Nat.mod_eq_of_lt hy]
    cases h : Nat.beq x y with
    | true =>
      have := Nat.eq_of_beq_eq_true h
      subst this
      simp [e, ih]
    | false =>
      have hne : x ≠ y := fun e => by subst e; simp at h
      have hne' : (UInt8.ofNat x == UInt8.ofNat y) = false := by
        rw [beq_eq_false_iff_ne]; exact fun e => hne (u8_inj hx hy e)
      rw [hne']
      simp only [cond_false, Bool.false_and, Bool.or_false]
      apply Bool.eq_iff_iff.2
      simp [e, Nat.blt_eq]
theorem R_str {l : List Nat} (h : ∀ c ∈ l, c < 256) : (CV.str l).R ρ (.string ⟨(u8s l).toArray⟩) := by simp only [CV.R]; exact ⟨h, rfl⟩
theorem strC_ok (op : BinOp) {a b : List Nat} (ha : ∀ c ∈ a, c < 256) (hb : ∀ c ∈ b, c < 256) (t : TypeId) : (strC op a b).rd P ρ w (binOp op t (.string ⟨(u8s a).toArray⟩) (.string ⟨(u8s b).toArray⟩)) := by
  have ta := data_toList (u8s a)
  have tb := data_toList (u8s b)
  have heq : lbeq a b = decide (u8s a = u8s b) := by
    rw [lbeq_eq]
    congr 1
    exact propext ⟨fun e => by rw [e], u8s_inj ha hb⟩
  cases op <;> simp only [strC] <;> try exact trivial
  case add =>
    cases hl : Nat.ble (len a + len b) 9223372036854775807 with
    | false => exact trivial
    | true =>
      have hl := Nat.le_of_ble_eq_true hl
      rw [len_eq, len_eq] at hl
      have h1 : ¬ ((((⟨(u8s a).toArray⟩ : ByteArray).size + (⟨(u8s b).toArray⟩ : ByteArray).size : Nat) : Int) > IntKind.i64.max) := by
        have e : IntKind.i64.max = 9223372036854775807 := by decide
        have e1 : (⟨(u8s a).toArray⟩ : ByteArray).size = a.length := by simp [ByteArray.size, u8s]
        have e2 : (⟨(u8s b).toArray⟩ : ByteArray).size = b.length := by simp [ByteArray.size, u8s]
        rw [e, e1, e2]; omega
      have h2 : (⟨(u8s a).toArray⟩ ++ ⟨(u8s b).toArray⟩ : ByteArray) = ⟨(u8s (catL a b)).toArray⟩ := by
        apply ByteArray.ext
        simp [u8s, catL_eq]
      refine ⟨.string ⟨(u8s (catL a b)).toArray⟩, ?_, R_str fun c hc => ?_⟩
      · simp only [binOp, Op.stringOp, if_neg h1, Sem.run_pure, h2]
      · rw [catL_eq] at hc
        rcases List.mem_append.1 hc with hc | hc
        · exact ha c hc
        · exact hb c hc
  case eql => exact rd_bool (b := decide (u8s a = u8s b)) (by simp [binOp, Op.stringOp, ta, tb, beq_dec]) heq
  case neq => exact rd_bool (b := !decide (u8s a = u8s b)) (by simp [binOp, Op.stringOp, ta, tb, beq_dec]) (by rw [heq])
  case lss => exact rd_bool (b := Op.bytesLess (u8s a) (u8s b)) (by simp [binOp, Op.stringOp, ta, tb]) (lless_eq ha hb)
  case leq => exact rd_bool (b := (Op.bytesLess (u8s a) (u8s b) || decide (u8s a = u8s b))) (by simp [binOp, Op.stringOp, ta, tb, beq_dec]) (by rw [lless_eq ha hb, heq])
  case gtr => exact rd_bool (b := !(Op.bytesLess (u8s a) (u8s b) || decide (u8s a = u8s b))) (by simp [binOp, Op.stringOp, ta, tb, beq_dec]) (by rw [lless_eq ha hb, heq])
  case geq => exact rd_bool (b := !Op.bytesLess (u8s a) (u8s b)) (by simp [binOp, Op.stringOp, ta, tb]) (by rw [lless_eq ha hb])
end
end Go.Proofs.YtjhaikcokbmdbaaGreatDoor.Cx
