/-
  slices.Sort at numbers (uint64): broken patterns.
-/
import Derived.Test.YtoofmkkcaoojiaaUd
import Derived.Test.YtoofmkkcaoojiaaLays19b
import Derived.Sort.LotD5
import Derived.Sort.WalkA14
namespace Go.Proofs.Ytoofmkkcaoojiaa.Ax
open Go.RowKit Go.Sort
set_option maxRecDepth 100000
/-- A function of one number that leaves all as it was. -/
theorem AFn.scalar {P : Program} {f : FuncId} {x r : Value} (hfn : ∃ fn, P.funcs[f]? = some fn ∧ (fn.name == "runtime.NumGoroutine") = false ∧ fn.body.isNone = false) (h : ∀ W, Calls P f #[x] W fun e W' => e = .returned r ∧ W' = W) :
    AFn P f [.iv (.v x)] ⟨0, []⟩ (fun _ : Unit => .iv (.v r)) (fun _ => ⟨0, []⟩) :=
  ⟨hfn, fun ρ ι w cargs hG hS hr => by
    simp only [AV.Rs, AV.R, IV.R] at hr
    obtain ⟨u, us, rfl, rfl, rfl⟩ := hr
    refine (h w).mono fun e w' ⟨he, hw⟩ => ?_
    subst he hw
    exact ⟨.iv (.v r), _, ρ, ι, ⟨(), rfl, rfl⟩, by simp only [AV.R, IV.R], hS, Went.refl _ _ _ _⟩⟩
theorem len_u (m : Nat) (hm : m < 4611686018427387904) : AFn Go.Proofs.Try.prog 37 [AV.int .u64 m] ⟨0, []⟩ (fun _ : Unit => AV.int .i64 (bitsLen m : Nat)) (fun _ => ⟨0, []⟩) :=
  AFn.scalar ⟨_, Go.Proofs.Try.func37, by kernel_rfl, by kernel_rfl⟩ fun W => by
    have h := Any.bits_Len Try.bitsLen (m : Int) W (by omega) (by omega)
    have h64 : (2 : Nat) ^ 64 = 18446744073709551616 := by decide
    rw [Int.toNat_natCast, bitLen_eq m (by omega)] at h
    exact h
theorem bitsLen_small {m : Nat} (h : m ≤ 1000000) : bitsLen m ≤ 20 := by
  have h20 : (2 : Nat) ^ 20 = 1048576 := by decide
  exact (bitsLen_le_iff m 20).2 (by omega)
theorem u64wr (a k : Nat) (hk : k ≤ 64) : wrK .u64 ((a : Int) * 2 ^ (min ((k : Nat) : Int).toNat IntKind.u64.bits)) = ((a * 2 ^ k % 18446744073709551616 : Nat) : Int) := by
  have e : min ((k : Nat) : Int).toNat IntKind.u64.bits = k := by
    show min ((k : Nat) : Int).toNat 64 = k
    omega
  rw [e]
  show ((a : Int) * 2 ^ k) % 18446744073709551616 = _
  rw [Int.natCast_emod, Int.natCast_mul, Int.natCast_pow]
  rfl
theorem u64xor (a b : Nat) (ha : a < 18446744073709551616) (hb : b < 18446744073709551616) : bitK .xor .u64 (a : Int) (b : Int) = ((a ^^^ b : Nat) : Int) := by
  have h64 : (2 : Nat) ^ 64 = 18446744073709551616 := by decide
  have hx : a ^^^ b < 2 ^ 64 := Nat.xor_lt_two_pow (by omega) (by omega)
  show IntKind.u64.wrap ((BitVec.ofInt 64 (a : Int) ^^^ BitVec.ofInt 64 (b : Int)).toNat : Nat) = _
  rw [BitVec.ofInt_natCast, BitVec.ofInt_natCast, BitVec.toNat_xor, BitVec.toNat_ofNat, BitVec.toNat_ofNat, Nat.mod_eq_of_lt (by omega), Nat.mod_eq_of_lt (by omega)]
  simp [IntKind.wrap, IntKind.bits, IntKind.signed]
  omega
theorem u64and (a b : Nat) (ha : a < 18446744073709551616) (hb : b < 18446744073709551616) : bitK .and .u64 (a : Int) (b : Int) = ((a &&& b : Nat) : Int) := by
  have h64 : (2 : Nat) ^ 64 = 18446744073709551616 := by decide
  have hx : a &&& b ≤ b := Nat.and_le_right
  show IntKind.u64.wrap ((BitVec.ofInt 64 (a : Int) &&& BitVec.ofInt 64 (b : Int)).toNat : Nat) = _
  rw [BitVec.ofInt_natCast, BitVec.ofInt_natCast, BitVec.toNat_and, BitVec.toNat_ofNat, BitVec.toNat_ofNat, Nat.mod_eq_of_lt (by omega), Nat.mod_eq_of_lt (by omega)]
  simp [IntKind.wrap, IntKind.bits, IntKind.signed]
  omega
theorem pow2_ok (m : Nat) (hm : m ≤ 1000000) : AFn Go.Proofs.Try.prog 62 [AV.int .i64 m] ⟨0, []⟩ (fun _ : Unit => AV.int .u64 ((1 <<< bitsLen m : Nat))) (fun _ => ⟨0, []⟩) := by
  have hb := bitsLen_small hm
  have hp : (2 : Nat) ^ bitsLen m ≤ 2 ^ 20 := Nat.pow_le_pow_right (by decide) hb
  have h20 : (2 : Nat) ^ 20 = 1048576 := by decide
  refine ACall.walk (C := cfgU 7 0) (cfgUOk _ _) [] (fn := Go.Proofs.Try.f62) (by kernel_rfl) (by kernel_rfl) rfl (by kernel_rfl) (by kernel_rfl) rfl rfl ?_
  (conv => whnf); repeat ((first | (refine And.intro ?_ ?_; (focus ((repeat' (first | exact trivial | refine And.intro rfl ?_)); done))) | (refine And.intro ?_ ?_; (focus (first | omega | (dsimp -iota only; omega) | (simp -iota; omega) | (simp -iota; done) | decide)))); conv => whnf)
  refine AFn.use [] (len_u m (by omega)) (by kernel_rfl) rfl (by repeat' first | exact trivial | refine ⟨rfl, ?_⟩) fun _ => ?_
  (conv => whnf); repeat ((first | (refine And.intro ?_ ?_; (focus ((repeat' (first | exact trivial | refine And.intro rfl ?_)); done))) | (refine And.intro ?_ ?_; (focus (first | omega | (dsimp -iota only; omega) | (simp -iota; omega) | (simp -iota; done) | decide)))); conv => whnf)
  refine ⟨(), ?_, rfl⟩
  have h1 := u64wr 1 (bitsLen m) (by omega)
  rw [Nat.mod_eq_of_lt (by omega)] at h1
  show AV.int .u64 (wrK .u64 (((1 : Nat) : Int) * 2 ^ (min ((bitsLen m : Nat) : Int).toNat IntKind.u64.bits))) = AV.int .u64 ((1 <<< bitsLen m : Nat))
  rw [h1, Nat.shiftLeft_eq]
@[reducible] def xH (x : Nat) : AH := ⟨1, [(0, .cells 101 [AV.int .u64 x])]⟩
theorem xnext_ok (x : Nat) (hx : x < 18446744073709551616) : AFn Go.Proofs.Try.prog 63 [.ptr 0 0] (xH x) (fun _ : Unit => AV.int .u64 (xorNextN x)) (fun _ => xH (xorNextN x)) := by
  have h64 : (2 : Nat) ^ 64 = 18446744073709551616 := by decide
  have E : bitK .xor .u64 (bitK .xor .u64 (bitK .xor .u64 (x : Int) (wrK .u64 ((x : Int) * 2 ^ min (Int.toNat 13) IntKind.u64.bits))) (bitK .xor .u64 (x : Int) (wrK .u64 ((x : Int) * 2 ^ min (Int.toNat 13) IntKind.u64.bits)) / 2 ^ min (Int.toNat 7) IntKind.u64.bits)) (wrK .u64 (bitK .xor .u64 (bitK .xor .u64 (x : Int) (wrK .u64 ((x : Int) * 2 ^ min (Int.toNat 13) IntKind.u64.bits))) (bitK .xor .u64 (x : Int) (wrK .u64 ((x : Int) * 2 ^ min (Int.toNat 13) IntKind.u64.bits)) / 2 ^ min (Int.toNat 7) IntKind.u64.bits) * 2 ^ min (Int.toNat 17) IntKind.u64.bits)) = ((xorNextN x : Nat) : Int) := by
    have e1 : wrK .u64 ((x : Int) * 2 ^ min (Int.toNat 13) IntKind.u64.bits) = ((x * 8192 % 18446744073709551616 : Nat) : Int) := u64wr x 13 (by omega)
    rw [e1, u64xor x _ hx (by omega)]
    have hA : x ^^^ (x * 8192 % 18446744073709551616) < 2 ^ 64 := Nat.xor_lt_two_pow (by omega) (by omega)
    have hN : xorNextN x = (let a := x ^^^ (x * 8192 % 18446744073709551616)
      let b := a ^^^ (a / 128)
      b ^^^ (b * 131072 % 18446744073709551616)) := rfl
    rw [hN]
    generalize x ^^^ (x * 8192 % 18446744073709551616) = A at hA ⊢
    have e3 : (A : Int) / 2 ^ min (Int.toNat 7) IntKind.u64.bits = ((A / 128 : Nat) : Int) := by
      show (A : Int) / 128 = _
      omega
    rw [e3, u64xor A _ (by omega) (by omega)]
    have hB : A ^^^ (A / 128) < 2 ^ 64 := Nat.xor_lt_two_pow hA (by omega)
    simp only []
    generalize A ^^^ (A / 128) = B at hB ⊢
    have e4 : wrK .u64 ((B : Int) * 2 ^ min (Int.toNat 17) IntKind.u64.bits) = ((B * 131072 % 18446744073709551616 : Nat) : Int) := u64wr B 17 (by omega)
    rw [e4, u64xor B _ (by omega) (by omega)]
  refine ACall.fin ?_
  refine ACall.walk (C := cfgU 33 1) (cfgUOk _ _) sch63 (fn := Go.Proofs.Try.f63) (by kernel_rfl) (by kernel_rfl) rfl (by kernel_rfl) (by kernel_rfl) rfl rfl ?_
  (conv => whnf); repeat ((first | (refine And.intro ?_ ?_; (focus ((repeat' (first | exact trivial | refine And.intro rfl ?_)); done))) | (refine And.intro ?_ ?_; (focus (first | omega | (dsimp -iota only; omega) | (simp -iota; omega) | (simp -iota; done) | decide)))); conv => whnf)
  refine ⟨_, _, Ent.mk' (e' := [(0, AV.int .u64 (xorNextN x))]) (H' := xH (xorNextN x)) [some 0] (by kernel_rfl) ?_ ?_, (), rfl, rfl⟩
  · exact ⟨AVE.int E, trivial⟩
  · exact ⟨⟨_, rfl, ChE.of_eq (congrArg (fun z => Chunk.cells 101 [AV.int .u64 z]) E)⟩, trivial⟩
def brkN (a length modulus : Nat) : Nat → Nat → UInt64 × Array Nat → UInt64 × Array Nat
  | 0, _, st => st
  | m + 1, idx, st => brkN a length modulus m (idx + 1) (breakStep a length modulus st idx)
set_option maxHeartbeats 1000000 in
theorem brk_ok (n : Nat) (d : Array Nat) (a b : Nat) (hn : d.size = n) (hab : a + 12 < b) (hb : b ≤ n) (h1000 : n ≤ 1000000) : AFn Go.Proofs.Try.prog 54 [.row 0 1 0 n, AV.int .i64 a, AV.int .i64 b] (uH n d) (fun _ : Unit => .tup []) (fun _ => uH n (breakPatterns d a b)) := by
  generalize hB : breakPatterns d a b = B
  have hB2 : (brkN a (b - a) (1 <<< bitsLen (b - a)) 3 (a + (b - a) / 4 * 2 - 1) (UInt64.ofNat (b - a), d)).2 = B := by
    rw [← hB]
    unfold breakPatterns
    rw [if_pos (by omega)]
    rfl
  obtain ⟨idx, hidx⟩ : ∃ idx, idx = a + (b - a) / 4 * 2 - 1 := ⟨_, rfl⟩
  rw [← hidx] at hB2
  have hbl := bitsLen_small (show b - a ≤ 1000000 by omega)
  have hp : (2 : Nat) ^ bitsLen (b - a) ≤ 2 ^ 20 := Nat.pow_le_pow_right (by decide) hbl
  have hp2 : 0 < (2 : Nat) ^ bitsLen (b - a) := Nat.pow_pos (by decide)
  have h20 : (2 : Nat) ^ 20 = 1048576 := by decide
  have hml := two_pow_bitsLen_le (n := b - a) (by omega)
  obtain ⟨md, hmd⟩ : ∃ md, md = 1 <<< bitsLen (b - a) := ⟨_, rfl⟩
  have hmd2 : md = 2 ^ bitsLen (b - a) := by rw [hmd, Nat.shiftLeft_eq, Nat.one_mul]
  rw [← hmd] at hB2
  have hpow := pow2_ok (b - a) (by omega)
  rw [← hmd] at hpow
  refine ACall.fin ?_
  refine ACall.walk (C := cfgU 65 1) (cfgUOk _ _) sch54 (fn := Go.Proofs.Try.f54) (by kernel_rfl) (by kernel_rfl) rfl (by kernel_rfl) (by kernel_rfl) rfl rfl ?_
  (conv => whnf); repeat ((first | (refine And.intro ?_ ?_; (focus ((repeat' (first | exact trivial | refine And.intro rfl ?_)); done))) | (refine And.intro ?_ ?_; (focus (first | omega | (dsimp -iota only; omega) | (simp -iota; omega) | (simp -iota; done) | decide)))); conv => whnf)
  refine branchB_of (fun h8 => ?_) (fun h8 => ?_) <;> (first | replace h8 := not_t h8 | replace h8 := not_f h8 | skip) <;> (first | replace h8 := of_decide_eq_true h8 | replace h8 := of_decide_eq_false h8 | skip) <;> (first | replace h8 := Classical.not_not.1 h8 | skip) <;> (try dsimp only at h8)
  rotate_left
  · exact absurd (show (b : Int) - a ≥ 8 by omega) h8
  (conv => whnf); repeat ((first | (refine And.intro ?_ ?_; (focus ((repeat' (first | exact trivial | refine And.intro rfl ?_)); done))) | (refine And.intro ?_ ?_; (focus (first | omega | (dsimp -iota only; omega) | (simp -iota; omega) | (simp -iota; done) | decide)))); conv => whnf)
  refine ACall.eqArgs (args' := [AV.int .i64 ((b - a : Nat) : Int)]) (show [AV.int .i64 ((b : Int) - a)] = [AV.int .i64 ((b - a : Nat) : Int)] by rw [show (b : Int) - a = ((b - a : Nat) : Int) by omega]) ?_
  refine AFn.use [] (hpow) (by kernel_rfl) rfl (by repeat' first | exact trivial | refine ⟨rfl, ?_⟩) fun _ => ?_
  (conv => whnf); repeat ((first | (refine And.intro ?_ ?_; (focus ((repeat' (first | exact trivial | refine And.intro rfl ?_)); done))) | (refine And.intro ?_ ?_; (focus (first | omega | (dsimp -iota only; omega) | (simp -iota; omega) | (simp -iota; done) | decide)))); conv => whnf)
  refine AWP.loop (X := { x : Nat × UInt64 × Array Nat // x.1 ≤ 3 ∧ x.2.2.size = n ∧ (brkN a (b - a) md x.1 (idx + 3 - x.1) x.2).2 = B }) (fun x => [(0, .row 0 1 0 n), (1, AV.int .i64 a), (6, AV.int .i64 ((b - a : Nat) : Int)), (7, .ptr 1 0), (8, AV.int .u64 md), (9, AV.int .i64 ((idx + 3 - x.1.1 : Nat) : Int))]) (fun x => ⟨2, [(0, .rowc 26 1 n (uF x.1.2.2)), (1, .cells 101 [AV.int .u64 x.1.2.1.toNat])]⟩) (fun x => x.1.1) (⟨(3, UInt64.ofNat (b - a), d), by dsimp only; omega, hn, hB2⟩) ?_ fun x => AWP.go (S := sch54) (cfgUOk _ _) (.of_eq (by kernel_rfl)) ?_
  · refine Ent.mk' [some 0, some 1] (by kernel_rfl) ?_ ?_
    · exact ⟨AVE.refl _, AVE.refl _, AVE.int (by omega), AVE.refl _, AVE.refl _, AVE.int (by dsimp only; omega), trivial⟩
    · refine ⟨⟨_, rfl, ChE.refl _⟩, ⟨_, rfl, ChE.of_eq ?_⟩, trivial⟩
      have he : (UInt64.ofNat (b - a)).toNat = b - a := by
        rw [UInt64.toNat_ofNat']
        omega
      show Chunk.cells 101 [AV.int .u64 ((b : Int) - a)] = Chunk.cells 101 [AV.int .u64 ((UInt64.ofNat (b - a)).toNat : Nat)]
      rw [he, show (b : Int) - a = ((b - a : Nat) : Int) by omega]
  · obtain ⟨⟨k, r, dk⟩, hk, hs, ho⟩ := x
    dsimp only at hk hs ho
    (conv => whnf); repeat ((first | (refine And.intro ?_ ?_; (focus ((repeat' (first | exact trivial | refine And.intro rfl ?_)); done))) | (refine And.intro ?_ ?_; (focus (first | omega | (dsimp -iota only; omega) | (simp -iota; omega) | (simp -iota; done) | decide)))); conv => whnf)
    refine branchB_of (fun g => ?_) (fun g => ?_) <;> (first | replace g := not_t g | replace g := not_f g | skip) <;> (first | replace g := of_decide_eq_true g | replace g := of_decide_eq_false g | skip) <;> (first | replace g := Classical.not_not.1 g | skip) <;> (try dsimp only at g)
    · obtain ⟨m, rfl⟩ : ∃ m, k = m + 1 := ⟨k - 1, by omega⟩
      have hr := r.toNat_lt
      have hx := xorNextN_lt r.toNat hr
      have hand : bitK .and .u64 ((xorNextN r.toNat : Nat) : Int) ((md : Int) - 1) = ((xorNextN r.toNat &&& (md - 1) : Nat) : Int) := by
        rw [show (md : Int) - 1 = ((md - 1 : Nat) : Int) by omega]
        exact u64and _ _ hx (by omega)
      have hle : xorNextN r.toNat &&& (md - 1) ≤ md - 1 := Nat.and_le_right
      have hst : brkN a (b - a) md (m + 1) (idx + 3 - (m + 1)) (r, dk) = brkN a (b - a) md m (idx + 3 - m) (breakStep a (b - a) md (r, dk) (idx + 3 - (m + 1))) := by
        show brkN a (b - a) md m (idx + 3 - (m + 1) + 1) _ = _
        rw [show idx + 3 - (m + 1) + 1 = idx + 3 - m by omega]
      rw [hst] at ho
      have hbs : breakStep a (b - a) md (r, dk) (idx + 3 - (m + 1)) = (xorNext r, swp dk (idx + 3 - (m + 1)) (a + (if xorNextN r.toNat &&& (md - 1) ≥ b - a then (xorNextN r.toNat &&& (md - 1)) - (b - a) else xorNextN r.toNat &&& (md - 1)))) := by
        unfold breakStep
        simp only [xorNext_toNat]
      rw [hbs] at ho
      (conv => whnf); repeat ((first | (refine And.intro ?_ ?_; (focus ((repeat' (first | exact trivial | refine And.intro rfl ?_)); done))) | (refine And.intro ?_ ?_; (focus (first | omega | (dsimp -iota only; omega) | (simp -iota; omega) | (simp -iota; done) | decide)))); conv => whnf)
      refine AFn.use [1] (xnext_ok r.toNat hr) (by kernel_rfl) rfl (by repeat' first | exact trivial | refine ⟨rfl, ?_⟩) fun _ => ?_
      (conv => whnf); repeat ((first | (refine And.intro ?_ ?_; (focus ((repeat' (first | exact trivial | refine And.intro rfl ?_)); done))) | (refine And.intro ?_ ?_; (focus (first | omega | (dsimp -iota only; omega) | (simp -iota; omega) | (simp -iota; done) | decide)))); conv => whnf)
      generalize xorNextN r.toNat &&& (md - 1) = o at *
      have i2 : ((idx + 3 - (m + 1) : Nat) : Int).toNat = idx + 3 - (m + 1) := by simp
      refine branchB_of (fun h2 => ?_) (fun h2 => ?_) <;> (first | replace h2 := not_t h2 | replace h2 := not_f h2 | skip) <;> (first | replace h2 := of_decide_eq_true h2 | replace h2 := of_decide_eq_false h2 | skip) <;> (first | replace h2 := Classical.not_not.1 h2 | skip) <;> (try dsimp only at h2)
      · rw [if_pos (by omega)] at ho
        have i1 : ((a : Int) + (bitK .and .u64 ((xorNextN r.toNat : Nat) : Int) ((md : Int) - 1) - ((b - a : Nat) : Int))).toNat = a + (o - (b - a)) := by omega
        (conv => whnf); repeat ((first | (refine And.intro ?_ ?_; (focus ((repeat' (first | exact trivial | refine And.intro rfl ?_)); done))) | (refine And.intro ?_ ?_; (focus (first | omega | (dsimp -iota only; omega) | (simp -iota; omega) | (simp -iota; done) | decide)))); conv => whnf)
        refine ⟨⟨(m, xorNext r, swp dk (idx + 3 - (m + 1)) (a + (o - (b - a)))), by dsimp only; omega, by dsimp only; rw [size_swp]; exact hs, ho⟩, Ent.mk' [some 0, some 1] (by kernel_rfl) (by repeat' first | exact trivial | refine And.intro (AVE.refl _) ?_ | refine And.intro (AVE.int (by first | rfl | omega | (dsimp only; omega) | (simp -iota; omega) | (simp -iota; done))) ?_ | refine And.intro (AVE.bool (by assumption)) ?_ | refine And.intro (AVE.len (by first | rfl | omega | (dsimp only; omega) | (simp -iota; omega) | (simp -iota; done))) ?_) ?_, ?_⟩
        · refine ⟨⟨_, rfl, ?_⟩, ⟨_, rfl, ChE.of_eq ?_⟩, trivial⟩
          · simp only [i1, i2, Nat.zero_add]
            exact uswp (by omega) (by omega)
          · show Chunk.cells 101 [AV.int .u64 (xorNextN r.toNat : Nat)] = Chunk.cells 101 [AV.int .u64 ((xorNext r).toNat : Nat)]
            rw [xorNext_toNat]
        · show m < m + 1
          omega
      · rw [if_neg (by omega)] at ho
        have i1 : ((a : Int) + bitK .and .u64 ((xorNextN r.toNat : Nat) : Int) ((md : Int) - 1)).toNat = a + o := by omega
        (conv => whnf); repeat ((first | (refine And.intro ?_ ?_; (focus ((repeat' (first | exact trivial | refine And.intro rfl ?_)); done))) | (refine And.intro ?_ ?_; (focus (first | omega | (dsimp -iota only; omega) | (simp -iota; omega) | (simp -iota; done) | decide)))); conv => whnf)
        refine ⟨⟨(m, xorNext r, swp dk (idx + 3 - (m + 1)) (a + o)), by dsimp only; omega, by dsimp only; rw [size_swp]; exact hs, ho⟩, Ent.mk' [some 0, some 1] (by kernel_rfl) (by repeat' first | exact trivial | refine And.intro (AVE.refl _) ?_ | refine And.intro (AVE.int (by first | rfl | omega | (dsimp only; omega) | (simp -iota; omega) | (simp -iota; done))) ?_ | refine And.intro (AVE.bool (by assumption)) ?_ | refine And.intro (AVE.len (by first | rfl | omega | (dsimp only; omega) | (simp -iota; omega) | (simp -iota; done))) ?_) ?_, ?_⟩
        · refine ⟨⟨_, rfl, ?_⟩, ⟨_, rfl, ChE.of_eq ?_⟩, trivial⟩
          · simp only [i1, i2, Nat.zero_add]
            exact uswp (by omega) (by omega)
          · show Chunk.cells 101 [AV.int .u64 (xorNextN r.toNat : Nat)] = Chunk.cells 101 [AV.int .u64 ((xorNext r).toNat : Nat)]
            rw [xorNext_toNat]
        · show m < m + 1
          omega
    · have hk0 : k = 0 := by omega
      subst hk0
      have e0 : B = dk := ho.symm
      subst e0
      (conv => whnf); repeat ((first | (refine And.intro ?_ ?_; (focus ((repeat' (first | exact trivial | refine And.intro rfl ?_)); done))) | (refine And.intro ?_ ?_; (focus (first | omega | (dsimp -iota only; omega) | (simp -iota; omega) | (simp -iota; done) | decide)))); conv => whnf)
      refine ⟨_, _, Ent.mk' (e' := [(0, .tup [])]) (H' := uH n B) [some 0] (by kernel_rfl) ?_ ?_, (), rfl, rfl⟩
      · exact ⟨AVE.refl _, trivial⟩
      · (repeat' first | exact trivial | refine ⟨⟨_, rfl, ChE.refl _⟩, ?_⟩)
end Go.Proofs.Ytoofmkkcaoojiaa.Ax
