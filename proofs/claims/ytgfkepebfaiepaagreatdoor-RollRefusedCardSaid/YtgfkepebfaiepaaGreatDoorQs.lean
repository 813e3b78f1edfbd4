/-
  Chapter 11: records, heads, scans.
-/
import Derived.Test.YtgfkepebfaiepaaGreatDoorQr
import Derived.Test.YtgfkepebfaiepaaGreatDoorQz
import Derived.Test.YtgfkepebfaiepaaGreatDoorQh
namespace Go.Proofs.YtgfkepebfaiepaaGreatDoor.Ax
open Go.RowKit
set_option maxRecDepth 100000
def recA (r : Rec) : AV := .agg [AV.int .u64 r.seq, AV.int .i64 r.kind, .iv (.bs r.key), .iv (.bs r.val), AV.int .u32 r.seg, AV.int .u32 r.off]
def Rec.B (r : Rec) : Prop := r.key.length ≤ 140737488355328 ∧ r.val.length ≤ 140737488355328
theorem recSize_ok (r : Rec) (h : r.B) : AFn Go.Proofs.Tryz.prog 81 [recA r] ⟨0, []⟩ (fun _ : Unit => AV.int .i64 r.size) (fun _ => ⟨0, []⟩) := by
 obtain ⟨h1, h2⟩ := h
 refine ACall.fin ?_
 refine ACall.walk (C := cfg 12 0) (cfgOk _ _) [] (fn := Go.Proofs.Tryz.f81) (by kernel_rfl) (by kernel_rfl) rfl (by kernel_rfl) (by kernel_rfl) rfl rfl ?_
 refine goA ?_
 refine ⟨_, _, Ent.mk' (e' := [(0, AV.int .i64 r.size)]) (H' := ⟨0, []⟩) [] (by kernel_rfl) ⟨AVE.int ?_, trivial⟩ trivial, (), rfl, rfl⟩
 unfold Rec.size
 omega
theorem recMay_ok (r : Rec) (h : r.B) : AFn Go.Proofs.Tryz.prog 69 [recA r] ⟨0, []⟩ (fun _ : Unit => AV.bool (decide r.May)) (fun _ => ⟨0, []⟩) := by
 obtain ⟨h1, h2⟩ := h
 refine ACall.fin ?_
 refine ACall.walk (C := cfg 44 0) (cfgOk _ _) [] (fn := Go.Proofs.Tryz.f69) (by kernel_rfl) (by kernel_rfl) rfl (by kernel_rfl) (by kernel_rfl) rfl rfl ?_
 refine goA ?_
 repeat' (first | (refine ifdA (fun q => ?_) (fun q => ?_) <;> (try dsimp only at q) <;> (refine goA ?_)) | (refine AFn.useA [] (keyMay_ok r.key (by omega)) fun _ => ?_; (refine goA ?_)) | (refine AFn.useA [] (valMay_ok r.val (by omega)) fun _ => ?_; (refine goA ?_)) | (refine AFn.useA [] (locMay_ok r.seg r.off) fun _ => ?_; (refine goA ?_)))
 all_goals
  refine ⟨_, _, Ent.mk' (e' := [(0, AV.bool (decide r.May))]) (H' := ⟨0, []⟩) [] (by kernel_rfl) ⟨AVE.bool ?_, trivial⟩ trivial, (), rfl, rfl⟩
  first | (rw [decide_eq_decide]; unfold Rec.May LMay; omega) | (rw [eq_comm, decide_eq_false_iff_not]; unfold Rec.May LMay; omega)
end Go.Proofs.YtgfkepebfaiepaaGreatDoor.Ax

namespace Go.Proofs.YtgfkepebfaiepaaGreatDoor.Ax
open Go.RowKit
set_option maxRecDepth 100000
theorem bytesEq_ok (a b : List UInt8) (_ha : a.length ≤ 140737488355328) (_hb : b.length ≤ 140737488355328) : AFn Go.Proofs.Tryz.prog 89 [.iv (.bs a), .iv (.bs b)] ⟨0, []⟩ (fun _ : Unit => AV.bool (decide (a = b))) (fun _ => ⟨0, []⟩) := by
 refine ACall.fin ?_
 refine ACall.walk (C := cfg 10 0) (cfgOk _ _) [] (fn := Go.Proofs.Tryz.f89) (by kernel_rfl) (by kernel_rfl) rfl (by kernel_rfl) (by kernel_rfl) rfl rfl ?_
 refine goA ?_
 refine ⟨_, _, Ent.mk' (e' := [(0, AV.bool (decide (a = b)))]) (H' := ⟨0, []⟩) [] (by kernel_rfl) ?_ ?_, (), rfl, rfl⟩
 ·exact ⟨AVE.refl _, trivial⟩
 ·trivial
theorem recSame_ok (a b : Rec) (ha : a.B) (hb : b.B) : AFn Go.Proofs.Tryz.prog 25 [recA a, recA b] ⟨0, []⟩ (fun _ : Unit => AV.bool (decide (a = b))) (fun _ => ⟨0, []⟩) := by
 obtain ⟨a1, a2⟩ := ha
 obtain ⟨b1, b2⟩ := hb
 obtain ⟨aq, ak, akey, aval, aseg, aoff⟩ := a
 obtain ⟨bq, bk, bkey, bval, bseg, boff⟩ := b
 refine ACall.fin ?_
 refine ACall.walk (C := cfg 38 0) (cfgOk _ _) [] (fn := Go.Proofs.Tryz.f25) (by kernel_rfl) (by kernel_rfl) rfl (by kernel_rfl) (by kernel_rfl) rfl rfl ?_
 refine goA ?_
 repeat' (first | (refine ifdA (fun q => ?_) (fun q => ?_) <;> (try dsimp only at q) <;> (refine goA ?_)) | (refine AFn.useA [] (bytesEq_ok akey bkey a1 b1) fun _ => ?_; (refine goA ?_)) | (refine AFn.useA [] (bytesEq_ok aval bval a2 b2) fun _ => ?_; (refine goA ?_)))
 all_goals
  refine ⟨_, _, Ent.mk' (e' := [(0, AV.bool (decide ((⟨aq, ak, akey, aval, aseg, aoff⟩ : Rec) = ⟨bq, bk, bkey, bval, bseg, boff⟩)))]) (H' := ⟨0, []⟩) [] (by kernel_rfl) ⟨AVE.bool ?_, trivial⟩ trivial, (), rfl, rfl⟩
  rw [Bool.eq_iff_iff]
  simp_all only [Int.natCast_inj, Bool.and_true, Bool.and_eq_true, decide_eq_true_eq, Rec.mk.injEq, not_and, and_true, true_and, and_self, decide_false, Bool.false_eq_true, Bool.and_eq_false_iff, decide_eq_false_iff_not, false_and, and_false, iff_self, false_iff] <;> (try omega) <;> (try (intro _ _ _ _; simp_all; done)) <;> (try (constructor <;> intro hh <;> simp_all))
end Go.Proofs.YtgfkepebfaiepaaGreatDoor.Ax

namespace Go.Proofs.YtgfkepebfaiepaaGreatDoor.Ax
open Go.RowKit
set_option maxRecDepth 100000
noncomputable def cfgX (l : List Nat) (N b : Nat) : Cfg := { P := Go.Proofs.Tryz.prog, T := tt, wr := false, N := N, pure := [], base := b, cuts := l }
theorem cfgXOk (l : List Nat) (N b : Nat) : (cfgX l N b).Ok := ⟨ttOk, ttBytes, by kernel_rfl⟩
def arr4I (s : BitVec 32) : List IV := [byteI (by4 s 0), byteI (by4 s 1), byteI (by4 s 2), byteI (by4 s 3)]
noncomputable def cfgX2 (N b : Nat) : Cfg := cfgX [1002] N b
theorem cfgX2Ok (N b : Nat) : (cfgX2 N b).Ok := cfgXOk _ _ _
theorem coverR_ok (l : List UInt8) (hl : l.length ≤ 1000000) : AFn Go.Proofs.Tryz.prog 183 [.iv (.bs l)] ⟨0, []⟩ (fun _ : Unit => .row 0 1 0 (l.length + 4)) (fun _ => ⟨1, [(0, .brow 5 (cover l))]⟩) := by
 have hb : ∀ c : UInt8, c.toNat ≤ 255 := fun c => Nat.le_of_lt_succ c.toNat_lt
 have h0 := hb (by4 (Cm.sum l) 0)
 have h1 := hb (by4 (Cm.sum l) 1)
 have h2 := hb (by4 (Cm.sum l) 2)
 have h3 := hb (by4 (Cm.sum l) 3)
 refine ACall.fin ?_
 refine ACall.walk (C := cfgX2 11 0) (cfgX2Ok _ _) sch183 (fn := Go.Proofs.Tryz.f183) (by kernel_rfl) (by kernel_rfl) rfl (by kernel_rfl) (by kernel_rfl) rfl rfl ?_
 refine goA ?_
 refine AFn.useA [] (sum_ok l (by omega)) fun _ => ?_
 refine goA ?_
 refine AFn.useA [] (laid_ok (Cm.sum l)) fun _ => ?_
 refine goA ?_
 refine AWP.of_ent (Ent.freezeC 0 (arr4I (Cm.sum l)) rfl rfl (e' := [(0, .iv (.bs l)), (3, .iv (.pp (arr4I (Cm.sum l))))]) ⟨AVC.same _ _ _, AVC.here _ _, trivial⟩) ?_
 refine AWP.regD (cfgX2Ok _ _) sch183 (by kernel_rfl) ?_
 refine goA ?_
 refine ⟨_, _, Ent.mk' (e' := [(0, .row 0 1 0 (l.length + 4))]) (H' := ⟨1, [(0, .brow 5 (cover l))]⟩) [some 2] (by kernel_rfl) ⟨AVE.len rfl, trivial⟩ ⟨⟨_, rfl, ChE.brow ?_⟩, trivial⟩, (), rfl, rfl⟩
 simp [cover, le4]
def numsK (r : Rec) : Nat → List UInt8
 | 0 => []
 | 1 => le r.kind.toNat 1
 | 2 => le r.kind.toNat 1 ++ le r.key.length 1
 | 3 => le r.kind.toNat 1 ++ le r.key.length 1 ++ le r.val.length 2
 | 4 => le r.kind.toNat 1 ++ le r.key.length 1 ++ le r.val.length 2 ++ le r.seq 6
 | 5 => le r.kind.toNat 1 ++ le r.key.length 1 ++ le r.val.length 2 ++ le r.seq 6 ++ le r.seg 3
 | _ => r.nums
theorem numsK_len (r : Rec) (i : Nat) : (numsK r i).length ≤ 17 := by
 unfold numsK
 split <;> simp [le_len, nums_len]
theorem take3 {a : List UInt8} (h : a.length = 21) (b c : List UInt8) : a ++ (b ++ c) = List.take (21 + b.length + c.length) (List.take (21 + b.length) (List.take 21 a ++ b) ++ c) := by
 rw [List.take_of_length_le (l := a) (by omega), List.take_of_length_le (l := a ++ b) (by simp; omega), List.take_of_length_le (by simp; omega), List.append_assoc]
def recC (r : Rec) : List AV := [AV.int .u64 r.seq, AV.int .i64 r.kind, .iv (.bs r.key), .iv (.bs r.val), AV.int .u32 r.seg, AV.int .u32 r.off]
theorem recPut_ok (r : Rec) (h : r.May) : AFn Go.Proofs.Tryz.prog 123 [recA r] ⟨0, []⟩ (fun _ : Unit => .tup [.iv (.bs r.enc), AV.int .i64 0]) (fun _ => ⟨0, []⟩) := by
 have hB : r.B := by unfold Rec.May at h; unfold Rec.B; omega
 have hM := h
 obtain ⟨h1, ⟨_, h2⟩, ⟨_, h3⟩, h4, h5⟩ := h
 have hs : r.seg < 256 ^ 3 := by unfold LMay at h5; omega
 have ho : r.off < 256 ^ 4 := by unfold LMay at h5; omega
 have hsq : r.seq < 256 ^ 6 := by omega
 have hl := numsK_len r
 obtain ⟨kd, hkd⟩ : ∃ kd : Nat, r.kind = kd := ⟨r.kind.toNat, by omega⟩
 have hk2 : kd < 256 ^ 1 := by omega
 obtain ⟨seq, kind, key, val, seg, off⟩ := r
 simp only at hkd
 subst hkd
 simp only at *
 refine ACall.fin ?_
 refine ACall.walk (C := cfg 57 0) (cfgOk _ _) sch123 (fn := Go.Proofs.Tryz.f123) (by kernel_rfl) (by kernel_rfl) rfl (by kernel_rfl) (by kernel_rfl) rfl rfl ?_
 refine goA ?_
 refine AFn.useA [] (recMay_ok _ hB) fun _ => ?_
 rw [decide_eq_true hM]
 refine goA ?_
 refine AWP.loop (X := { i : Nat // i ≤ 6 }) (fun x => [(1, .ptr 0 0), (4, .iv (.bs (numsK ⟨seq, kd, key, val, seg, off⟩ x.1))), (32, .agg [AV.int .u64 kd, AV.int .u64 key.length, AV.int .u64 val.length, AV.int .u64 seq, AV.int .u64 seg, AV.int .u64 off]), (33, AV.int .i64 x.1)]) (fun x => ⟨1, [(0, .cells 50 (recC ⟨seq, kd, key, val, seg, off⟩))]⟩) (fun x => 6 - x.1) (⟨0, Nat.zero_le _⟩) ?_ fun x => AWP.go (S := sch123) (cfgOk _ _) (.of_eq (by kernel_rfl)) ?_
 ·refine Ent.mk' [some 0] (by kernel_rfl) ⟨AVE.refl _, AVE.nilBs, AVE.refl _, AVE.refl _, trivial⟩ subC
 ·obtain ⟨i, hi⟩ := x
  have : i = 0 ∨ i = 1 ∨ i = 2 ∨ i = 3 ∨ i = 4 ∨ i = 5 ∨ i = 6 := by omega
  rcases this with rfl | rfl | rfl | rfl | rfl | rfl | rfl
  ·refine goA ?_
   refine AFn.useA [] (fixed_ok (numsK ⟨seq, kd, key, val, seg, off⟩ 0) kd 1 (by have := hl 0; omega) (by decide) hk2) fun _ => ?_
   refine goA ?_
   refine ⟨⟨1, by decide⟩, Ent.mkA [some 0], ?_⟩
   exact (by decide : 6 - 1 < 6 - 0)
  ·refine goA ?_
   refine AFn.useA [] (fixed_ok (numsK ⟨seq, kd, key, val, seg, off⟩ 1) key.length 1 (by have := hl 1; omega) (by decide) (by omega)) fun _ => ?_
   refine goA ?_
   refine ⟨⟨2, by decide⟩, Ent.mkA [some 0], ?_⟩
   exact (by decide : 6 - 2 < 6 - 1)
  ·refine goA ?_
   refine AFn.useA [] (fixed_ok (numsK ⟨seq, kd, key, val, seg, off⟩ 2) val.length 2 (by have := hl 2; omega) (by decide) (by omega)) fun _ => ?_
   refine goA ?_
   refine ⟨⟨3, by decide⟩, Ent.mkA [some 0], ?_⟩
   exact (by decide : 6 - 3 < 6 - 2)
  ·refine goA ?_
   refine AFn.useA [] (fixed_ok (numsK ⟨seq, kd, key, val, seg, off⟩ 3) seq 6 (by have := hl 3; omega) (by decide) hsq) fun _ => ?_
   refine goA ?_
   refine ⟨⟨4, by decide⟩, Ent.mkA [some 0], ?_⟩
   exact (by decide : 6 - 4 < 6 - 3)
  ·refine goA ?_
   refine AFn.useA [] (fixed_ok (numsK ⟨seq, kd, key, val, seg, off⟩ 4) seg 3 (by have := hl 4; omega) (by decide) hs) fun _ => ?_
   refine goA ?_
   refine ⟨⟨5, by decide⟩, Ent.mkA [some 0], ?_⟩
   exact (by decide : 6 - 5 < 6 - 4)
  ·refine goA ?_
   refine AFn.useA [] (fixed_ok (numsK ⟨seq, kd, key, val, seg, off⟩ 5) off 4 (by have := hl 5; omega) (by decide) ho) fun _ => ?_
   refine goA ?_
   refine ⟨⟨6, by decide⟩, Ent.mkA [some 0], ?_⟩
   exact (by decide : 6 - 6 < 6 - 5)
  ·have h17 : (numsK ⟨seq, kd, key, val, seg, off⟩ 6).length = 17 := nums_len _
   refine goA ?_
   refine AFn.useA [] (coverR_ok (numsK ⟨seq, kd, key, val, seg, off⟩ 6) (by omega)) fun _ => ?_
   have hcl : (cover (numsK ⟨seq, kd, key, val, seg, off⟩ 6)).length = 21 := by rw [cover_len, h17]
   refine goA ?_
   repeat' (refine And.intro ?_ ?_ <;> (refine goA ?_))
   all_goals
    refine ACall.freezeB 3 rfl [.iv (.bs (cover (numsK ⟨seq, kd, key, val, seg, off⟩ 6) ++ key ++ val))] ⟨AVF.bs (by simp [h17, hcl]) (by simp [h17]; exact take3 hcl _ _), rfl⟩ ?_
    refine AFn.useA [] (coverR_ok (cover (numsK ⟨seq, kd, key, val, seg, off⟩ 6) ++ key ++ val) (by simp [hcl]; omega)) fun _ => ?_
    refine goA ?_
    refine ⟨_, _, (Ent.freeze 4 _ rfl rfl (e' := [(0, .tup [.iv (.bs (Rec.enc ⟨seq, kd, key, val, seg, off⟩)), AV.int .i64 0])]) ⟨AVF.tup (AVF.bs (Nat.le_of_eq (cover_len _).symm) (by rw [List.take_of_length_le (Nat.le_of_eq (cover_len _))]; rfl)) (AVF.same ..), trivial⟩).trans (Ent.mk' (e' := [(0, .tup [.iv (.bs (Rec.enc ⟨seq, kd, key, val, seg, off⟩)), AV.int .i64 0])]) (H' := ⟨0, []⟩) [] (by kernel_rfl) ⟨AVE.refl _, trivial⟩ trivial), (), rfl, rfl⟩
end Go.Proofs.YtgfkepebfaiepaaGreatDoor.Ax

namespace Go.Proofs.YtgfkepebfaiepaaGreatDoor.Ax
open Go.RowKit
set_option maxRecDepth 100000
def toldO (i : Nat) : Nat := [0, 1, 2, 4, 10, 13, 17].getD i 0
def toldN (b : List UInt8) : List Nat := [unle (b.take 1), unle ((b.drop 1).take 1), unle ((b.drop 2).take 2), unle ((b.drop 4).take 6), unle ((b.drop 10).take 3), unle ((b.drop 13).take 4)]
def toldC (b : List UInt8) (i : Nat) : List AV := ((toldN b).take i).map (fun (n : Nat) => AV.int .u64 (n : Int)) ++ List.replicate (6 - i) (AV.int .u64 0)
def zeroC : List AV := [AV.int .u64 0, AV.int .i64 0, .iv (.v (.slice none 0 0)), .iv (.v (.slice none 0 0)), AV.int .u32 0, AV.int .u32 0]
theorem dropI (l : List UInt8) (k : Int) : List.take ((l.length : Int).toNat - k.toNat) (List.drop k.toNat l) = l.drop k.toNat := List.take_of_length_le (by simp)
theorem unle_take (b : List UInt8) (k : Nat) : unle (b.take k) < 256 ^ k := by
 have h := unle_lt (b.take k)
 rw [List.length_take] at h
 exact Nat.lt_of_lt_of_le h (Nat.pow_le_pow_right (by decide) (Nat.min_le_left _ _))
theorem wr32 {n k : Nat} (h : n < 256 ^ k) (hk : k ≤ 4 := by decide) : wrK .u32 (n : Int) = (n : Int) := by
 have : 256 ^ k ≤ 256 ^ 4 := Nat.pow_le_pow_right (by decide) hk
 have h4 : 256 ^ 4 = 4294967296 := by decide
 show (n : Int) % 4294967296 = n
 omega
theorem told_ok (b : List UInt8) (h21 : 21 ≤ b.length) (hb : b.length ≤ 9223372036854775807) : AFn Go.Proofs.Tryz.prog 179 [.iv (.bs b)] ⟨0, []⟩ (fun _ : Unit => .tup [.agg [AV.int .u64 (toldR b).seq, AV.int .i64 (toldR b).kind, .iv (.v (.slice none 0 0)), .iv (.v (.slice none 0 0)), AV.int .u32 (toldR b).seg, AV.int .u32 (toldR b).off], AV.int .i64 (toldR b).key.length, AV.int .i64 (toldR b).val.length]) (fun _ => ⟨0, []⟩) := by
 have u0 := unle_take b 1
 have u1 := unle_take (b.drop 1) 1
 have u2 := unle_take (b.drop 2) 2
 have u3 := unle_take (b.drop 4) 6
 have u4 := unle_take (b.drop 10) 3
 have u5 := unle_take (b.drop 13) 4
 have hl : ∀ o, (b.drop o).length = b.length - o := fun o => List.length_drop
 refine ACall.fin ?_
 refine ACall.walk (C := cfg 45 0) (cfgOk _ _) sch179 (fn := Go.Proofs.Tryz.f179) (by kernel_rfl) (by kernel_rfl) rfl (by kernel_rfl) (by kernel_rfl) rfl rfl ?_
 refine goA ?_
 refine AWP.loop (X := { i : Nat // i ≤ 6 }) (fun x => [(0, .iv (.bs (b.drop (toldO x.1)))), (2, .ptr 0 0), (5, .ptr 1 0), (8, .agg (sizesI.map AV.iv)), (9, AV.int .i64 x.1)]) (fun x => ⟨2, [(0, .cells 50 zeroC), (1, .cells 263 (toldC b x.1))]⟩) (fun x => 6 - x.1) (⟨0, Nat.zero_le _⟩) ?_ fun x => AWP.go (S := sch179) (cfgOk _ _) (.of_eq (by kernel_rfl)) ?_
 ·exact Ent.mkA [some 0, some 1]
 ·obtain ⟨i, hi⟩ := x
  have : i = 0 ∨ i = 1 ∨ i = 2 ∨ i = 3 ∨ i = 4 ∨ i = 5 ∨ i = 6 := by omega
  rcases this with rfl | rfl | rfl | rfl | rfl | rfl | rfl
  ·refine goA ?_
   refine AFn.useA [] (read_ok (b.drop 0) 1 (by rw [hl]; omega) (by decide) (by rw [hl]; omega)) fun _ => ?_
   refine goA ?_
   refine ⟨by rw [hl]; show (1 : Int) ≤ ((b.length - 0 : Nat) : Int); omega, ?_⟩
   refine goA ?_
   refine ⟨⟨1, by decide⟩, Ent.mk' [some 0, some 1] (by kernel_rfl) ⟨AVE.of_eq (congrArg (fun l => AV.iv (IV.bs l)) ((dropI (b.drop 0) 1).trans List.drop_drop)), AVE.refl _, AVE.refl _, AVE.refl _, AVE.refl _, trivial⟩ subC, (by decide : 6 - 1 < 6 - 0)⟩
  ·refine goA ?_
   refine AFn.useA [] (read_ok (b.drop 1) 1 (by rw [hl]; omega) (by decide) (by rw [hl]; omega)) fun _ => ?_
   refine goA ?_
   refine ⟨by rw [hl]; show (1 : Int) ≤ ((b.length - 1 : Nat) : Int); omega, ?_⟩
   refine goA ?_
   refine ⟨⟨2, by decide⟩, Ent.mk' [some 0, some 1] (by kernel_rfl) ⟨AVE.of_eq (congrArg (fun l => AV.iv (IV.bs l)) ((dropI (b.drop 1) 1).trans List.drop_drop)), AVE.refl _, AVE.refl _, AVE.refl _, AVE.refl _, trivial⟩ subC, (by decide : 6 - 2 < 6 - 1)⟩
  ·refine goA ?_
   refine AFn.useA [] (read_ok (b.drop 2) 2 (by rw [hl]; omega) (by decide) (by rw [hl]; omega)) fun _ => ?_
   refine goA ?_
   refine ⟨by rw [hl]; show (2 : Int) ≤ ((b.length - 2 : Nat) : Int); omega, ?_⟩
   refine goA ?_
   refine ⟨⟨3, by decide⟩, Ent.mk' [some 0, some 1] (by kernel_rfl) ⟨AVE.of_eq (congrArg (fun l => AV.iv (IV.bs l)) ((dropI (b.drop 2) 2).trans List.drop_drop)), AVE.refl _, AVE.refl _, AVE.refl _, AVE.refl _, trivial⟩ subC, (by decide : 6 - 3 < 6 - 2)⟩
  ·refine goA ?_
   refine AFn.useA [] (read_ok (b.drop 4) 6 (by rw [hl]; omega) (by decide) (by rw [hl]; omega)) fun _ => ?_
   refine goA ?_
   refine ⟨by rw [hl]; show (6 : Int) ≤ ((b.length - 4 : Nat) : Int); omega, ?_⟩
   refine goA ?_
   refine ⟨⟨4, by decide⟩, Ent.mk' [some 0, some 1] (by kernel_rfl) ⟨AVE.of_eq (congrArg (fun l => AV.iv (IV.bs l)) ((dropI (b.drop 4) 6).trans List.drop_drop)), AVE.refl _, AVE.refl _, AVE.refl _, AVE.refl _, trivial⟩ subC, (by decide : 6 - 4 < 6 - 3)⟩
  ·refine goA ?_
   refine AFn.useA [] (read_ok (b.drop 10) 3 (by rw [hl]; omega) (by decide) (by rw [hl]; omega)) fun _ => ?_
   refine goA ?_
   refine ⟨by rw [hl]; show (3 : Int) ≤ ((b.length - 10 : Nat) : Int); omega, ?_⟩
   refine goA ?_
   refine ⟨⟨5, by decide⟩, Ent.mk' [some 0, some 1] (by kernel_rfl) ⟨AVE.of_eq (congrArg (fun l => AV.iv (IV.bs l)) ((dropI (b.drop 10) 3).trans List.drop_drop)), AVE.refl _, AVE.refl _, AVE.refl _, AVE.refl _, trivial⟩ subC, (by decide : 6 - 5 < 6 - 4)⟩
  ·refine goA ?_
   refine AFn.useA [] (read_ok (b.drop 13) 4 (by rw [hl]; omega) (by decide) (by rw [hl]; omega)) fun _ => ?_
   refine goA ?_
   refine ⟨by rw [hl]; show (4 : Int) ≤ ((b.length - 13 : Nat) : Int); omega, ?_⟩
   refine goA ?_
   refine ⟨⟨6, by decide⟩, Ent.mk' [some 0, some 1] (by kernel_rfl) ⟨AVE.of_eq (congrArg (fun l => AV.iv (IV.bs l)) ((dropI (b.drop 13) 4).trans List.drop_drop)), AVE.refl _, AVE.refl _, AVE.refl _, AVE.refl _, trivial⟩ subC, (by decide : 6 - 6 < 6 - 5)⟩
  ·refine goA ?_
   repeat' (refine And.intro ?_ ?_ <;> (refine goA ?_))
   all_goals
    rw [wr32 u4, wr32 u5]
    refine ⟨_, _, Ent.mk' (e' := [(0, .tup [.agg [AV.int .u64 (toldR b).seq, AV.int .i64 (toldR b).kind, .iv (.v (.slice none 0 0)), .iv (.v (.slice none 0 0)), AV.int .u32 (toldR b).seg, AV.int .u32 (toldR b).off], AV.int .i64 (toldR b).key.length, AV.int .i64 (toldR b).val.length])]) (H' := ⟨0, []⟩) [] (by kernel_rfl) ⟨AVE.of_eq ?_, trivial⟩ trivial, (), rfl, rfl⟩
    simp only [toldR, List.length_replicate]
    rfl
theorem AVE.aggE {xs ys : List AV} (h : cellsE xs ys) : AVE (.agg xs) (.agg ys) := ⟨fun ρ ι v hr => by
 simp only [AV.R] at hr ⊢
 obtain ⟨vs, e, r⟩ := hr
 exact ⟨vs, e, argsE_run h r⟩⟩
theorem recZ (x y : AV) : AVE (.tup [.agg zeroC, x, y]) (.tup [recA default, x, y]) := AVE.tupE ⟨AVE.aggE ⟨AVE.refl _, AVE.refl _, AVE.nilBs, AVE.nilBs, AVE.refl _, AVE.refl _, rfl⟩, AVE.refl _, AVE.refl _, rfl⟩
def getA (g : Rec × Nat × Nat) : AV := .tup [recA g.1, AV.int .i64 g.2.1, AV.int .i64 g.2.2]
theorem fails_ok (size e : Int) : AFn Go.Proofs.Tryz.prog 177 [AV.int .i64 size, AV.int .i64 e] ⟨0, []⟩ (fun _ : Unit => .tup [.agg zeroC, AV.int .i64 size, AV.int .i64 e]) (fun _ => ⟨0, []⟩) := by
 refine ACall.fin ?_
 refine ACall.walk (C := cfg 10 0) (cfgOk _ _) [] (fn := Go.Proofs.Tryz.f177) (by kernel_rfl) (by kernel_rfl) rfl (by kernel_rfl) (by kernel_rfl) rfl rfl ?_
 refine goA ?_
 refine ⟨_, _, Ent.mk' (e' := [(0, .tup [.agg zeroC, AV.int .i64 size, AV.int .i64 e])]) (H' := ⟨0, []⟩) [] (by kernel_rfl) ?_ ?_, (), rfl, rfl⟩
 ·exact ⟨AVE.refl _, trivial⟩
 ·trivial
theorem browFree (e : TypeId) (l : List UInt8) : (Chunk.brow e l).Free := fun _ _ _ _ _ _ _ _ h => h
def recW (r : Rec) : AV := .agg [AV.int .u64 r.seq, AV.int .i64 r.kind, .row 0 1 0 r.key.length, .row 1 1 0 r.val.length, AV.int .u32 r.seg, AV.int .u32 r.off]
theorem recMayW_ok (r : Rec) (h : r.B) : AFn Go.Proofs.Tryz.prog 69 [recW r] ⟨2, [(0, .brow 5 r.key), (1, .brow 5 r.val)]⟩ (fun _ : Unit => AV.bool (decide r.May)) (fun _ => ⟨2, [(0, .brow 5 r.key), (1, .brow 5 r.val)]⟩) := by
 refine ACall.lendB [.agg [AV.int .u64 r.seq, AV.int .i64 r.kind, .row 0 1 0 r.key.length, .iv (.bs r.val), AV.int .u32 r.seg, AV.int .u32 r.off]] 1 rfl ⟨AVF.agg ⟨AVF.same .., AVF.same .., AVF.same .., AVF.bs (Nat.le_refl _) List.take_length.symm, AVF.same .., AVF.same .., rfl⟩, rfl⟩ ?_
 refine ACall.lendB [recA r] 0 rfl ⟨AVF.agg ⟨AVF.same .., AVF.same .., AVF.bs (Nat.le_refl _) List.take_length.symm, AVF.same .., AVF.same .., AVF.same .., rfl⟩, rfl⟩ ?_
 refine AFn.useA [] (recMay_ok r h) fun _ => ?_
 exact ⟨.iv (.v _), trivial, rfl, .iv (.v _), ⟨⟨browFree _ _, rfl, trivial⟩, trivial⟩, rfl, (), rfl, rfl⟩
theorem recSizeW_ok (r : Rec) (h : r.B) : AFn Go.Proofs.Tryz.prog 81 [recW r] ⟨2, [(0, .brow 5 r.key), (1, .brow 5 r.val)]⟩ (fun _ : Unit => AV.int .i64 r.size) (fun _ => ⟨2, [(0, .brow 5 r.key), (1, .brow 5 r.val)]⟩) := by
 refine ACall.lendB [.agg [AV.int .u64 r.seq, AV.int .i64 r.kind, .row 0 1 0 r.key.length, .iv (.bs r.val), AV.int .u32 r.seg, AV.int .u32 r.off]] 1 rfl ⟨AVF.agg ⟨AVF.same .., AVF.same .., AVF.same .., AVF.bs (Nat.le_refl _) List.take_length.symm, AVF.same .., AVF.same .., rfl⟩, rfl⟩ ?_
 refine ACall.lendB [recA r] 0 rfl ⟨AVF.agg ⟨AVF.same .., AVF.same .., AVF.bs (Nat.le_refl _) List.take_length.symm, AVF.same .., AVF.same .., AVF.same .., rfl⟩, rfl⟩ ?_
 refine AFn.useA [] (recSize_ok r h) fun _ => ?_
 exact ⟨.iv (.v _), trivial, rfl, .iv (.v _), ⟨⟨browFree _ _, rfl, trivial⟩, trivial⟩, rfl, (), rfl, rfl⟩
theorem copied (x k : List UInt8) (h : k.length ≤ x.length) : List.take k.length x ++ List.drop (min x.length k.length) k = List.take k.length x := by
 rw [Nat.min_eq_right h, List.drop_length, List.append_nil]
noncomputable def cfgX8 (N b : Nat) : Cfg := cfgX [1008] N b
theorem cfgX8Ok (N b : Nat) : (cfgX8 N b).Ok := cfgXOk _ _ _
theorem recGet_ok (b : List UInt8) (hb : b.length ≤ 1000000000) : AFn Go.Proofs.Tryz.prog 119 [.iv (.bs b)] ⟨0, []⟩ (fun _ : Unit => getA (getR b)) (fun _ => ⟨0, []⟩) := by
 refine ACall.fin ?_
 refine ACall.walk (C := cfgX8 87 0) (cfgX8Ok _ _) sch119 (fn := Go.Proofs.Tryz.f119) (by kernel_rfl) (by kernel_rfl) rfl (by kernel_rfl) (by kernel_rfl) rfl rfl ?_
 refine goA ?_
 by_cases h21 : b.length < 21
 ·rw [decide_eq_true (show (b.length : Int) < 21 by omega)]
  have e : getR b = (default, 0, 22) := by unfold getR; rw [if_pos h21]
  rw [e]
  refine goA ?_
  refine AFn.useA [] (fails_ok 0 22) fun _ => ?_
  refine goA ?_
  refine ⟨_, _, Ent.mk' (e' := [(0, getA (default, 0, 22))]) (H' := ⟨0, []⟩) [] (by kernel_rfl) ?_ ?_, (), rfl, rfl⟩
  ·exact ⟨recZ _ _, trivial⟩
  ·trivial
 rw [decide_eq_false (show ¬ (b.length : Int) < 21 by omega)]
 refine goA ?_
 rw [show List.take (Int.toNat 21 - Int.toNat 0) (List.drop (Int.toNat 0) b) = b.take 21 from rfl]
 refine AFn.useA [] (right_ok (b.take 21) (by simp; omega)) fun _ => ?_
 cases hr : right (b.take 21) with
 | false =>
   have e : getR b = (default, 0, 23) := by unfold getR; rw [if_neg h21, if_pos hr]
   rw [e]
   refine goA ?_
   refine AFn.useA [] (fails_ok 0 23) fun _ => ?_
   refine goA ?_
   refine ⟨_, _, Ent.mk' (e' := [(0, getA (default, 0, 23))]) (H' := ⟨0, []⟩) [] (by kernel_rfl) ?_ ?_, (), rfl, rfl⟩
   ·exact ⟨recZ _ _, trivial⟩
   ·trivial
 | true =>
   have htold := told_ok b (by omega) (by omega)
   have hr' : ¬ right (b.take 21) = false := by rw [hr]; decide
   have g1 : ¬ (toldR b).May → getR b = (default, 0, 23) := fun h => by unfold getR; rw [if_neg h21, if_neg hr', if_pos h]
   have g2 : (toldR b).May → b.length < (toldR b).size → getR b = (default, 0, 22) := fun h h2 => by unfold getR; rw [if_neg h21, if_neg hr', if_neg (not_not_intro h), if_pos h2]
   have g3 : (toldR b).May → ¬ b.length < (toldR b).size → right (b.take (toldR b).size) = false → getR b = (default, (toldR b).size, 23) := fun h h2 h3 => by unfold getR; rw [if_neg h21, if_neg hr', if_neg (not_not_intro h), if_neg h2, if_pos h3]
   have g4 : (toldR b).May → ¬ b.length < (toldR b).size → right (b.take (toldR b).size) = true → getR b = ({ toldR b with key := (b.drop 21).take (toldR b).key.length, val := (b.drop (21 + (toldR b).key.length)).take (toldR b).val.length }, (toldR b).size, 0) := fun h h2 h3 => by unfold getR; rw [if_neg h21, if_neg hr', if_neg (not_not_intro h), if_neg h2, if_neg (by rw [h3]; decide)]
   have k1 : (toldR b).key = List.replicate (toldR b).key.length 0 := by simp [toldR]
   have k2 : (toldR b).val = List.replicate (toldR b).val.length 0 := by simp [toldR]
   have k3 : (toldR b).key.length ≤ 255 := by have := unle_take (b.drop 1) 1; simp only [toldR, List.length_replicate]; omega
   have k4 : (toldR b).val.length ≤ 65535 := by have := unle_take (b.drop 2) 2; simp only [toldR, List.length_replicate]; omega
   generalize toldR b = r at *
   have hB : r.B := ⟨by omega, by omega⟩
   refine goA ?_
   refine AFn.useA [] (htold) fun _ => ?_
   apply AWP.ahead (C := cfgX8 87 0) ([(0, .iv (.bs b)), (2, .ptr 0 0), (5, .iv (.v (.func (.func 177) #[] #[]))), (6, .ptr 1 0), (7, AV.int .i64 r.key.length), (8, AV.int .i64 r.val.length)]) (⟨4, [(0, .cells 50 zeroC), (1, .cells 50 [AV.int .u64 r.seq, AV.int .i64 r.kind, .row 2 1 0 r.key.length, .row 3 1 0 r.val.length, AV.int .u32 r.seg, AV.int .u32 r.off]), (2, .brow 5 r.key), (3, .brow 5 r.val)]⟩)
   ·intro key
    refine goA ?_
    repeat' (refine And.intro ?_ ?_ <;> (refine goA ?_))
    all_goals
     refine AWP.of_ent ?_ key
     first
     | exact Ent.mk' [some 0, some 1, some 2, some 3] (by kernel_rfl) ⟨AVE.refl _, AVE.refl _, AVE.refl _, AVE.refl _, AVE.refl _, AVE.refl _, trivial⟩ ⟨⟨_, rfl, ChE.refl _⟩, ⟨_, rfl, ChE.refl _⟩, ⟨_, rfl, ChE.brow k1.symm⟩, ⟨_, rfl, ChE.brow k2.symm⟩, trivial⟩
     | exact Ent.mk' [some 0, some 1, some 3, some 2] (by kernel_rfl) ⟨AVE.refl _, AVE.refl _, AVE.refl _, AVE.refl _, AVE.refl _, AVE.refl _, trivial⟩ ⟨⟨_, rfl, ChE.refl _⟩, ⟨_, rfl, ChE.refl _⟩, ⟨_, rfl, ChE.brow k1.symm⟩, ⟨_, rfl, ChE.brow k2.symm⟩, trivial⟩
   refine AWP.reg (cfgX8Ok _ _) ?_
   refine goA ?_
   refine AFn.useA [2, 3] (recMayW_ok r hB) fun _ => ?_
   by_cases hm : r.May
   ·rw [decide_eq_true hm]
    refine goA ?_
    refine AFn.useA [2, 3] (recSizeW_ok r hB) fun _ => ?_
    refine goA ?_
    by_cases hs : b.length < r.size
    ·rw [decide_eq_true (show (b.length : Int) < (r.size : Int) by omega), g2 hm hs]
     refine goA ?_
     refine AFn.useA [] (fails_ok 0 22) fun _ => ?_
     refine goA ?_
     refine ⟨_, _, Ent.mk' (e' := [(0, getA (default, 0, 22))]) (H' := ⟨0, []⟩) [] (by kernel_rfl) ?_ ?_, (), rfl, rfl⟩
     ·exact ⟨recZ _ _, trivial⟩
     ·trivial
    rw [decide_eq_false (show ¬ (b.length : Int) < (r.size : Int) by omega)]
    refine goA ?_
    rw [show List.take ((r.size : Int).toNat - Int.toNat 0) (List.drop (Int.toNat 0) b) = b.take r.size from rfl]
    refine AFn.useA [] (right_ok (b.take r.size) (by simp; omega)) fun _ => ?_
    cases hr2 : right (b.take r.size) with
    | false =>
      rw [g3 hm hs hr2]
      refine goA ?_
      refine AFn.useA [] (fails_ok r.size 23) fun _ => ?_
      refine goA ?_
      refine ⟨_, _, Ent.mk' (e' := [(0, getA (default, r.size, 23))]) (H' := ⟨0, []⟩) [] (by kernel_rfl) ?_ ?_, (), rfl, rfl⟩
      ·exact ⟨recZ _ _, trivial⟩
      ·trivial
    | true =>
      have hsz : 25 + r.key.length + r.val.length ≤ b.length := by unfold Rec.size at hs; omega
      rw [g4 hm hs hr2]
      refine goA ?_
      have d1 : List.take ((b.length : Int).toNat - Int.toNat 21) (List.drop (Int.toNat 21) b) = b.drop 21 := dropI b 21
      have d2 : List.take ((b.length : Int).toNat - ((21 : Int) + (r.key.length : Int)).toNat) (List.drop ((21 : Int) + (r.key.length : Int)).toNat b) = b.drop (21 + r.key.length) := by
       rw [dropI, show ((21 : Int) + (r.key.length : Int)).toNat = 21 + r.key.length by omega]
      rw [d1, d2, copied _ _ (by rw [List.length_drop]; omega), copied _ _ (by rw [List.length_drop]; omega)]
      have l1 : ((b.drop 21).take r.key.length).length = r.key.length := by simp; omega
      have l2 : ((b.drop (21 + r.key.length)).take r.val.length).length = r.val.length := by simp; omega
      exact ⟨_, _, (Ent.freeze 2 _ rfl rfl (e' := [(0, .tup [.agg [AV.int .u64 r.seq, AV.int .i64 r.kind, .iv (.bs ((b.drop 21).take r.key.length)), .row 3 1 0 r.val.length, AV.int .u32 r.seg, AV.int .u32 r.off], AV.int .i64 r.size, AV.int .i64 0])]) ⟨AVF.tups (by exact ⟨AVF.agg (by exact ⟨AVF.same .., AVF.same .., AVF.bs (Nat.le_of_eq l1.symm) (by rw [List.take_take, Nat.min_self]), AVF.same .., AVF.same .., AVF.same .., rfl⟩), AVF.same .., AVF.same .., rfl⟩), trivial⟩).trans
       ((Ent.freeze 3 _ rfl rfl (e' := [(0, .tup [.agg [AV.int .u64 r.seq, AV.int .i64 r.kind, .iv (.bs ((b.drop 21).take r.key.length)), .iv (.bs ((b.drop (21 + r.key.length)).take r.val.length)), AV.int .u32 r.seg, AV.int .u32 r.off], AV.int .i64 r.size, AV.int .i64 0])]) ⟨AVF.tups (by exact ⟨AVF.agg (by exact ⟨AVF.same .., AVF.same .., AVF.same .., AVF.bs (Nat.le_of_eq l2.symm) (by rw [List.take_take, Nat.min_self]), AVF.same .., AVF.same .., rfl⟩), AVF.same .., AVF.same .., rfl⟩), trivial⟩).trans
       (Ent.mk' (H' := ⟨0, []⟩) [] (by kernel_rfl) ⟨AVE.refl _, trivial⟩ trivial)), (), rfl, rfl⟩
   ·rw [decide_eq_false hm, g1 hm]
    refine goA ?_
    refine AFn.useA [] (fails_ok 0 23) fun _ => ?_
    refine goA ?_
    refine ⟨_, _, Ent.mk' (e' := [(0, getA (default, 0, 23))]) (H' := ⟨0, []⟩) [] (by kernel_rfl) ?_ ?_, (), rfl, rfl⟩
    ·exact ⟨recZ _ _, trivial⟩
    ·trivial
end Go.Proofs.YtgfkepebfaiepaaGreatDoor.Ax

namespace Go.Proofs.YtgfkepebfaiepaaGreatDoor.Ax
open Go.RowKit
set_option maxRecDepth 100000
theorem headMay_ok (k n : Nat) : AFn Go.Proofs.Tryz.prog 204 [AV.int .i64 k, AV.int .u32 n] ⟨0, []⟩ (fun _ : Unit => AV.bool (decide (HMay k n))) (fun _ => ⟨0, []⟩) := by
 refine ACall.fin ?_
 refine ACall.walk (C := cfg 23 0) (cfgOk _ _) [] (fn := Go.Proofs.Tryz.f204) (by kernel_rfl) (by kernel_rfl) rfl (by kernel_rfl) (by kernel_rfl) rfl rfl ?_
 refine goA ?_
 repeat' (refine ifdA (fun q => ?_) (fun q => ?_) <;> (try dsimp only at q) <;> (refine goA ?_))
 all_goals
  refine ⟨_, _, Ent.mk' (e' := [(0, AV.bool (decide (HMay k n)))]) (H' := ⟨0, []⟩) [] (by kernel_rfl) ⟨AVE.bool ?_, trivial⟩ trivial, (), rfl, rfl⟩
  first | (rw [decide_eq_decide]; unfold HMay; omega) | (rw [eq_comm, decide_eq_false_iff_not]; unfold HMay; omega) | (rw [eq_comm, decide_eq_true_iff]; unfold HMay; omega)
theorem headPut_ok {k n : Nat} (h : HMay k n) : AFn Go.Proofs.Tryz.prog 137 [AV.int .i64 k, AV.int .u32 n] ⟨0, []⟩ (fun _ : Unit => .tup [.iv (.bs (headB k n)), AV.int .i64 0]) (fun _ => ⟨0, []⟩) := by
 obtain ⟨h1, h2⟩ := h.lt
 refine ACall.fin ?_
 refine ACall.walk (C := cfg 26 0) (cfgOk _ _) [] (fn := Go.Proofs.Tryz.f137) (by kernel_rfl) (by kernel_rfl) rfl (by kernel_rfl) (by kernel_rfl) rfl rfl ?_
 refine goA ?_
 refine AFn.useA [] (headMay_ok k n) fun _ => ?_
 rw [decide_eq_true h]
 refine goA ?_
 have hw : wrK .u8 (k : Int) = (k : Int) := by
  show (k : Int) % 256 = k
  omega
 rw [hw]
 refine goA ?_
 refine ACall.freezeB 2 rfl [.iv (.bs (lettersB ++ [UInt8.ofNat k])), AV.int .u64 n, AV.int .i64 4] ⟨AVF.bs (Nat.le_refl 8) rfl, AVF.same .., AVF.same .., rfl⟩ ?_
 refine AFn.useA [] (fixed_ok (lettersB ++ [UInt8.ofNat k]) n 4 (by simp [lettersB]) (by decide) (by omega)) fun _ => ?_
 refine goA ?_
 refine AFn.useA [] (coverR_ok (lettersB ++ [UInt8.ofNat k] ++ le n 4) (by simp [lettersB, le_len])) fun _ => ?_
 refine goA ?_
 exact ⟨_, _, (Ent.freeze 3 _ rfl rfl (e' := [(0, .tup [.iv (.bs (headB k n)), AV.int .i64 0])]) ⟨AVF.tup (AVF.bs (Nat.le_of_eq (cover_len _).symm) (List.take_of_length_le (Nat.le_of_eq (cover_len _))).symm) (AVF.same ..), trivial⟩).trans (Ent.mk' (e' := [(0, .tup [.iv (.bs (headB k n)), AV.int .i64 0])]) (H' := ⟨0, []⟩) [] (by kernel_rfl) ⟨AVE.refl _, trivial⟩ trivial), (), rfl, rfl⟩
end Go.Proofs.YtgfkepebfaiepaaGreatDoor.Ax

namespace Go.Proofs.YtgfkepebfaiepaaGreatDoor.Ax
open Go.RowKit
set_option maxRecDepth 100000
def u32I (n : Nat) : IV := .v (.int .u32 (n : Int))
def u64I (n : Nat) : IV := .v (.int .u64 (n : Int))
def i64I (n : Int) : IV := .v (.int .i64 n)
def recI (r : Rec) : List IV := [u64I r.seq, i64I r.kind, .bs r.key, .bs r.val, u32I r.seg, u32I r.off]
end Go.Proofs.YtgfkepebfaiepaaGreatDoor.Ax

namespace Go.Proofs.YtgfkepebfaiepaaGreatDoor.Ax
open Go.RowKit
set_option maxRecDepth 100000
structure ScL (b : List UInt8) (fin : SC) where
 s : SC
 k : Nat
 run : SC.runs b k s = fin
 he : s.end_ ≤ b.length
 hk : b.length - s.end_ < k
 cnt : 25 * (s.found.length + s.passed.length) ≤ s.end_
structure Sl where
 id : Nat
 size : Nat
 many : Nat
 first : Nat
 last : Nat
deriving DecidableEq
instance : Inhabited Sl := ⟨⟨0, 0, 0, 0, 0⟩⟩
def slA (g : Sl) : AV := .agg [AV.int .u32 g.id, AV.int .u32 g.size, AV.int .u32 g.many, AV.int .u64 g.first, AV.int .u64 g.last]
def SC.first (s : SC) : Nat := if s.found = [] then 0 else (s.found.getD 0 default).r.seq
end Go.Proofs.YtgfkepebfaiepaaGreatDoor.Ax
