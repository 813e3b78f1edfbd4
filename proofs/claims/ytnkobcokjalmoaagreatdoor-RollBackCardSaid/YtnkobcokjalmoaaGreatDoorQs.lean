/-
  Chapter 11: records, heads, scans.
-/
import Derived.Test.YtnkobcokjalmoaaGreatDoorQr
import Derived.Test.YtnkobcokjalmoaaGreatDoorQz
import Derived.Test.YtnkobcokjalmoaaGreatDoorQh
namespace Go.Proofs.YtnkobcokjalmoaaGreatDoor.Ax
open Go.RowKit
set_option maxRecDepth 100000
def recA (r : Rec) : AV := .agg [AV.int .u64 r.seq, AV.int .i64 r.kind, .iv (.bs r.key), .iv (.bs r.val), AV.int .u32 r.seg, AV.int .u32 r.off]
def Rec.B (r : Rec) : Prop := r.key.length ≤ 140737488355328 ∧ r.val.length ≤ 140737488355328
theorem recSize_ok (r : Rec) (h : r.B) : AFn Go.Proofs.Tryz.prog 84 [recA r] ⟨0, []⟩ (fun _ : Unit => AV.int .i64 r.size) (fun _ => ⟨0, []⟩) := by
 obtain ⟨h1, h2⟩ := h
 refine ACall.fin ?_
 refine ACall.walk (C := cfg 12 0) (cfgOk _ _) [] (fn := Go.Proofs.Tryz.f84) (by kernel_rfl) (by kernel_rfl) rfl (by kernel_rfl) (by kernel_rfl) rfl rfl ?_
 refine goA ?_
 refine ⟨_, _, Ent.mk' (e' := [(0, AV.int .i64 r.size)]) (H' := ⟨0, []⟩) [] (by kernel_rfl) ⟨AVE.int ?_, trivial⟩ trivial, (), rfl, rfl⟩
 unfold Rec.size
 omega
theorem recMay_ok (r : Rec) (h : r.B) : AFn Go.Proofs.Tryz.prog 70 [recA r] ⟨0, []⟩ (fun _ : Unit => AV.bool (decide r.May)) (fun _ => ⟨0, []⟩) := by
 obtain ⟨h1, h2⟩ := h
 refine ACall.fin ?_
 refine ACall.walk (C := cfg 44 0) (cfgOk _ _) [] (fn := Go.Proofs.Tryz.f70) (by kernel_rfl) (by kernel_rfl) rfl (by kernel_rfl) (by kernel_rfl) rfl rfl ?_
 refine goA ?_
 repeat' (first | (refine ifdA (fun q => ?_) (fun q => ?_) <;> (try dsimp only at q) <;> (refine goA ?_)) | (refine AFn.useA [] (keyMay_ok r.key (by omega)) fun _ => ?_; (refine goA ?_)) | (refine AFn.useA [] (valMay_ok r.val (by omega)) fun _ => ?_; (refine goA ?_)) | (refine AFn.useA [] (locMay_ok r.seg r.off) fun _ => ?_; (refine goA ?_)))
 all_goals
  refine ⟨_, _, Ent.mk' (e' := [(0, AV.bool (decide r.May))]) (H' := ⟨0, []⟩) [] (by kernel_rfl) ⟨AVE.bool ?_, trivial⟩ trivial, (), rfl, rfl⟩
  first | (rw [decide_eq_decide]; unfold Rec.May LMay; omega) | (rw [eq_comm, decide_eq_false_iff_not]; unfold Rec.May LMay; omega)
end Go.Proofs.YtnkobcokjalmoaaGreatDoor.Ax

namespace Go.Proofs.YtnkobcokjalmoaaGreatDoor.Ax
open Go.RowKit
set_option maxRecDepth 100000
theorem bytesEq_ok (a b : List UInt8) (_ha : a.length ≤ 140737488355328) (_hb : b.length ≤ 140737488355328) : AFn Go.Proofs.Tryz.prog 80 [.iv (.bs a), .iv (.bs b)] ⟨0, []⟩ (fun _ : Unit => AV.bool (decide (a = b))) (fun _ => ⟨0, []⟩) := by
 refine ACall.fin ?_
 refine ACall.walk (C := cfg 10 0) (cfgOk _ _) [] (fn := Go.Proofs.Tryz.f80) (by kernel_rfl) (by kernel_rfl) rfl (by kernel_rfl) (by kernel_rfl) rfl rfl ?_
 refine goA ?_
 refine ⟨_, _, Ent.mk' (e' := [(0, AV.bool (decide (a = b)))]) (H' := ⟨0, []⟩) [] (by kernel_rfl) ?_ ?_, (), rfl, rfl⟩
 ·exact ⟨AVE.refl _, trivial⟩
 ·trivial
theorem recSame_ok (a b : Rec) (ha : a.B) (hb : b.B) : AFn Go.Proofs.Tryz.prog 24 [recA a, recA b] ⟨0, []⟩ (fun _ : Unit => AV.bool (decide (a = b))) (fun _ => ⟨0, []⟩) := by
 obtain ⟨a1, a2⟩ := ha
 obtain ⟨b1, b2⟩ := hb
 obtain ⟨aq, ak, akey, aval, aseg, aoff⟩ := a
 obtain ⟨bq, bk, bkey, bval, bseg, boff⟩ := b
 refine ACall.fin ?_
 refine ACall.walk (C := cfg 38 0) (cfgOk _ _) [] (fn := Go.Proofs.Tryz.f24) (by kernel_rfl) (by kernel_rfl) rfl (by kernel_rfl) (by kernel_rfl) rfl rfl ?_
 refine goA ?_
 repeat' (first | (refine ifdA (fun q => ?_) (fun q => ?_) <;> (try dsimp only at q) <;> (refine goA ?_)) | (refine AFn.useA [] (bytesEq_ok akey bkey a1 b1) fun _ => ?_; (refine goA ?_)) | (refine AFn.useA [] (bytesEq_ok aval bval a2 b2) fun _ => ?_; (refine goA ?_)))
 all_goals
  refine ⟨_, _, Ent.mk' (e' := [(0, AV.bool (decide ((⟨aq, ak, akey, aval, aseg, aoff⟩ : Rec) = ⟨bq, bk, bkey, bval, bseg, boff⟩)))]) (H' := ⟨0, []⟩) [] (by kernel_rfl) ⟨AVE.bool ?_, trivial⟩ trivial, (), rfl, rfl⟩
  rw [Bool.eq_iff_iff]
  simp_all only [Int.natCast_inj, Bool.and_true, Bool.and_eq_true, decide_eq_true_eq, Rec.mk.injEq, not_and, and_true, true_and, and_self, decide_false, Bool.false_eq_true, Bool.and_eq_false_iff, decide_eq_false_iff_not, false_and, and_false, iff_self, false_iff] <;> (try omega) <;> (try (intro _ _ _ _; simp_all; done)) <;> (try (constructor <;> intro hh <;> simp_all))
end Go.Proofs.YtnkobcokjalmoaaGreatDoor.Ax

namespace Go.Proofs.YtnkobcokjalmoaaGreatDoor.Ax
open Go.RowKit
set_option maxRecDepth 100000
noncomputable def cfgX (l : List Nat) (N b : Nat) : Cfg := { P := Go.Proofs.Tryz.prog, T := tt, wr := false, N := N, pure := [], base := b, cuts := l }
theorem cfgXOk (l : List Nat) (N b : Nat) : (cfgX l N b).Ok := ⟨ttOk, ttBytes, by kernel_rfl⟩
def arr4I (s : BitVec 32) : List IV := [byteI (by4 s 0), byteI (by4 s 1), byteI (by4 s 2), byteI (by4 s 3)]
noncomputable def cfgX2 (N b : Nat) : Cfg := cfgX [1002] N b
theorem cfgX2Ok (N b : Nat) : (cfgX2 N b).Ok := cfgXOk _ _ _
theorem coverR_ok (l : List UInt8) (hl : l.length ≤ 1000000) : AFn Go.Proofs.Tryz.prog 159 [.iv (.bs l)] ⟨0, []⟩ (fun _ : Unit => .row 0 1 0 (l.length + 4)) (fun _ => ⟨1, [(0, .brow 5 (cover l))]⟩) := by
 have hb : ∀ c : UInt8, c.toNat ≤ 255 := fun c => Nat.le_of_lt_succ c.toNat_lt
 have h0 := hb (by4 (Cm.sum l) 0)
 have h1 := hb (by4 (Cm.sum l) 1)
 have h2 := hb (by4 (Cm.sum l) 2)
 have h3 := hb (by4 (Cm.sum l) 3)
 refine ACall.fin ?_
 refine ACall.walk (C := cfgX2 11 0) (cfgX2Ok _ _) sch159 (fn := Go.Proofs.Tryz.f159) (by kernel_rfl) (by kernel_rfl) rfl (by kernel_rfl) (by kernel_rfl) rfl rfl ?_
 refine goA ?_
 refine AFn.useA [] (sum_ok l (by omega)) fun _ => ?_
 refine goA ?_
 refine AFn.useA [] (laid_ok (Cm.sum l)) fun _ => ?_
 refine goA ?_
 refine AWP.of_ent (Ent.freezeC 0 (arr4I (Cm.sum l)) rfl rfl (e' := [(0, .iv (.bs l)), (3, .iv (.pp (arr4I (Cm.sum l))))]) ⟨AVC.same _ _ _, AVC.here _ _, trivial⟩) ?_
 refine AWP.regD (cfgX2Ok _ _) sch159 (by kernel_rfl) ?_
 refine goA ?_
 refine ⟨_, _, Ent.mk' (e' := [(0, .row 0 1 0 (l.length + 4))]) (H' := ⟨1, [(0, .brow 5 (cover l))]⟩) [some 2] (by kernel_rfl) ⟨AVE.len rfl, trivial⟩ ⟨⟨_, rfl, ChE.brow ?_⟩, trivial⟩, (), rfl, rfl⟩
 simp [cover, le4]
def numsK (r : Rec) : Nat → List UInt8
 | 0 => []
 | 1 => le r.kind.toNat 1
 | 2 => le r.kind.toNat 1 ++ le r.key.length 1
 | 3 => le r.kind.toNat 1 ++ le r.key.length 1 ++ le r.val.length 2
 | 4 => le r.kind.toNat 1 ++ le r.key.length 1 ++ le r.val.length 2 ++ le r.seq 6
 | 5 => le r.kind.toNat 1 ++ le r.key.length 1 ++ le r.val.length 2 ++ le r.seq 6 ++ le r.seg 3
 | _ => r.nums
theorem numsK_len (r : Rec) (i : Nat) : (numsK r i).length ≤ 17 := by
 unfold numsK
 split <;> simp [le_len, nums_len]
theorem take3 {a : List UInt8} (h : a.length = 21) (b c : List UInt8) : a ++ (b ++ c) = List.take (21 + b.length + c.length) (List.take (21 + b.length) (List.take 21 a ++ b) ++ c) := by
 rw [List.take_of_length_le (l := a) (by omega), List.take_of_length_le (l := a ++ b) (by simp; omega), List.take_of_length_le (by simp; omega), List.append_assoc]
def recC (r : Rec) : List AV := [AV.int .u64 r.seq, AV.int .i64 r.kind, .iv (.bs r.key), .iv (.bs r.val), AV.int .u32 r.seg, AV.int .u32 r.off]
theorem recPut_ok (r : Rec) (h : r.May) : AFn Go.Proofs.Tryz.prog 85 [recA r] ⟨0, []⟩ (fun _ : Unit => .tup [.iv (.bs r.enc), AV.int .i64 0]) (fun _ => ⟨0, []⟩) := by
 have hB : r.B := by unfold Rec.May at h; unfold Rec.B; omega
 have hM := h
 obtain ⟨h1, ⟨_, h2⟩, ⟨_, h3⟩, h4, h5⟩ := h
 have hs : r.seg < 256 ^ 3 := by unfold LMay at h5; omega
 have ho : r.off < 256 ^ 4 := by unfold LMay at h5; omega
 have hsq : r.seq < 256 ^ 6 := by omega
 have hl := numsK_len r
 obtain ⟨kd, hkd⟩ : ∃ kd : Nat, r.kind = kd := ⟨r.kind.toNat, by omega⟩
 have hk2 : kd < 256 ^ 1 := by omega
 obtain ⟨seq, kind, key, val, seg, off⟩ := r
 simp only at hkd
 subst hkd
 simp only at *
 refine ACall.fin ?_
 refine ACall.walk (C := cfg 57 0) (cfgOk _ _) sch85 (fn := Go.Proofs.Tryz.f85) (by kernel_rfl) (by kernel_rfl) rfl (by kernel_rfl) (by kernel_rfl) rfl rfl ?_
 refine goA ?_
 refine AFn.useA [] (recMay_ok _ hB) fun _ => ?_
 rw [decide_eq_true hM]
 refine goA ?_
 refine AWP.loop (X := { i : Nat // i ≤ 6 }) (fun x => [(1, .ptr 0 0), (4, .iv (.bs (numsK ⟨seq, kd, key, val, seg, off⟩ x.1))), (32, .agg [AV.int .u64 kd, AV.int .u64 key.length, AV.int .u64 val.length, AV.int .u64 seq, AV.int .u64 seg, AV.int .u64 off]), (33, AV.int .i64 x.1)]) (fun x => ⟨1, [(0, .cells 55 (recC ⟨seq, kd, key, val, seg, off⟩))]⟩) (fun x => 6 - x.1) (⟨0, Nat.zero_le _⟩) ?_ fun x => AWP.go (S := sch85) (cfgOk _ _) (.of_eq (by kernel_rfl)) ?_
 ·refine Ent.mk' [some 0] (by kernel_rfl) ⟨AVE.refl _, AVE.nilBs, AVE.refl _, AVE.refl _, trivial⟩ subC
 ·obtain ⟨i, hi⟩ := x
  have : i = 0 ∨ i = 1 ∨ i = 2 ∨ i = 3 ∨ i = 4 ∨ i = 5 ∨ i = 6 := by omega
  rcases this with rfl | rfl | rfl | rfl | rfl | rfl | rfl
  ·refine goA ?_
   refine AFn.useA [] (fixed_ok (numsK ⟨seq, kd, key, val, seg, off⟩ 0) kd 1 (by have := hl 0; omega) (by decide) hk2) fun _ => ?_
   refine goA ?_
   refine ⟨⟨1, by decide⟩, Ent.mkA [some 0], ?_⟩
   exact (by decide : 6 - 1 < 6 - 0)
  ·refine goA ?_
   refine AFn.useA [] (fixed_ok (numsK ⟨seq, kd, key, val, seg, off⟩ 1) key.length 1 (by have := hl 1; omega) (by decide) (by omega)) fun _ => ?_
   refine goA ?_
   refine ⟨⟨2, by decide⟩, Ent.mkA [some 0], ?_⟩
   exact (by decide : 6 - 2 < 6 - 1)
  ·refine goA ?_
   refine AFn.useA [] (fixed_ok (numsK ⟨seq, kd, key, val, seg, off⟩ 2) val.length 2 (by have := hl 2; omega) (by decide) (by omega)) fun _ => ?_
   refine goA ?_
   refine ⟨⟨3, by decide⟩, Ent.mkA [some 0], ?_⟩
   exact (by decide : 6 - 3 < 6 - 2)
  ·refine goA ?_
   refine AFn.useA [] (fixed_ok (numsK ⟨seq, kd, key, val, seg, off⟩ 3) seq 6 (by have := hl 3; omega) (by decide) hsq) fun _ => ?_
   refine goA ?_
   refine ⟨⟨4, by decide⟩, Ent.mkA [some 0], ?_⟩
   exact (by decide : 6 - 4 < 6 - 3)
  ·refine goA ?_
   refine AFn.useA [] (fixed_ok (numsK ⟨seq, kd, key, val, seg, off⟩ 4) seg 3 (by have := hl 4; omega) (by decide) hs) fun _ => ?_
   refine goA ?_
   refine ⟨⟨5, by decide⟩, Ent.mkA [some 0], ?_⟩
   exact (by decide : 6 - 5 < 6 - 4)
  ·refine goA ?_
   refine AFn.useA [] (fixed_ok (numsK ⟨seq, kd, key, val, seg, off⟩ 5) off 4 (by have := hl 5; omega) (by decide) ho) fun _ => ?_
   refine goA ?_
   refine ⟨⟨6, by decide⟩, Ent.mkA [some 0], ?_⟩
   exact (by decide : 6 - 6 < 6 - 5)
  ·have h17 : (numsK ⟨seq, kd, key, val, seg, off⟩ 6).length = 17 := nums_len _
   refine goA ?_
   refine AFn.useA [] (coverR_ok (numsK ⟨seq, kd, key, val, seg, off⟩ 6) (by omega)) fun _ => ?_
   have hcl : (cover (numsK ⟨seq, kd, key, val, seg, off⟩ 6)).length = 21 := by rw [cover_len, h17]
   refine goA ?_
   repeat' (refine And.intro ?_ ?_ <;> (refine goA ?_))
   all_goals
    refine ACall.freezeB 3 rfl [.iv (.bs (cover (numsK ⟨seq, kd, key, val, seg, off⟩ 6) ++ key ++ val))] ⟨AVF.bs (by simp [h17, hcl]) (by simp [h17]; exact take3 hcl _ _), rfl⟩ ?_
    refine AFn.useA [] (coverR_ok (cover (numsK ⟨seq, kd, key, val, seg, off⟩ 6) ++ key ++ val) (by simp [hcl]; omega)) fun _ => ?_
    refine goA ?_
    refine ⟨_, _, (Ent.freeze 4 _ rfl rfl (e' := [(0, .tup [.iv (.bs (Rec.enc ⟨seq, kd, key, val, seg, off⟩)), AV.int .i64 0])]) ⟨AVF.tup (AVF.bs (Nat.le_of_eq (cover_len _).symm) (by rw [List.take_of_length_le (Nat.le_of_eq (cover_len _))]; rfl)) (AVF.same ..), trivial⟩).trans (Ent.mk' (e' := [(0, .tup [.iv (.bs (Rec.enc ⟨seq, kd, key, val, seg, off⟩)), AV.int .i64 0])]) (H' := ⟨0, []⟩) [] (by kernel_rfl) ⟨AVE.refl _, trivial⟩ trivial), (), rfl, rfl⟩
end Go.Proofs.YtnkobcokjalmoaaGreatDoor.Ax

namespace Go.Proofs.YtnkobcokjalmoaaGreatDoor.Ax
open Go.RowKit
set_option maxRecDepth 100000
def toldO (i : Nat) : Nat := [0, 1, 2, 4, 10, 13, 17].getD i 0
def toldN (b : List UInt8) : List Nat := [unle (b.take 1), unle ((b.drop 1).take 1), unle ((b.drop 2).take 2), unle ((b.drop 4).take 6), unle ((b.drop 10).take 3), unle ((b.drop 13).take 4)]
def toldC (b : List UInt8) (i : Nat) : List AV := ((toldN b).take i).map (fun (n : Nat) => AV.int .u64 (n : Int)) ++ List.replicate (6 - i) (AV.int .u64 0)
def zeroC : List AV := [AV.int .u64 0, AV.int .i64 0, .iv (.v (.slice none 0 0)), .iv (.v (.slice none 0 0)), AV.int .u32 0, AV.int .u32 0]
theorem dropI (l : List UInt8) (k : Int) : List.take ((l.length : Int).toNat - k.toNat) (List.drop k.toNat l) = l.drop k.toNat := List.take_of_length_le (by simp)
theorem unle_take (b : List UInt8) (k : Nat) : unle (b.take k) < 256 ^ k := by
 have h := unle_lt (b.take k)
 rw [List.length_take] at h
 exact Nat.lt_of_lt_of_le h (Nat.pow_le_pow_right (by decide) (Nat.min_le_left _ _))
theorem wr32 {n k : Nat} (h : n < 256 ^ k) (hk : k ≤ 4 := by decide) : wrK .u32 (n : Int) = (n : Int) := by
 have : 256 ^ k ≤ 256 ^ 4 := Nat.pow_le_pow_right (by decide) hk
 have h4 : 256 ^ 4 = 4294967296 := by decide
 show (n : Int) % 4294967296 = n
 omega
theorem told_ok (b : List UInt8) (h21 : 21 ≤ b.length) (hb : b.length ≤ 9223372036854775807) : AFn Go.Proofs.Tryz.prog 153 [.iv (.bs b)] ⟨0, []⟩ (fun _ : Unit => .tup [.agg [AV.int .u64 (toldR b).seq, AV.int .i64 (toldR b).kind, .iv (.v (.slice none 0 0)), .iv (.v (.slice none 0 0)), AV.int .u32 (toldR b).seg, AV.int .u32 (toldR b).off], AV.int .i64 (toldR b).key.length, AV.int .i64 (toldR b).val.length]) (fun _ => ⟨0, []⟩) := by
 have u0 := unle_take b 1
 have u1 := unle_take (b.drop 1) 1
 have u2 := unle_take (b.drop 2) 2
 have u3 := unle_take (b.drop 4) 6
 have u4 := unle_take (b.drop 10) 3
 have u5 := unle_take (b.drop 13) 4
 have hl : ∀ o, (b.drop o).length = b.length - o := fun o => List.length_drop
 refine ACall.fin ?_
 refine ACall.walk (C := cfg 45 0) (cfgOk _ _) sch153 (fn := Go.Proofs.Tryz.f153) (by kernel_rfl) (by kernel_rfl) rfl (by kernel_rfl) (by kernel_rfl) rfl rfl ?_
 refine goA ?_
 refine AWP.loop (X := { i : Nat // i ≤ 6 }) (fun x => [(0, .iv (.bs (b.drop (toldO x.1)))), (2, .ptr 0 0), (5, .ptr 1 0), (8, .agg (sizesI.map AV.iv)), (9, AV.int .i64 x.1)]) (fun x => ⟨2, [(0, .cells 55 zeroC), (1, .cells 235 (toldC b x.1))]⟩) (fun x => 6 - x.1) (⟨0, Nat.zero_le _⟩) ?_ fun x => AWP.go (S := sch153) (cfgOk _ _) (.of_eq (by kernel_rfl)) ?_
 ·exact Ent.mkA [some 0, some 1]
 ·obtain ⟨i, hi⟩ := x
  have : i = 0 ∨ i = 1 ∨ i = 2 ∨ i = 3 ∨ i = 4 ∨ i = 5 ∨ i = 6 := by omega
  rcases this with rfl | rfl | rfl | rfl | rfl | rfl | rfl
  ·refine goA ?_
   refine AFn.useA [] (read_ok (b.drop 0) 1 (by rw [hl]; omega) (by decide) (by rw [hl]; omega)) fun _ => ?_
   refine goA ?_
   refine ⟨by rw [hl]; show (1 : Int) ≤ ((b.length - 0 : Nat) : Int); omega, ?_⟩
   refine goA ?_
   refine ⟨⟨1, by decide⟩, Ent.mk' [some 0, some 1] (by kernel_rfl) ⟨AVE.of_eq (congrArg (fun l => AV.iv (IV.bs l)) ((dropI (b.drop 0) 1).trans List.drop_drop)), AVE.refl _, AVE.refl _, AVE.refl _, AVE.refl _, trivial⟩ subC, (by decide : 6 - 1 < 6 - 0)⟩
  ·refine goA ?_
   refine AFn.useA [] (read_ok (b.drop 1) 1 (by rw [hl]; omega) (by decide) (by rw [hl]; omega)) fun _ => ?_
   refine goA ?_
   refine ⟨by rw [hl]; show (1 : Int) ≤ ((b.length - 1 : Nat) : Int); omega, ?_⟩
   refine goA ?_
   refine ⟨⟨2, by decide⟩, Ent.mk' [some 0, some 1] (by kernel_rfl) ⟨AVE.of_eq (congrArg (fun l => AV.iv (IV.bs l)) ((dropI (b.drop 1) 1).trans List.drop_drop)), AVE.refl _, AVE.refl _, AVE.refl _, AVE.refl _, trivial⟩ subC, (by decide : 6 - 2 < 6 - 1)⟩
  ·refine goA ?_
   refine AFn.useA [] (read_ok (b.drop 2) 2 (by rw [hl]; omega) (by decide) (by rw [hl]; omega)) fun _ => ?_
   refine goA ?_
   refine ⟨by rw [hl]; show (2 : Int) ≤ ((b.length - 2 : Nat) : Int); omega, ?_⟩
   refine goA ?_
   refine ⟨⟨3, by decide⟩, Ent.mk' [some 0, some 1] (by kernel_rfl) ⟨AVE.of_eq (congrArg (fun l => AV.iv (IV.bs l)) ((dropI (b.drop 2) 2).trans List.drop_drop)), AVE.refl _, AVE.refl _, AVE.refl _, AVE.refl _, trivial⟩ subC, (by decide : 6 - 3 < 6 - 2)⟩
  ·refine goA ?_
   refine AFn.useA [] (read_ok (b.drop 4) 6 (by rw [hl]; omega) (by decide) (by rw [hl]; omega)) fun _ => ?_
   refine goA ?_
   refine ⟨by rw [hl]; show (6 : Int) ≤ ((b.length - 4 : Nat) : Int); omega, ?_⟩
   refine goA ?_
   refine ⟨⟨4, by decide⟩, Ent.mk' [some 0, some 1] (by kernel_rfl) ⟨AVE.of_eq (congrArg (fun l => AV.iv (IV.bs l)) ((dropI (b.drop 4) 6).trans List.drop_drop)), AVE.refl _, AVE.refl _, AVE.refl _, AVE.refl _, trivial⟩ subC, (by decide : 6 - 4 < 6 - 3)⟩
  ·refine goA ?_
   refine AFn.useA [] (read_ok (b.drop 10) 3 (by rw [hl]; omega) (by decide) (by rw [hl]; omega)) fun _ => ?_
   refine goA ?_
   refine ⟨by rw [hl]; show (3 : Int) ≤ ((b.length - 10 : Nat) : Int); omega, ?_⟩
   refine goA ?_
   refine ⟨⟨5, by decide⟩, Ent.mk' [some 0, some 1] (by kernel_rfl) ⟨AVE.of_eq (congrArg (fun l => AV.iv (IV.bs l)) ((dropI (b.drop 10) 3).trans List.drop_drop)), AVE.refl _, AVE.refl _, AVE.refl _, AVE.refl _, trivial⟩ subC, (by decide : 6 - 5 < 6 - 4)⟩
  ·refine goA ?_
   refine AFn.useA [] (read_ok (b.drop 13) 4 (by rw [hl]; omega) (by decide) (by rw [hl]; omega)) fun _ => ?_
   refine goA ?_
   refine ⟨by rw [hl]; show (4 : Int) ≤ ((b.length - 13 : Nat) : Int); omega, ?_⟩
   refine goA ?_
   refine ⟨⟨6, by decide⟩, Ent.mk' [some 0, some 1] (by kernel_rfl) ⟨AVE.of_eq (congrArg (fun l => AV.iv (IV.bs l)) ((dropI (b.drop 13) 4).trans List.drop_drop)), AVE.refl _, AVE.refl _, AVE.refl _, AVE.refl _, trivial⟩ subC, (by decide : 6 - 6 < 6 - 5)⟩
  ·refine goA ?_
   repeat' (refine And.intro ?_ ?_ <;> (refine goA ?_))
   all_goals
    rw [wr32 u4, wr32 u5]
    refine ⟨_, _, Ent.mk' (e' := [(0, .tup [.agg [AV.int .u64 (toldR b).seq, AV.int .i64 (toldR b).kind, .iv (.v (.slice none 0 0)), .iv (.v (.slice none 0 0)), AV.int .u32 (toldR b).seg, AV.int .u32 (toldR b).off], AV.int .i64 (toldR b).key.length, AV.int .i64 (toldR b).val.length])]) (H' := ⟨0, []⟩) [] (by kernel_rfl) ⟨AVE.of_eq ?_, trivial⟩ trivial, (), rfl, rfl⟩
    simp only [toldR, List.length_replicate]
    rfl
theorem AVE.aggE {xs ys : List AV} (h : cellsE xs ys) : AVE (.agg xs) (.agg ys) := ⟨fun ρ ι v hr => by
 simp only [AV.R] at hr ⊢
 obtain ⟨vs, e, r⟩ := hr
 exact ⟨vs, e, argsE_run h r⟩⟩
theorem recZ (x y : AV) : AVE (.tup [.agg zeroC, x, y]) (.tup [recA default, x, y]) := AVE.tupE ⟨AVE.aggE ⟨AVE.refl _, AVE.refl _, AVE.nilBs, AVE.nilBs, AVE.refl _, AVE.refl _, rfl⟩, AVE.refl _, AVE.refl _, rfl⟩
def getA (g : Rec × Nat × Nat) : AV := .tup [recA g.1, AV.int .i64 g.2.1, AV.int .i64 g.2.2]
theorem fails_ok (size e : Int) : AFn Go.Proofs.Tryz.prog 151 [AV.int .i64 size, AV.int .i64 e] ⟨0, []⟩ (fun _ : Unit => .tup [.agg zeroC, AV.int .i64 size, AV.int .i64 e]) (fun _ => ⟨0, []⟩) := by
 refine ACall.fin ?_
 refine ACall.walk (C := cfg 10 0) (cfgOk _ _) [] (fn := Go.Proofs.Tryz.f151) (by kernel_rfl) (by kernel_rfl) rfl (by kernel_rfl) (by kernel_rfl) rfl rfl ?_
 refine goA ?_
 refine ⟨_, _, Ent.mk' (e' := [(0, .tup [.agg zeroC, AV.int .i64 size, AV.int .i64 e])]) (H' := ⟨0, []⟩) [] (by kernel_rfl) ?_ ?_, (), rfl, rfl⟩
 ·exact ⟨AVE.refl _, trivial⟩
 ·trivial
theorem browFree (e : TypeId) (l : List UInt8) : (Chunk.brow e l).Free := fun _ _ _ _ _ _ _ _ h => h
def recW (r : Rec) : AV := .agg [AV.int .u64 r.seq, AV.int .i64 r.kind, .row 0 1 0 r.key.length, .row 1 1 0 r.val.length, AV.int .u32 r.seg, AV.int .u32 r.off]
theorem recMayW_ok (r : Rec) (h : r.B) : AFn Go.Proofs.Tryz.prog 70 [recW r] ⟨2, [(0, .brow 5 r.key), (1, .brow 5 r.val)]⟩ (fun _ : Unit => AV.bool (decide r.May)) (fun _ => ⟨2, [(0, .brow 5 r.key), (1, .brow 5 r.val)]⟩) := by
 refine ACall.lendB [.agg [AV.int .u64 r.seq, AV.int .i64 r.kind, .row 0 1 0 r.key.length, .iv (.bs r.val), AV.int .u32 r.seg, AV.int .u32 r.off]] 1 rfl ⟨AVF.agg ⟨AVF.same .., AVF.same .., AVF.same .., AVF.bs (Nat.le_refl _) List.take_length.symm, AVF.same .., AVF.same .., rfl⟩, rfl⟩ ?_
 refine ACall.lendB [recA r] 0 rfl ⟨AVF.agg ⟨AVF.same .., AVF.same .., AVF.bs (Nat.le_refl _) List.take_length.symm, AVF.same .., AVF.same .., AVF.same .., rfl⟩, rfl⟩ ?_
 refine AFn.useA [] (recMay_ok r h) fun _ => ?_
 exact ⟨.iv (.v _), trivial, rfl, .iv (.v _), ⟨⟨browFree _ _, rfl, trivial⟩, trivial⟩, rfl, (), rfl, rfl⟩
theorem recSizeW_ok (r : Rec) (h : r.B) : AFn Go.Proofs.Tryz.prog 84 [recW r] ⟨2, [(0, .brow 5 r.key), (1, .brow 5 r.val)]⟩ (fun _ : Unit => AV.int .i64 r.size) (fun _ => ⟨2, [(0, .brow 5 r.key), (1, .brow 5 r.val)]⟩) := by
 refine ACall.lendB [.agg [AV.int .u64 r.seq, AV.int .i64 r.kind, .row 0 1 0 r.key.length, .iv (.bs r.val), AV.int .u32 r.seg, AV.int .u32 r.off]] 1 rfl ⟨AVF.agg ⟨AVF.same .., AVF.same .., AVF.same .., AVF.bs (Nat.le_refl _) List.take_length.symm, AVF.same .., AVF.same .., rfl⟩, rfl⟩ ?_
 refine ACall.lendB [recA r] 0 rfl ⟨AVF.agg ⟨AVF.same .., AVF.same .., AVF.bs (Nat.le_refl _) List.take_length.symm, AVF.same .., AVF.same .., AVF.same .., rfl⟩, rfl⟩ ?_
 refine AFn.useA [] (recSize_ok r h) fun _ => ?_
 exact ⟨.iv (.v _), trivial, rfl, .iv (.v _), ⟨⟨browFree _ _, rfl, trivial⟩, trivial⟩, rfl, (), rfl, rfl⟩
theorem copied (x k : List UInt8) (h : k.length ≤ x.length) : List.take k.length x ++ List.drop (min x.length k.length) k = List.take k.length x := by
 rw [Nat.min_eq_right h, List.drop_length, List.append_nil]
noncomputable def cfgX8 (N b : Nat) : Cfg := cfgX [1008] N b
theorem cfgX8Ok (N b : Nat) : (cfgX8 N b).Ok := cfgXOk _ _ _
theorem recGet_ok (b : List UInt8) (hb : b.length ≤ 1000000000) : AFn Go.Proofs.Tryz.prog 79 [.iv (.bs b)] ⟨0, []⟩ (fun _ : Unit => getA (getR b)) (fun _ => ⟨0, []⟩) := by
 refine ACall.fin ?_
 refine ACall.walk (C := cfgX8 87 0) (cfgX8Ok _ _) sch79 (fn := Go.Proofs.Tryz.f79) (by kernel_rfl) (by kernel_rfl) rfl (by kernel_rfl) (by kernel_rfl) rfl rfl ?_
 refine goA ?_
 by_cases h21 : b.length < 21
 ·rw [decide_eq_true (show (b.length : Int) < 21 by omega)]
  have e : getR b = (default, 0, 22) := by unfold getR; rw [if_pos h21]
  rw [e]
  refine goA ?_
  refine AFn.useA [] (fails_ok 0 22) fun _ => ?_
  refine goA ?_
  refine ⟨_, _, Ent.mk' (e' := [(0, getA (default, 0, 22))]) (H' := ⟨0, []⟩) [] (by kernel_rfl) ?_ ?_, (), rfl, rfl⟩
  ·exact ⟨recZ _ _, trivial⟩
  ·trivial
 rw [decide_eq_false (show ¬ (b.length : Int) < 21 by omega)]
 refine goA ?_
 rw [show List.take (Int.toNat 21 - Int.toNat 0) (List.drop (Int.toNat 0) b) = b.take 21 from rfl]
 refine AFn.useA [] (right_ok (b.take 21) (by simp; omega)) fun _ => ?_
 cases hr : right (b.take 21) with
 | false =>
   have e : getR b = (default, 0, 23) := by unfold getR; rw [if_neg h21, if_pos hr]
   rw [e]
   refine goA ?_
   refine AFn.useA [] (fails_ok 0 23) fun _ => ?_
   refine goA ?_
   refine ⟨_, _, Ent.mk' (e' := [(0, getA (default, 0, 23))]) (H' := ⟨0, []⟩) [] (by kernel_rfl) ?_ ?_, (), rfl, rfl⟩
   ·exact ⟨recZ _ _, trivial⟩
   ·trivial
 | true =>
   have htold := told_ok b (by omega) (by omega)
   have hr' : ¬ right (b.take 21) = false := by rw [hr]; decide
   have g1 : ¬ (toldR b).May → getR b = (default, 0, 23) := fun h => by unfold getR; rw [if_neg h21, if_neg hr', if_pos h]
   have g2 : (toldR b).May → b.length < (toldR b).size → getR b = (default, 0, 22) := fun h h2 => by unfold getR; rw [if_neg h21, if_neg hr', if_neg (not_not_intro h), if_pos h2]
   have g3 : (toldR b).May → ¬ b.length < (toldR b).size → right (b.take (toldR b).size) = false → getR b = (default, (toldR b).size, 23) := fun h h2 h3 => by unfold getR; rw [if_neg h21, if_neg hr', if_neg (not_not_intro h), if_neg h2, if_pos h3]
   have g4 : (toldR b).May → ¬ b.length < (toldR b).size → right (b.take (toldR b).size) = true → getR b = ({ toldR b with key := (b.drop 21).take (toldR b).key.length, val := (b.drop (21 + (toldR b).key.length)).take (toldR b).val.length }, (toldR b).size, 0) := fun h h2 h3 => by unfold getR; rw [if_neg h21, if_neg hr', if_neg (not_not_intro h), if_neg h2, if_neg (by rw [h3]; decide)]
   have k1 : (toldR b).key = List.replicate (toldR b).key.length 0 := by simp [toldR]
   have k2 : (toldR b).val = List.replicate (toldR b).val.length 0 := by simp [toldR]
   have k3 : (toldR b).key.length ≤ 255 := by have := unle_take (b.drop 1) 1; simp only [toldR, List.length_replicate]; omega
   have k4 : (toldR b).val.length ≤ 65535 := by have := unle_take (b.drop 2) 2; simp only [toldR, List.length_replicate]; omega
   generalize toldR b = r at *
   have hB : r.B := ⟨by omega, by omega⟩
   refine goA ?_
   refine AFn.useA [] (htold) fun _ => ?_
   apply AWP.ahead (C := cfgX8 87 0) ([(0, .iv (.bs b)), (2, .ptr 0 0), (5, .iv (.v (.func (.func 151) #[] #[]))), (6, .ptr 1 0), (7, AV.int .i64 r.key.length), (8, AV.int .i64 r.val.length)]) (⟨4, [(0, .cells 55 zeroC), (1, .cells 55 [AV.int .u64 r.seq, AV.int .i64 r.kind, .row 2 1 0 r.key.length, .row 3 1 0 r.val.length, AV.int .u32 r.seg, AV.int .u32 r.off]), (2, .brow 5 r.key), (3, .brow 5 r.val)]⟩)
   ·intro key
    refine goA ?_
    repeat' (refine And.intro ?_ ?_ <;> (refine goA ?_))
    all_goals
     refine AWP.of_ent ?_ key
     first
     | exact Ent.mk' [some 0, some 1, some 2, some 3] (by kernel_rfl) ⟨AVE.refl _, AVE.refl _, AVE.refl _, AVE.refl _, AVE.refl _, AVE.refl _, trivial⟩ ⟨⟨_, rfl, ChE.refl _⟩, ⟨_, rfl, ChE.refl _⟩, ⟨_, rfl, ChE.brow k1.symm⟩, ⟨_, rfl, ChE.brow k2.symm⟩, trivial⟩
     | exact Ent.mk' [some 0, some 1, some 3, some 2] (by kernel_rfl) ⟨AVE.refl _, AVE.refl _, AVE.refl _, AVE.refl _, AVE.refl _, AVE.refl _, trivial⟩ ⟨⟨_, rfl, ChE.refl _⟩, ⟨_, rfl, ChE.refl _⟩, ⟨_, rfl, ChE.brow k1.symm⟩, ⟨_, rfl, ChE.brow k2.symm⟩, trivial⟩
   refine AWP.reg (cfgX8Ok _ _) ?_
   refine goA ?_
   refine AFn.useA [2, 3] (recMayW_ok r hB) fun _ => ?_
   by_cases hm : r.May
   ·rw [decide_eq_true hm]
    refine goA ?_
    refine AFn.useA [2, 3] (recSizeW_ok r hB) fun _ => ?_
    refine goA ?_
    by_cases hs : b.length < r.size
    ·rw [decide_eq_true (show (b.length : Int) < (r.size : Int) by omega), g2 hm hs]
     refine goA ?_
     refine AFn.useA [] (fails_ok 0 22) fun _ => ?_
     refine goA ?_
     refine ⟨_, _, Ent.mk' (e' := [(0, getA (default, 0, 22))]) (H' := ⟨0, []⟩) [] (by kernel_rfl) ?_ ?_, (), rfl, rfl⟩
     ·exact ⟨recZ _ _, trivial⟩
     ·trivial
    rw [decide_eq_false (show ¬ (b.length : Int) < (r.size : Int) by omega)]
    refine goA ?_
    rw [show List.take ((r.size : Int).toNat - Int.toNat 0) (List.drop (Int.toNat 0) b) = b.take r.size from rfl]
    refine AFn.useA [] (right_ok (b.take r.size) (by simp; omega)) fun _ => ?_
    cases hr2 : right (b.take r.size) with
    | false =>
      rw [g3 hm hs hr2]
      refine goA ?_
      refine AFn.useA [] (fails_ok r.size 23) fun _ => ?_
      refine goA ?_
      refine ⟨_, _, Ent.mk' (e' := [(0, getA (default, r.size, 23))]) (H' := ⟨0, []⟩) [] (by kernel_rfl) ?_ ?_, (), rfl, rfl⟩
      ·exact ⟨recZ _ _, trivial⟩
      ·trivial
    | true =>
      have hsz : 25 + r.key.length + r.val.length ≤ b.length := by unfold Rec.size at hs; omega
      rw [g4 hm hs hr2]
      refine goA ?_
      have d1 : List.take ((b.length : Int).toNat - Int.toNat 21) (List.drop (Int.toNat 21) b) = b.drop 21 := dropI b 21
      have d2 : List.take ((b.length : Int).toNat - ((21 : Int) + (r.key.length : Int)).toNat) (List.drop ((21 : Int) + (r.key.length : Int)).toNat b) = b.drop (21 + r.key.length) := by
       rw [dropI, show ((21 : Int) + (r.key.length : Int)).toNat = 21 + r.key.length by omega]
      rw [d1, d2, copied _ _ (by rw [List.length_drop]; omega), copied _ _ (by rw [List.length_drop]; omega)]
      have l1 : ((b.drop 21).take r.key.length).length = r.key.length := by simp; omega
      have l2 : ((b.drop (21 + r.key.length)).take r.val.length).length = r.val.length := by simp; omega
      exact ⟨_, _, (Ent.freeze 2 _ rfl rfl (e' := [(0, .tup [.agg [AV.int .u64 r.seq, AV.int .i64 r.kind, .iv (.bs ((b.drop 21).take r.key.length)), .row 3 1 0 r.val.length, AV.int .u32 r.seg, AV.int .u32 r.off], AV.int .i64 r.size, AV.int .i64 0])]) ⟨AVF.tups (by exact ⟨AVF.agg (by exact ⟨AVF.same .., AVF.same .., AVF.bs (Nat.le_of_eq l1.symm) (by rw [List.take_take, Nat.min_self]), AVF.same .., AVF.same .., AVF.same .., rfl⟩), AVF.same .., AVF.same .., rfl⟩), trivial⟩).trans
       ((Ent.freeze 3 _ rfl rfl (e' := [(0, .tup [.agg [AV.int .u64 r.seq, AV.int .i64 r.kind, .iv (.bs ((b.drop 21).take r.key.length)), .iv (.bs ((b.drop (21 + r.key.length)).take r.val.length)), AV.int .u32 r.seg, AV.int .u32 r.off], AV.int .i64 r.size, AV.int .i64 0])]) ⟨AVF.tups (by exact ⟨AVF.agg (by exact ⟨AVF.same .., AVF.same .., AVF.same .., AVF.bs (Nat.le_of_eq l2.symm) (by rw [List.take_take, Nat.min_self]), AVF.same .., AVF.same .., rfl⟩), AVF.same .., AVF.same .., rfl⟩), trivial⟩).trans
       (Ent.mk' (H' := ⟨0, []⟩) [] (by kernel_rfl) ⟨AVE.refl _, trivial⟩ trivial)), (), rfl, rfl⟩
   ·rw [decide_eq_false hm, g1 hm]
    refine goA ?_
    refine AFn.useA [] (fails_ok 0 23) fun _ => ?_
    refine goA ?_
    refine ⟨_, _, Ent.mk' (e' := [(0, getA (default, 0, 23))]) (H' := ⟨0, []⟩) [] (by kernel_rfl) ?_ ?_, (), rfl, rfl⟩
    ·exact ⟨recZ _ _, trivial⟩
    ·trivial
end Go.Proofs.YtnkobcokjalmoaaGreatDoor.Ax

namespace Go.Proofs.YtnkobcokjalmoaaGreatDoor.Ax
open Go.RowKit
set_option maxRecDepth 100000
theorem headMay_ok (k n : Nat) : AFn Go.Proofs.Tryz.prog 204 [AV.int .i64 k, AV.int .u32 n] ⟨0, []⟩ (fun _ : Unit => AV.bool (decide (HMay k n))) (fun _ => ⟨0, []⟩) := by
 refine ACall.fin ?_
 refine ACall.walk (C := cfg 23 0) (cfgOk _ _) [] (fn := Go.Proofs.Tryz.f204) (by kernel_rfl) (by kernel_rfl) rfl (by kernel_rfl) (by kernel_rfl) rfl rfl ?_
 refine goA ?_
 repeat' (refine ifdA (fun q => ?_) (fun q => ?_) <;> (try dsimp only at q) <;> (refine goA ?_))
 all_goals
  refine ⟨_, _, Ent.mk' (e' := [(0, AV.bool (decide (HMay k n)))]) (H' := ⟨0, []⟩) [] (by kernel_rfl) ⟨AVE.bool ?_, trivial⟩ trivial, (), rfl, rfl⟩
  first | (rw [decide_eq_decide]; unfold HMay; omega) | (rw [eq_comm, decide_eq_false_iff_not]; unfold HMay; omega) | (rw [eq_comm, decide_eq_true_iff]; unfold HMay; omega)
theorem headPut_no {k n : Nat} (h : ¬ HMay k n) : AFn Go.Proofs.Tryz.prog 137 [AV.int .i64 k, AV.int .u32 n] ⟨0, []⟩ (fun _ : Unit => .tup [.iv (.bs []), AV.int .i64 1]) (fun _ => ⟨0, []⟩) := by
 refine ACall.fin ?_
 refine ACall.walk (C := cfg 26 0) (cfgOk _ _) [] (fn := Go.Proofs.Tryz.f137) (by kernel_rfl) (by kernel_rfl) rfl (by kernel_rfl) (by kernel_rfl) rfl rfl ?_
 refine goA ?_
 refine AFn.useA [] (headMay_ok k n) fun _ => ?_
 rw [decide_eq_false h]
 refine goA ?_
 refine ⟨_, _, Ent.mk' (e' := [(0, .tup [.iv (.bs []), AV.int .i64 1])]) (H' := ⟨0, []⟩) [] (by kernel_rfl) ?_ ?_, (), rfl, rfl⟩
 ·exact ⟨AVE.tupE ⟨AVE.nilBs, AVE.refl _, rfl⟩, trivial⟩
 ·trivial
theorem headPut_ok {k n : Nat} (h : HMay k n) : AFn Go.Proofs.Tryz.prog 137 [AV.int .i64 k, AV.int .u32 n] ⟨0, []⟩ (fun _ : Unit => .tup [.iv (.bs (headB k n)), AV.int .i64 0]) (fun _ => ⟨0, []⟩) := by
 obtain ⟨h1, h2⟩ := h.lt
 refine ACall.fin ?_
 refine ACall.walk (C := cfg 26 0) (cfgOk _ _) [] (fn := Go.Proofs.Tryz.f137) (by kernel_rfl) (by kernel_rfl) rfl (by kernel_rfl) (by kernel_rfl) rfl rfl ?_
 refine goA ?_
 refine AFn.useA [] (headMay_ok k n) fun _ => ?_
 rw [decide_eq_true h]
 refine goA ?_
 have hw : wrK .u8 (k : Int) = (k : Int) := by
  show (k : Int) % 256 = k
  omega
 rw [hw]
 refine goA ?_
 refine ACall.freezeB 2 rfl [.iv (.bs (lettersB ++ [UInt8.ofNat k])), AV.int .u64 n, AV.int .i64 4] ⟨AVF.bs (Nat.le_refl 8) rfl, AVF.same .., AVF.same .., rfl⟩ ?_
 refine AFn.useA [] (fixed_ok (lettersB ++ [UInt8.ofNat k]) n 4 (by simp [lettersB]) (by decide) (by omega)) fun _ => ?_
 refine goA ?_
 refine AFn.useA [] (coverR_ok (lettersB ++ [UInt8.ofNat k] ++ le n 4) (by simp [lettersB, le_len])) fun _ => ?_
 refine goA ?_
 exact ⟨_, _, (Ent.freeze 3 _ rfl rfl (e' := [(0, .tup [.iv (.bs (headB k n)), AV.int .i64 0])]) ⟨AVF.tup (AVF.bs (Nat.le_of_eq (cover_len _).symm) (List.take_of_length_le (Nat.le_of_eq (cover_len _))).symm) (AVF.same ..), trivial⟩).trans (Ent.mk' (e' := [(0, .tup [.iv (.bs (headB k n)), AV.int .i64 0])]) (H' := ⟨0, []⟩) [] (by kernel_rfl) ⟨AVE.refl _, trivial⟩ trivial), (), rfl, rfl⟩
theorem take_map (X : List UInt8) (n : Nat) (h : n ≤ X.length) : X.take n = (List.range n).map fun i => X.getD i 0 := by
 apply List.ext_getElem
 ·simp [h]
 ·intro i h1 h2
  simp [List.getD, show i < X.length by simp at h1; omega]
theorem bytes_eq (X Y : List UInt8) (n : Nat) (hX : n ≤ X.length) (hY : n ≤ Y.length) : ((List.range n).map (fun i => ((X.getD i 0).toNat : Int)) = (List.range n).map fun i => ((Y.getD i 0).toNat : Int)) ↔ X.take n = Y.take n := by
 have e : ∀ Z : List UInt8, (List.range n).map (fun i => ((Z.getD i 0).toNat : Int)) = ((List.range n).map fun i => Z.getD i 0).map fun c => (c.toNat : Int) := fun Z => by rw [List.map_map]; rfl
 rw [e, e, ← take_map X n hX, ← take_map Y n hY]
 exact List.map_inj_right fun x y h => by rw [← UInt8.toNat_inj]; omega
theorem headGet1_ok (b : List UInt8) (h16 : 16 ≤ b.length) (k n : Nat) : AFn Go.Proofs.Tryz.prog 260 [.iv (.pp [.v (.int .i64 k)]), .iv (.pp [.v (.int .u32 n)]), .iv (.pp [.bs b])] ⟨0, []⟩ (fun _ : Unit => AV.bool (decide (HMay k n ∧ headB k n = b.take 16))) (fun _ => ⟨0, []⟩) := by
 refine ACall.fin ?_
 refine ACall.walk (C := cfg 23 0) (cfgOk _ _) sch260 (fn := Go.Proofs.Tryz.f260) (by kernel_rfl) (by kernel_rfl) rfl (by kernel_rfl) (by kernel_rfl) rfl rfl ?_
 refine goA ?_
 have hl := headB_len k n
 by_cases hm : HMay k n
 ·refine AFn.useA [] (headPut_ok hm) fun _ => ?_
  refine goA ?_
  repeat' (refine And.intro ?_ ?_ <;> (refine goA ?_))
  have hb := bytes_eq (headB k n) b 16 (by omega) h16
  rw [List.take_of_length_le (by omega)] at hb
  refine ⟨_, _, Ent.mk' (e' := [(0, AV.bool (decide (HMay k n ∧ headB k n = b.take 16)))]) (H' := ⟨0, []⟩) [] (by kernel_rfl) ⟨AVE.bool ?_, trivial⟩ trivial, (), rfl, rfl⟩
  rw [decide_eq_decide]
  exact hb.trans ⟨fun h => ⟨hm, h⟩, fun h => h.2⟩
 ·refine AFn.useA [] (headPut_no hm) fun _ => ?_
  refine goA ?_
  refine ⟨_, _, Ent.mk' (e' := [(0, AV.bool (decide (HMay k n ∧ headB k n = b.take 16)))]) (H' := ⟨0, []⟩) [] (by kernel_rfl) ⟨AVE.bool ?_, trivial⟩ trivial, (), rfl, rfl⟩
  rw [eq_comm, decide_eq_false_iff_not]
  exact fun h => hm h.1
noncomputable def cfgX5 (N b : Nat) : Cfg := { P := Go.Proofs.Tryz.prog, T := tt, wr := false, N := N, pure := [], base := b, frz := frzF, cuts := [1005] }
theorem cfgX5Ok (N b : Nat) : (cfgX5 N b).Ok := ⟨ttOk, ttBytes, by kernel_rfl⟩
theorem headGet_ok (b : List UInt8) (hb : b.length ≤ 1000000000) : AFn Go.Proofs.Tryz.prog 213 [.iv (.bs b)] ⟨0, []⟩ (fun _ : Unit => .tup [AV.int .i64 (getH b).1, AV.int .u32 (getH b).2.1, AV.int .i64 (getH b).2.2]) (fun _ => ⟨0, []⟩) := by
 refine ACall.fin ?_
 refine ACall.walk (C := cfgX5 31 0) (cfgX5Ok _ _) sch213 (fn := Go.Proofs.Tryz.f213) (by kernel_rfl) (by kernel_rfl) rfl (by kernel_rfl) (by kernel_rfl) rfl rfl ?_
 refine goA ?_
 by_cases h16 : b.length < 16
 ·rw [decide_eq_true (show (b.length : Int) < 16 by omega)]
  have e : getH b = (0, 0, 22) := by unfold getH; rw [if_pos h16]
  rw [e]
  refine goA ?_
  refine ⟨_, _, Ent.mk' (e' := [(0, .tup [AV.int .i64 0, AV.int .u32 0, AV.int .i64 22])]) (H' := ⟨0, []⟩) [] (by kernel_rfl) ?_ ?_, (), rfl, rfl⟩
  ·exact ⟨AVE.refl _, trivial⟩
  ·trivial
 rw [decide_eq_false (show ¬ (b.length : Int) < 16 by omega)]
 have hu := unle_take (b.drop 8) 4
 have hc : (b.getD 7 0).toNat ≤ 255 := Nat.le_of_lt_succ (b.getD 7 0).toNat_lt
 have e : getH b = if HMay (b.getD 7 0).toNat (unle ((b.drop 8).take 4)) ∧ headB (b.getD 7 0).toNat (unle ((b.drop 8).take 4)) = b.take 16 then ((b.getD 7 0).toNat, unle ((b.drop 8).take 4), 0) else (0, 0, 23) := by
  unfold getH
  rw [if_neg h16]
 have h1 := headGet1_ok b (by omega) (b.getD 7 0).toNat (unle ((b.drop 8).take 4))
 have hr := read_ok (b.drop 8) 4 (by simp; omega) (by decide) (by simp; omega)
 generalize hk : (b.getD 7 0).toNat = k at *
 generalize unle ((b.drop 8).take 4) = n at *
 refine goA ?_
 rw [show List.take ((b.length : Int).toNat - Int.toNat 8) (List.drop (Int.toNat 8) b) = b.drop 8 from dropI b 8]
 refine AFn.useA [] (hr) fun _ => ?_
 refine goA ?_
 rw [show b.getD (Int.toNat 7) 0 = b.getD 7 0 from rfl, hk]
 refine goA ?_
 rw [wr32 hu]
 refine AWP.of_ent (Ent.freezeC 0 [.bs b] rfl rfl (e' := [(1, .iv (.pp [.bs b])), (7, .ptr 1 0), (8, .ptr 2 0)]) ⟨AVC.here _ _, AVC.same _ _ _, AVC.same _ _ _, trivial⟩) ?_
 refine AWP.of_ent (Ent.freezeC 1 [.v (.int .i64 k)] rfl rfl (e' := [(1, .iv (.pp [.bs b])), (7, .iv (.pp [.v (.int .i64 k)])), (8, .ptr 2 0)]) ⟨AVC.same _ _ _, AVC.here _ _, AVC.same _ _ _, trivial⟩) ?_
 refine AWP.of_ent (Ent.freezeC 2 [.v (.int .u32 n)] rfl rfl (e' := [(1, .iv (.pp [.bs b])), (7, .iv (.pp [.v (.int .i64 k)])), (8, .iv (.pp [.v (.int .u32 n)]))]) ⟨AVC.same _ _ _, AVC.same _ _ _, AVC.here _ _, trivial⟩) ?_
 refine AWP.reg (cfgX5Ok _ _) ?_
 refine goA ?_
 refine AFn.useA [] (h1) fun _ => ?_
 rw [e]
 by_cases h : HMay k n ∧ headB k n = b.take 16
 ·rw [decide_eq_true h, if_pos h]
  refine goA ?_
  repeat' (refine And.intro ?_ ?_ <;> (refine goA ?_))
  all_goals
   refine ⟨_, _, Ent.mk' (e' := [(0, .tup [AV.int .i64 k, AV.int .u32 n, AV.int .i64 0])]) (H' := ⟨0, []⟩) [] (by kernel_rfl) ?_ ?_, (), rfl, rfl⟩
   ·exact ⟨AVE.refl _, trivial⟩
   ·trivial
 ·rw [decide_eq_false h, if_neg h]
  refine goA ?_
  refine ⟨_, _, Ent.mk' (e' := [(0, .tup [AV.int .i64 0, AV.int .u32 0, AV.int .i64 23])]) (H' := ⟨0, []⟩) [] (by kernel_rfl) ?_ ?_, (), rfl, rfl⟩
  ·exact ⟨AVE.refl _, trivial⟩
  ·trivial
theorem headCheck_ok (b : List UInt8) (hb : b.length ≤ 1000000000) (k n : Nat) : AFn Go.Proofs.Tryz.prog 149 [.iv (.bs b), AV.int .i64 k, AV.int .u32 n] ⟨0, []⟩ (fun _ : Unit => AV.int .i64 (checkH b k n)) (fun _ => ⟨0, []⟩) := by
 refine ACall.fin ?_
 refine ACall.walk (C := cfg 29 0) (cfgOk _ _) [] (fn := Go.Proofs.Tryz.f149) (by kernel_rfl) (by kernel_rfl) rfl (by kernel_rfl) (by kernel_rfl) rfl rfl ?_
 refine goA ?_
 refine AFn.useA [] (headGet_ok b hb) fun _ => ?_
 have e : checkH b k n = if (getH b).2.2 = 0 ∧ ((getH b).1 ≠ k ∨ (getH b).2.1 ≠ n) then 23 else (getH b).2.2 := rfl
 generalize checkH b k n = c at *
 generalize getH b = g at *
 refine goA ?_
 repeat' (refine ifdA (fun q => ?_) (fun q => ?_) <;> (try dsimp only at q) <;> (refine goA ?_))
 all_goals
  refine ⟨_, _, Ent.mk' (e' := [(0, AV.int .i64 c)]) (H' := ⟨0, []⟩) [] (by kernel_rfl) ⟨AVE.int ?_, trivial⟩ trivial, (), rfl, rfl⟩
  rw [e]
  first | (rw [if_pos (by omega)]; rfl) | rw [if_neg (by omega)]
end Go.Proofs.YtnkobcokjalmoaaGreatDoor.Ax

namespace Go.Proofs.YtnkobcokjalmoaaGreatDoor.Ax
open Go.RowKit
set_option maxRecDepth 100000
def u32I (n : Nat) : IV := .v (.int .u32 (n : Int))
def u64I (n : Nat) : IV := .v (.int .u64 (n : Int))
def i64I (n : Int) : IV := .v (.int .i64 n)
def recI (r : Rec) : List IV := [u64I r.seq, i64I r.kind, .bs r.key, .bs r.val, u32I r.seg, u32I r.off]
def fndI (id : Nat) (f : Fnd) : List IV := [u32I id, u32I f.off, i64I f.size, u64I f.r.seq, i64I f.r.kind, .bs f.r.key, .bs f.r.val, u32I f.r.seg, u32I f.r.off]
def fndF (id : Nat) (l : List Fnd) (i : Nat) : List IV := fndI id (l.getD i default)
def pasF (l : List Nat) (i : Nat) : List IV := [i64I (l.getD i 0 : Nat)]
@[reducible] def scH (id : Nat) (s : SC) : AH := ⟨3, [(0, .cells 48 [AV.int .u32 id, .row 1 9 0 s.found.length, .row 2 1 0 s.passed.length, AV.int .i64 s.end_, AV.int .i64 s.why]), (1, .rowc 60 9 s.found.length (fndF id s.found)), (2, .rowc 3 1 s.passed.length (pasF s.passed))]⟩
theorem lastR_ok (id : Nat) (s : SC) (hs : s.found.length ≤ 100000000) : AFn Go.Proofs.Tryz.prog 78 [.ptr 0 0] (scH id s) (fun _ : Unit => AV.int .u64 s.last) (fun _ => scH id s) := by
 refine ACall.fin ?_
 refine ACall.walk (C := cfg 23 3) (cfgOk _ _) sch78 (fn := Go.Proofs.Tryz.f78) (by kernel_rfl) (by kernel_rfl) rfl (by kernel_rfl) (by kernel_rfl) rfl rfl ?_
 refine goA ?_
 refine ifdA (fun h => ?_) (fun h => ?_) <;> (try dsimp only at h)
 ·have e : s.last = 0 := by
   have : s.found = [] := List.eq_nil_of_length_eq_zero (by omega)
   simp [SC.last, this]
   rfl
  rw [e]
  refine goA ?_
  refine ⟨_, _, Ent.mk' (e' := [(0, AV.int .u64 0)]) (H' := scH id s) [some 0, some 1, some 2] (by kernel_rfl) ?_ ?_, (), rfl, rfl⟩
  ·exact ⟨AVE.refl _, trivial⟩
  ·exact subC
 ·refine goA ?_
  repeat' (refine And.intro ?_ ?_ <;> (refine goA ?_))
  refine ⟨_, _, Ent.mk' (e' := [(0, AV.int .u64 s.last)]) (H' := scH id s) [some 0, some 1, some 2] (by kernel_rfl) ⟨AVE.int ?_, trivial⟩ subC, (), rfl, rfl⟩
  unfold SC.last
  rw [show 0 + ((s.found.length : Int) - 1).toNat = s.found.length - 1 by omega]
theorem fnd_push {e id : Nat} {l : List Fnd} {f : Fnd} {g : Nat → List IV} (hg : g 0 = fndI id f) : ChE (.rowc e 9 (l.length + 1) fun j => if j < l.length then fndF id l j else g (j - l.length)) (.rowc e 9 (l.length + 1) (fndF id (l ++ [f]))) := by
 refine ChE.row (Nat.le_refl _) fun j hj => ?_
 by_cases h : j < l.length
 ·simp only [if_pos h]
  unfold fndF
  simp [List.getD, List.getElem?_append_left, h]
 ·have : j = l.length := by omega
  subst this
  simp only [if_neg h, Nat.sub_self]
  rw [hg]
  simp [fndF, List.getD]
theorem pas_push {e : Nat} {l : List Nat} {p : Nat} {g : Nat → List IV} (hg : g 0 = [i64I p]) : ChE (.rowc e 1 (l.length + 1) fun j => if j < l.length then pasF l j else g (j - l.length)) (.rowc e 1 (l ++ [p]).length (pasF (l ++ [p]))) := by
 refine ChE.row (by simp) fun j hj => ?_
 by_cases h : j < l.length
 ·simp only [if_pos h]
  unfold pasF
  simp [List.getD, List.getElem?_append_left, h]
 ·have : j = l.length := by simp at hj; omega
  subst this
  simp only [if_neg h, Nat.sub_self]
  rw [hg]
  simp [pasF, List.getD]
noncomputable def cfgN2 (N b : Nat) : Cfg := cfgX [1010, 1016] N b
theorem cfgN2Ok (N b : Nat) : (cfgN2 N b).Ok := cfgXOk _ _ _
set_option maxHeartbeats 4000000 in
theorem scNext_ok (id : Nat) (_hid : id < 4294967296) (b : List UInt8) (hb : b.length ≤ 90000000) (s : SC) (he : s.end_ ≤ b.length) (hf : s.found.length ≤ 10000000) (hp : s.passed.length ≤ 10000000) : AFn Go.Proofs.Tryz.prog 150 [.ptr 0 0, .iv (.bs b)] (one (scH id s)) (fun _ : Unit => AV.bool (s.next b).2) (fun _ => one (scH id (s.next b).1)) := by
 have hg1 := getR_size (b.drop s.end_)
 have hg2 := getR_why (b.drop s.end_)
 rw [List.length_drop] at hg1
 refine ACall.fin ?_
 refine ACall.walkE (C := cfgN2 105 1) (cfgN2Ok _ _) sch150 (fn := Go.Proofs.Tryz.f150) (by kernel_rfl) (by kernel_rfl) rfl (by kernel_rfl) (by kernel_rfl) rfl rfl (H1 := scH id s) (fun _ _ => (HEnt.openOne (scH id s) rfl rfl).ent) fun hlen hheap => ?_
 refine goA ?_
 refine ifdA (fun h => ?_) (fun h => ?_) <;> (try dsimp only at h)
 ·have e : s.next b = (s, false) := by unfold SC.next; rw [if_pos (by omega)]
  rw [e]
  refine goA ?_
  refine ⟨_, _, Ent.shutAt (r2 := AV.bool false) [some 0, some 1, some 2] (scH id s) rfl (by kernel_rfl) (AVE.of_eq ?_) ?_ (by kernel_rfl) (by kernel_rfl) (by repeat' first | exact trivial | refine ⟨rfl, ?_⟩) rfl, (), ?_, ?_⟩
  all_goals first | rfl | exact subC
 ·refine goA ?_
  rw [show List.take ((b.length : Int).toNat - ((s.end_ : Nat) : Int).toNat) (List.drop ((s.end_ : Nat) : Int).toNat b) = b.drop s.end_ from dropI b s.end_]
  have e0 : s.next b = if 16777216 < s.end_ then ({ s with why := 23 }, false) else if (getR (b.drop s.end_)).2.2 = 0 ∧ s.last < (getR (b.drop s.end_)).1.seq then ({ s with found := s.found ++ [⟨s.end_, (getR (b.drop s.end_)).2.1, (getR (b.drop s.end_)).1⟩], end_ := s.end_ + (getR (b.drop s.end_)).2.1 }, true) else
   if (getR (b.drop s.end_)).2.2 = 23 ∧ 0 < (getR (b.drop s.end_)).2.1 then ({ s with passed := s.passed ++ [s.end_], end_ := s.end_ + (getR (b.drop s.end_)).2.1 }, true) else if (getR (b.drop s.end_)).2.2 = 22 then ({ s with why := 22 }, false) else ({ s with why := 23 }, false) := by
   unfold SC.next
   rw [if_neg (by omega)]
  have hw : s.end_ ≤ 16777216 → wrK .u32 ((s.end_ : Nat) : Int) = ((s.end_ : Nat) : Int) := fun h => by
   show ((s.end_ : Nat) : Int) % 4294967296 = _
   omega
  have hG := recGet_ok (b.drop s.end_) (by simp; omega)
  generalize getR (b.drop s.end_) = g at *
  obtain ⟨r, size, w⟩ := g
  simp only at hg1 hg2 e0
  refine AFn.useA [] (hG) fun _ => ?_
  refine goA ?_
  refine ifdA (fun h24 => ?_) (fun h24 => ?_) <;> (try dsimp only at h24)
  ·rw [e0, if_pos (by omega)]
   refine goA ?_
   refine ⟨_, _, Ent.shutAt (r2 := AV.bool false) [some 0, some 1, some 2] (scH id { s with why := 23 }) rfl (by kernel_rfl) (AVE.of_eq ?_) ?_ (by kernel_rfl) (by kernel_rfl) (by repeat' first | exact trivial | refine ⟨rfl, ?_⟩) rfl, (), ?_, ?_⟩
   all_goals first | rfl | exact subC
  rw [if_neg (by omega)] at e0
  rcases hg2 with rfl | rfl | rfl
  ·by_cases hq : s.last < r.seq
   ·rw [if_pos ⟨rfl, hq⟩] at e0
    rw [e0]
    apply AWP.ahead (C := cfgN2 105 1) ([(0, .ptr 0 0), (6, AV.int .i64 size)]) (⟨3, [(0, .cells 48 [AV.int .u32 id, .row 1 9 0 (s.found.length + 1), .row 2 1 0 s.passed.length, AV.int .i64 s.end_, AV.int .i64 s.why]), (1, .rowc 60 9 (s.found.length + 1) (fndF id (s.found ++ [⟨s.end_, size, r⟩]))), (2, .rowc 3 1 s.passed.length (pasF s.passed))]⟩)
    ·intro key
     apply AWP.ahead (C := cfgN2 105 1) ([(0, .ptr 0 0), (5, .ptr 3 0), (6, AV.int .i64 size)]) (⟨4, [(0, .cells 48 [AV.int .u32 id, .row 1 9 0 s.found.length, .row 2 1 0 s.passed.length, AV.int .i64 s.end_, AV.int .i64 s.why]), (1, .rowc 60 9 s.found.length (fndF id s.found)), (2, .rowc 3 1 s.passed.length (pasF s.passed)), (3, .cells 55 (recC r))]⟩)
     ·intro key2
      refine goA ?_
      repeat' (first | (refine And.intro ?_ ?_ <;> (refine goA ?_)) | (refine AFn.useA [0, 1, 2] (lastR_ok id s (by omega)) fun _ => ?_; (refine goA ?_)))
      all_goals
       refine ifdA (fun hq2 => ?_) (fun hq2 => ?_) <;> (try dsimp only at hq2)
       ·refine AWP.of_ent ?_ key2
        exact Ent.mkA [some 0, some 1, some 2, some 3]
       ·exact absurd hq (by omega)
     refine AWP.regD (cfgN2Ok _ _) sch150 (by kernel_rfl) ?_
     refine goA ?_
     repeat' (refine And.intro ?_ ?_ <;> (refine goA ?_))
     all_goals
      rw [hw (by omega)]
      refine AWP.of_ent ?_ key
      exact Ent.mk' [some 0, some 5, some 2] (by kernel_rfl) ⟨AVE.refl _, AVE.refl _, trivial⟩ ⟨⟨_, rfl, ChE.refl _⟩, ⟨_, rfl, fnd_push rfl⟩, ⟨_, rfl, ChE.refl _⟩, trivial⟩
    refine AWP.reg (cfgN2Ok _ _) ?_
    refine goA ?_
    refine ⟨_, _, Ent.shutAt (r2 := AV.bool true) [some 0, some 1, some 2] (scH id { s with found := s.found ++ [⟨s.end_, size, r⟩], end_ := s.end_ + size }) rfl (by kernel_rfl) (AVE.of_eq ?_) ?_ (by kernel_rfl) (by kernel_rfl) (by repeat' first | exact trivial | refine ⟨rfl, ?_⟩) rfl, (), ?_, ?_⟩
    all_goals first | rfl | exact ⟨⟨_, rfl, ChE.cells ⟨AVE.refl _, AVE.len (by simp), AVE.refl _, AVE.int (by simp), AVE.refl _, rfl⟩⟩, ⟨_, rfl, ChE.row (by simp) fun _ _ => rfl⟩, ⟨_, rfl, ChE.refl _⟩, trivial⟩
   ·rw [if_neg (fun h => hq h.2), if_neg (by simp), if_neg (by simp)] at e0
    rw [e0]
    refine goA ?_
    repeat' (first | (refine And.intro ?_ ?_ <;> (refine goA ?_)) | (refine AFn.useA [0, 1, 2] (lastR_ok id s (by omega)) fun _ => ?_; (refine goA ?_)))
    all_goals
     refine ifdA (fun hq2 => ?_) (fun hq2 => ?_) <;> (try dsimp only at hq2)
     ·exact absurd hq (by omega)
     ·refine goA ?_
      refine ⟨_, _, Ent.shutAt (r2 := AV.bool false) [some 0, some 1, some 2] (scH id { s with why := 23 }) rfl (by kernel_rfl) (AVE.of_eq ?_) ?_ (by kernel_rfl) (by kernel_rfl) (by repeat' first | exact trivial | refine ⟨rfl, ?_⟩) rfl, (), ?_, ?_⟩
      all_goals first | rfl | exact subC
  ·rw [if_neg (by simp), if_neg (by simp), if_pos rfl] at e0
   rw [e0]
   refine goA ?_
   repeat' (refine And.intro ?_ ?_ <;> (refine goA ?_))
   all_goals
    refine ⟨_, _, Ent.shutAt (r2 := AV.bool false) [some 0, some 1, some 2] (scH id { s with why := 22 }) rfl (by kernel_rfl) (AVE.of_eq ?_) ?_ (by kernel_rfl) (by kernel_rfl) (by repeat' first | exact trivial | refine ⟨rfl, ?_⟩) rfl, (), ?_, ?_⟩
    all_goals first | rfl | exact subC
  ·rw [if_neg (by simp)] at e0
   by_cases h0 : 0 < size
   ·rw [if_pos ⟨rfl, h0⟩] at e0
    rw [e0]
    refine goA ?_
    repeat' (refine And.intro ?_ ?_ <;> (refine goA ?_))
    all_goals
     refine ifdA (fun h1 => ?_) (fun h1 => ?_) <;> (try dsimp only at h1)
     ·refine goA ?_
      refine AWP.reg (cfgN2Ok _ _) ?_
      refine goA ?_
      refine ⟨_, _, Ent.shutAt (r2 := AV.bool true) [some 0, some 1, some 5] (scH id { s with passed := s.passed ++ [s.end_], end_ := s.end_ + size }) rfl (by kernel_rfl) (AVE.of_eq ?_) ?_ (by kernel_rfl) (by kernel_rfl) (by repeat' first | exact trivial | refine ⟨rfl, ?_⟩) rfl, (), ?_, ?_⟩
      all_goals first | rfl | exact ⟨⟨_, rfl, ChE.cells ⟨AVE.refl _, AVE.refl _, AVE.len (by simp), AVE.int (by simp), AVE.refl _, rfl⟩⟩, ⟨_, rfl, ChE.refl _⟩, ⟨_, rfl, pas_push rfl⟩, trivial⟩
     ·exact absurd h0 (by omega)
   ·rw [if_neg (fun h => h0 h.2), if_neg (by simp)] at e0
    rw [e0]
    refine goA ?_
    repeat' (refine And.intro ?_ ?_ <;> (refine goA ?_))
    all_goals
     refine ifdA (fun h1 => ?_) (fun h1 => ?_) <;> (try dsimp only at h1)
     ·exact absurd (show 0 < size by omega) h0
     ·refine goA ?_
      refine ⟨_, _, Ent.shutAt (r2 := AV.bool false) [some 0, some 1, some 2] (scH id { s with why := 23 }) rfl (by kernel_rfl) (AVE.of_eq ?_) ?_ (by kernel_rfl) (by kernel_rfl) (by repeat' first | exact trivial | refine ⟨rfl, ?_⟩) rfl, (), ?_, ?_⟩
      all_goals first | rfl | exact subC
end Go.Proofs.YtnkobcokjalmoaaGreatDoor.Ax

namespace Go.Proofs.YtnkobcokjalmoaaGreatDoor.Ax
open Go.RowKit
set_option maxRecDepth 100000
def scA (id : Nat) (s : SC) : AV := .agg [AV.int .u32 id, .iv (.sl 9 s.found.length (fndF id s.found)), .iv (.sl 1 s.passed.length (pasF s.passed)), AV.int .i64 s.end_, AV.int .i64 s.why]
def scZ : List AV := [AV.int .u32 0, .iv (.v (.slice none 0 0)), .iv (.v (.slice none 0 0)), AV.int .i64 0, AV.int .i64 0]
structure ScL (b : List UInt8) (fin : SC) where
 s : SC
 k : Nat
 run : SC.runs b k s = fin
 he : s.end_ ≤ b.length
 hk : b.length - s.end_ < k
 cnt : 25 * (s.found.length + s.passed.length) ≤ s.end_
theorem SC.next_cnt {b : List UInt8} {s : SC} (_h : s.end_ ≤ b.length) (hc : 25 * (s.found.length + s.passed.length) ≤ s.end_) : 25 * ((s.next b).1.found.length + (s.next b).1.passed.length) ≤ (s.next b).1.end_ := by
 have hg := getR_size (b.drop s.end_)
 unfold SC.next
 split
 ·exact hc
 ·split
  ·exact hc
  ·dsimp only
   split
   ·rename_i h3
    have := hg.2 (.inl h3.1)
    simp only [List.length_append, List.length_singleton]
    omega
   ·split
    ·rename_i h4
     have := hg.2 (.inr h4.2)
     simp only [List.length_append, List.length_singleton]
     omega
    ·split <;> exact hc
noncomputable def cfgO7 (N b : Nat) : Cfg := cfgX [1007] N b
theorem cfgO7Ok (N b : Nat) : (cfgO7 N b).Ok := cfgXOk _ _ _
theorem scanOf_ok (id : Nat) (hid : id < 4294967296) (b : List UInt8) (hb : b.length ≤ 90000000) : AFn Go.Proofs.Tryz.prog 77 [AV.int .u32 id, .iv (.bs b)] ⟨0, []⟩ (fun _ : Unit => scA id (scanB id b)) (fun _ => ⟨0, []⟩) := by
 refine ACall.fin ?_
 refine ACall.walk (C := cfgO7 20 0) (cfgO7Ok _ _) [] (fn := Go.Proofs.Tryz.f77) (by kernel_rfl) (by kernel_rfl) rfl (by kernel_rfl) (by kernel_rfl) rfl rfl ?_
 refine goA ?_
 refine AFn.useA [] (headCheck_ok b (by omega) 1 id) fun _ => ?_
 refine goA ?_
 by_cases h0 : checkH b 1 id ≠ 0
 ·have e : scanB id b = ⟨[], [], 0, checkH b 1 id⟩ := if_pos h0
  rw [e, decide_eq_true (show ((checkH b 1 id : Nat) : Int) ≠ 0 by omega)]
  refine goA ?_
  refine ⟨_, _, Ent.mk' (e' := [(0, scA id ⟨[], [], 0, checkH b 1 id⟩)]) (H' := ⟨0, []⟩) [] (by kernel_rfl) ⟨AVE.aggE ⟨AVE.refl _, AVE.nilSl' _ _, AVE.nilSl' _ _, AVE.refl _, AVE.refl _, rfl⟩, trivial⟩ trivial, (), rfl, rfl⟩
 have e : scanB id b = SC.runs b (b.length + 1) ⟨[], [], 16, 0⟩ := if_neg h0
 have h0' : checkH b 1 id = 0 := Classical.not_not.1 h0
 have h16 : 16 ≤ b.length := by
  rcases Nat.lt_or_ge b.length 16 with g | g
  ·rw [checkH_short g] at h0'
   cases h0'
  ·exact g
 rw [decide_eq_false (show ¬ ((checkH b 1 id : Nat) : Int) ≠ 0 by omega), h0']
 rw [e]
 generalize hfin : SC.runs b (b.length + 1) ⟨[], [], 16, 0⟩ = fin
 refine goA ?_
 refine AWP.loop (X := ScL b fin) (fun x => [(0, AV.int .u32 id), (1, .iv (.bs b)), (4, .ptr 0 0), (5, .ptr 1 0)]) (fun x => ⟨2, [(0, .cells 48 scZ), (1, .sem (Nest (scH id x.s)))]⟩) (fun x => b.length - x.s.end_) (⟨⟨[], [], 16, 0⟩, b.length + 1, hfin, h16, by show b.length - 16 < b.length + 1; omega, by decide⟩) ?_ fun x => AWP.go (S := []) (cfgO7Ok _ _) (.of_eq (by kernel_rfl)) ?_
 ·refine (HEnt.ent (HEnt.addNil 60 9 (fndF id []))).trans ((HEnt.ent (HEnt.addNil 3 1 (pasF []))).trans ?_)
  refine (Ent.mk' (e' := [(0, AV.int .u32 id), (1, .iv (.bs b)), (4, .ptr 0 0), (5, .ptr 1 0)]) (H' := ⟨4, [(0, .cells 48 scZ), (1, .cells 48 [AV.int .u32 id, .row 2 9 0 0, .row 3 1 0 0, AV.int .i64 16, AV.int .i64 0]), (2, .rowc 60 9 0 (fndF id [])), (3, .rowc 3 1 0 (pasF []))]⟩) [some 0, some 1, some 2, some 3] (by kernel_rfl) ⟨AVE.refl _, AVE.refl _, AVE.refl _, AVE.refl _, trivial⟩ ⟨⟨_, rfl, ChE.refl _⟩, ⟨_, rfl, ChE.cells (by exact ⟨AVE.refl _, AVE.nil _ _, AVE.nil _ _, AVE.refl _, AVE.refl _, rfl⟩)⟩, ⟨_, rfl, ChE.refl _⟩, ⟨_, rfl, ChE.refl _⟩, trivial⟩).trans ?_
  refine (HEnt.ent (HEnt.close [1, 2, 3] 1 (scH id ⟨[], [], 16, 0⟩) (by kernel_rfl) (by repeat' first | exact trivial | refine ⟨rfl, ?_⟩))).trans ?_
  exact Ent.mkA [some 0, some 1]
 ·obtain ⟨s, k, run, he, hk, cnt⟩ := x
  refine goA ?_
  refine AFn.useA [1] (scNext_ok id hid b hb s he (by omega) (by omega)) fun _ => ?_
  obtain ⟨n1, n2, n3⟩ := SC.next_end he
  have n4 := SC.next_cnt he cnt
  cases k with
  | zero => omega
  | succ k =>
    rw [SC.runs] at run
    generalize s.next b = p at *
    obtain ⟨s', t⟩ := p
    simp only at n1 n2 n3 n4 run
    cases t with
    | true =>
      have n3 := n3 rfl
      refine goA ?_
      refine ⟨⟨s', k, run, n2, by omega, n4⟩, Ent.mkA [some 0, some 1], ?_⟩
      show b.length - s'.end_ < b.length - s.end_
      omega
    | false =>
      have run : s' = fin := run
      subst run
      refine goA ?_
      refine AWP.of_ent (HEnt.ent (HEnt.open 1 (scH id s') rfl rfl)) ?_
      refine AWP.reg (cfgO7Ok _ _) ?_
      refine goA ?_
      exact ⟨_, _, (Ent.freeze 2 _ rfl rfl (e' := [(0, .agg [AV.int .u32 id, .iv (.sl 9 s'.found.length (fndF id s'.found)), .row 3 1 0 s'.passed.length, AV.int .i64 s'.end_, AV.int .i64 s'.why])]) ⟨AVF.agg (by exact ⟨AVF.same .., AVF.sl (Nat.le_refl _), AVF.same .., AVF.same .., AVF.same .., rfl⟩), trivial⟩).trans
       ((Ent.freeze 3 _ rfl rfl (e' := [(0, scA id s')]) ⟨AVF.agg (by exact ⟨AVF.same .., AVF.same .., AVF.sl (Nat.le_refl _), AVF.same .., AVF.same .., rfl⟩), trivial⟩).trans
       (Ent.mk' (H' := ⟨0, []⟩) [] (by kernel_rfl) ⟨AVE.refl _, trivial⟩ trivial)), (), rfl, rfl⟩
structure Sl where
 id : Nat
 size : Nat
 many : Nat
 first : Nat
 last : Nat
deriving DecidableEq
instance : Inhabited Sl := ⟨⟨0, 0, 0, 0, 0⟩⟩
def slA (g : Sl) : AV := .agg [AV.int .u32 g.id, AV.int .u32 g.size, AV.int .u32 g.many, AV.int .u64 g.first, AV.int .u64 g.last]
def SC.first (s : SC) : Nat := if s.found = [] then 0 else (s.found.getD 0 default).r.seq
def SC.slOf (id : Nat) (s : SC) : Sl := ⟨id, s.end_, s.found.length + s.passed.length, s.first, s.last⟩
def scC (id : Nat) (s : SC) : List AV := [AV.int .u32 id, .iv (.sl 9 s.found.length (fndF id s.found)), .iv (.sl 1 s.passed.length (pasF s.passed)), AV.int .i64 s.end_, AV.int .i64 s.why]
theorem lastI_ok (id : Nat) (s : SC) (hs : s.found.length ≤ 100000000) : AFn Go.Proofs.Tryz.prog 78 [.ptr 0 0] ⟨1, [(0, .cells 48 (scC id s))]⟩ (fun _ : Unit => AV.int .u64 s.last) (fun _ => ⟨1, [(0, .cells 48 (scC id s))]⟩) := by
 refine ACall.fin ?_
 refine ACall.walk (C := cfg 23 1) (cfgOk _ _) sch78 (fn := Go.Proofs.Tryz.f78) (by kernel_rfl) (by kernel_rfl) rfl (by kernel_rfl) (by kernel_rfl) rfl rfl ?_
 refine goA ?_
 refine ifdA (fun h => ?_) (fun h => ?_) <;> (try dsimp only at h)
 ·have e : s.last = 0 := by
   have : s.found = [] := List.eq_nil_of_length_eq_zero (by omega)
   simp [SC.last, this]
   rfl
  rw [e]
  refine goA ?_
  refine ⟨_, _, Ent.mk' (e' := [(0, AV.int .u64 0)]) (H' := ⟨1, [(0, .cells 48 (scC id s))]⟩) [some 0] (by kernel_rfl) ?_ ?_, (), rfl, rfl⟩
  ·exact ⟨AVE.refl _, trivial⟩
  ·exact subC
 ·refine goA ?_
  repeat' (refine And.intro ?_ ?_ <;> (refine goA ?_))
  refine ⟨_, _, Ent.mk' (e' := [(0, AV.int .u64 s.last)]) (H' := ⟨1, [(0, .cells 48 (scC id s))]⟩) [some 0] (by kernel_rfl) ⟨AVE.int ?_, trivial⟩ subC, (), rfl, rfl⟩
  unfold SC.last
  rw [show ((s.found.length : Int) - 1).toNat = s.found.length - 1 by omega]
noncomputable def cfgPl (N b : Nat) : Cfg := { P := Go.Proofs.Tryz.prog, T := tt, wr := false, N := N, pure := [78], base := b, frz := frzF }
theorem cfgPlOk (N b : Nat) : (cfgPl N b).Ok := ⟨ttOk, ttBytes, by kernel_rfl⟩
def schSeal : List (Nat × Sched) := [(1, .take 0 (.take 1 (.take 2 (.take 3 (.take 4 (.take 5 (.take 6 (.take 7 (.take 8 (.take 9 (.take 10 (.take 11 (.take 12 (.two 13 (.take 14 (.take 15 (.take 16 (.done)))) (.take 15 (.take 13 (.take 14 (.take 16 (.done)))))))))))))))))))]
theorem scanSeal_ok (id : Nat) (s : SC) (he : s.end_ ≤ 90000000) (hc : 25 * (s.found.length + s.passed.length) ≤ s.end_) : AFn Go.Proofs.Tryz.prog 22 [scA id s] ⟨0, []⟩ (fun _ : Unit => slA (s.slOf id)) (fun _ => ⟨0, []⟩) := by
 refine ACall.fin ?_
 refine ACall.walk (C := cfgPl 31 0) (cfgPlOk _ _) schSeal (fn := Go.Proofs.Tryz.f22) (by kernel_rfl) (by kernel_rfl) rfl (by kernel_rfl) (by kernel_rfl) rfl rfl ?_
 refine goA ?_
 have w1 : wrK .u32 ((s.end_ : Nat) : Int) = ((s.end_ : Nat) : Int) := by show ((s.end_ : Nat) : Int) % 4294967296 = _; omega
 have w2 : wrK .u32 (((s.found.length : Nat) : Int) + ((s.passed.length : Nat) : Int)) = ((s.found.length + s.passed.length : Nat) : Int) := by
  show (((s.found.length : Nat) : Int) + ((s.passed.length : Nat) : Int)) % 4294967296 = _
  omega
 repeat' (first | (refine And.intro ?_ ?_ <;> (refine goA ?_)) | (refine AFn.useA [0] (lastI_ok id s (by omega)) fun _ => ?_; (refine goA ?_)))
 all_goals
  refine ifdA (fun h => ?_) (fun h => ?_) <;> (try dsimp only at h)
  ·have e : s.first = (s.found.getD 0 default).r.seq := if_neg fun h0 => by rw [h0] at h; simp at h
   refine goA ?_
   refine ⟨_, _, Ent.mk' (e' := [(0, slA (s.slOf id))]) (H' := ⟨0, []⟩) [] (by kernel_rfl) ⟨AVE.aggE (by exact ⟨AVE.refl _, AVE.int w1, AVE.int w2, AVE.int (congrArg (fun n : Nat => (n : Int)) e.symm), AVE.refl _, rfl⟩), trivial⟩ trivial, (), rfl, rfl⟩
  ·have e : s.first = 0 := if_pos (List.eq_nil_of_length_eq_zero (by omega))
   refine goA ?_
   refine ⟨_, _, Ent.mk' (e' := [(0, slA (s.slOf id))]) (H' := ⟨0, []⟩) [] (by kernel_rfl) ⟨AVE.aggE (by exact ⟨AVE.refl _, AVE.int w1, AVE.int w2, AVE.int (congrArg (fun n : Nat => (n : Int)) e.symm), AVE.refl _, rfl⟩), trivial⟩ trivial, (), rfl, rfl⟩
end Go.Proofs.YtnkobcokjalmoaaGreatDoor.Ax
