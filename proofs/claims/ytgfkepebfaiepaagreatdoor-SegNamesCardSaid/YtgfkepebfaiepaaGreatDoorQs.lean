/-
  Chapter 11: records, heads, scans.
-/
import Derived.Test.YtgfkepebfaiepaaGreatDoorQr
import Derived.Test.YtgfkepebfaiepaaGreatDoorQz
import Derived.Test.YtgfkepebfaiepaaGreatDoorQh
namespace Go.Proofs.YtgfkepebfaiepaaGreatDoor.Ax
open Go.RowKit
set_option maxRecDepth 100000
def recA (r : Rec) : AV := .agg [AV.int .u64 r.seq, AV.int .i64 r.kind, .iv (.bs r.key), .iv (.bs r.val), AV.int .u32 r.seg, AV.int .u32 r.off]
def Rec.B (r : Rec) : Prop := r.key.length ≤ 140737488355328 ∧ r.val.length ≤ 140737488355328
theorem recSize_ok (r : Rec) (h : r.B) : AFn Go.Proofs.Tryz.prog 81 [recA r] ⟨0, []⟩ (fun _ : Unit => AV.int .i64 r.size) (fun _ => ⟨0, []⟩) := by
 obtain ⟨h1, h2⟩ := h
 refine ACall.fin ?_
 refine ACall.walk (C := cfg 12 0) (cfgOk _ _) [] (fn := Go.Proofs.Tryz.f81) (by kernel_rfl) (by kernel_rfl) rfl (by kernel_rfl) (by kernel_rfl) rfl rfl ?_
 refine goA ?_
 refine ⟨_, _, Ent.mk' (e' := [(0, AV.int .i64 r.size)]) (H' := ⟨0, []⟩) [] (by kernel_rfl) ⟨AVE.int ?_, trivial⟩ trivial, (), rfl, rfl⟩
 unfold Rec.size
 omega
theorem recMay_ok (r : Rec) (h : r.B) : AFn Go.Proofs.Tryz.prog 69 [recA r] ⟨0, []⟩ (fun _ : Unit => AV.bool (decide r.May)) (fun _ => ⟨0, []⟩) := by
 obtain ⟨h1, h2⟩ := h
 refine ACall.fin ?_
 refine ACall.walk (C := cfg 44 0) (cfgOk _ _) [] (fn := Go.Proofs.Tryz.f69) (by kernel_rfl) (by kernel_rfl) rfl (by kernel_rfl) (by kernel_rfl) rfl rfl ?_
 refine goA ?_
 repeat' (first | (refine ifdA (fun q => ?_) (fun q => ?_) <;> (try dsimp only at q) <;> (refine goA ?_)) | (refine AFn.useA [] (keyMay_ok r.key (by omega)) fun _ => ?_; (refine goA ?_)) | (refine AFn.useA [] (valMay_ok r.val (by omega)) fun _ => ?_; (refine goA ?_)) | (refine AFn.useA [] (locMay_ok r.seg r.off) fun _ => ?_; (refine goA ?_)))
 all_goals
  refine ⟨_, _, Ent.mk' (e' := [(0, AV.bool (decide r.May))]) (H' := ⟨0, []⟩) [] (by kernel_rfl) ⟨AVE.bool ?_, trivial⟩ trivial, (), rfl, rfl⟩
  first | (rw [decide_eq_decide]; unfold Rec.May LMay; omega) | (rw [eq_comm, decide_eq_false_iff_not]; unfold Rec.May LMay; omega)
end Go.Proofs.YtgfkepebfaiepaaGreatDoor.Ax

namespace Go.Proofs.YtgfkepebfaiepaaGreatDoor.Ax
open Go.RowKit
set_option maxRecDepth 100000
end Go.Proofs.YtgfkepebfaiepaaGreatDoor.Ax

namespace Go.Proofs.YtgfkepebfaiepaaGreatDoor.Ax
open Go.RowKit
set_option maxRecDepth 100000
noncomputable def cfgX (l : List Nat) (N b : Nat) : Cfg := { P := Go.Proofs.Tryz.prog, T := tt, wr := false, N := N, pure := [], base := b, cuts := l }
theorem cfgXOk (l : List Nat) (N b : Nat) : (cfgX l N b).Ok := ⟨ttOk, ttBytes, by kernel_rfl⟩
def arr4I (s : BitVec 32) : List IV := [byteI (by4 s 0), byteI (by4 s 1), byteI (by4 s 2), byteI (by4 s 3)]
noncomputable def cfgX2 (N b : Nat) : Cfg := cfgX [1002] N b
theorem cfgX2Ok (N b : Nat) : (cfgX2 N b).Ok := cfgXOk _ _ _
theorem coverR_ok (l : List UInt8) (hl : l.length ≤ 1000000) : AFn Go.Proofs.Tryz.prog 183 [.iv (.bs l)] ⟨0, []⟩ (fun _ : Unit => .row 0 1 0 (l.length + 4)) (fun _ => ⟨1, [(0, .brow 5 (cover l))]⟩) := by
 have hb : ∀ c : UInt8, c.toNat ≤ 255 := fun c => Nat.le_of_lt_succ c.toNat_lt
 have h0 := hb (by4 (Cm.sum l) 0)
 have h1 := hb (by4 (Cm.sum l) 1)
 have h2 := hb (by4 (Cm.sum l) 2)
 have h3 := hb (by4 (Cm.sum l) 3)
 refine ACall.fin ?_
 refine ACall.walk (C := cfgX2 11 0) (cfgX2Ok _ _) sch183 (fn := Go.Proofs.Tryz.f183) (by kernel_rfl) (by kernel_rfl) rfl (by kernel_rfl) (by kernel_rfl) rfl rfl ?_
 refine goA ?_
 refine AFn.useA [] (sum_ok l (by omega)) fun _ => ?_
 refine goA ?_
 refine AFn.useA [] (laid_ok (Cm.sum l)) fun _ => ?_
 refine goA ?_
 refine AWP.of_ent (Ent.freezeC 0 (arr4I (Cm.sum l)) rfl rfl (e' := [(0, .iv (.bs l)), (3, .iv (.pp (arr4I (Cm.sum l))))]) ⟨AVC.same _ _ _, AVC.here _ _, trivial⟩) ?_
 refine AWP.regD (cfgX2Ok _ _) sch183 (by kernel_rfl) ?_
 refine goA ?_
 refine ⟨_, _, Ent.mk' (e' := [(0, .row 0 1 0 (l.length + 4))]) (H' := ⟨1, [(0, .brow 5 (cover l))]⟩) [some 2] (by kernel_rfl) ⟨AVE.len rfl, trivial⟩ ⟨⟨_, rfl, ChE.brow ?_⟩, trivial⟩, (), rfl, rfl⟩
 simp [cover, le4]
def numsK (r : Rec) : Nat → List UInt8
 | 0 => []
 | 1 => le r.kind.toNat 1
 | 2 => le r.kind.toNat 1 ++ le r.key.length 1
 | 3 => le r.kind.toNat 1 ++ le r.key.length 1 ++ le r.val.length 2
 | 4 => le r.kind.toNat 1 ++ le r.key.length 1 ++ le r.val.length 2 ++ le r.seq 6
 | 5 => le r.kind.toNat 1 ++ le r.key.length 1 ++ le r.val.length 2 ++ le r.seq 6 ++ le r.seg 3
 | _ => r.nums
theorem numsK_len (r : Rec) (i : Nat) : (numsK r i).length ≤ 17 := by
 unfold numsK
 split <;> simp [le_len, nums_len]
theorem take3 {a : List UInt8} (h : a.length = 21) (b c : List UInt8) : a ++ (b ++ c) = List.take (21 + b.length + c.length) (List.take (21 + b.length) (List.take 21 a ++ b) ++ c) := by
 rw [List.take_of_length_le (l := a) (by omega), List.take_of_length_le (l := a ++ b) (by simp; omega), List.take_of_length_le (by simp; omega), List.append_assoc]
def recC (r : Rec) : List AV := [AV.int .u64 r.seq, AV.int .i64 r.kind, .iv (.bs r.key), .iv (.bs r.val), AV.int .u32 r.seg, AV.int .u32 r.off]
theorem recPut_ok (r : Rec) (h : r.May) : AFn Go.Proofs.Tryz.prog 123 [recA r] ⟨0, []⟩ (fun _ : Unit => .tup [.iv (.bs r.enc), AV.int .i64 0]) (fun _ => ⟨0, []⟩) := by
 have hB : r.B := by unfold Rec.May at h; unfold Rec.B; omega
 have hM := h
 obtain ⟨h1, ⟨_, h2⟩, ⟨_, h3⟩, h4, h5⟩ := h
 have hs : r.seg < 256 ^ 3 := by unfold LMay at h5; omega
 have ho : r.off < 256 ^ 4 := by unfold LMay at h5; omega
 have hsq : r.seq < 256 ^ 6 := by omega
 have hl := numsK_len r
 obtain ⟨kd, hkd⟩ : ∃ kd : Nat, r.kind = kd := ⟨r.kind.toNat, by omega⟩
 have hk2 : kd < 256 ^ 1 := by omega
 obtain ⟨seq, kind, key, val, seg, off⟩ := r
 simp only at hkd
 subst hkd
 simp only at *
 refine ACall.fin ?_
 refine ACall.walk (C := cfg 57 0) (cfgOk _ _) sch123 (fn := Go.Proofs.Tryz.f123) (by kernel_rfl) (by kernel_rfl) rfl (by kernel_rfl) (by kernel_rfl) rfl rfl ?_
 refine goA ?_
 refine AFn.useA [] (recMay_ok _ hB) fun _ => ?_
 rw [decide_eq_true hM]
 refine goA ?_
 refine AWP.loop (X := { i : Nat // i ≤ 6 }) (fun x => [(1, .ptr 0 0), (4, .iv (.bs (numsK ⟨seq, kd, key, val, seg, off⟩ x.1))), (32, .agg [AV.int .u64 kd, AV.int .u64 key.length, AV.int .u64 val.length, AV.int .u64 seq, AV.int .u64 seg, AV.int .u64 off]), (33, AV.int .i64 x.1)]) (fun x => ⟨1, [(0, .cells 50 (recC ⟨seq, kd, key, val, seg, off⟩))]⟩) (fun x => 6 - x.1) (⟨0, Nat.zero_le _⟩) ?_ fun x => AWP.go (S := sch123) (cfgOk _ _) (.of_eq (by kernel_rfl)) ?_
 ·refine Ent.mk' [some 0] (by kernel_rfl) ⟨AVE.refl _, AVE.nilBs, AVE.refl _, AVE.refl _, trivial⟩ subC
 ·obtain ⟨i, hi⟩ := x
  have : i = 0 ∨ i = 1 ∨ i = 2 ∨ i = 3 ∨ i = 4 ∨ i = 5 ∨ i = 6 := by omega
  rcases this with rfl | rfl | rfl | rfl | rfl | rfl | rfl
  ·refine goA ?_
   refine AFn.useA [] (fixed_ok (numsK ⟨seq, kd, key, val, seg, off⟩ 0) kd 1 (by have := hl 0; omega) (by decide) hk2) fun _ => ?_
   refine goA ?_
   refine ⟨⟨1, by decide⟩, Ent.mkA [some 0], ?_⟩
   exact (by decide : 6 - 1 < 6 - 0)
  ·refine goA ?_
   refine AFn.useA [] (fixed_ok (numsK ⟨seq, kd, key, val, seg, off⟩ 1) key.length 1 (by have := hl 1; omega) (by decide) (by omega)) fun _ => ?_
   refine goA ?_
   refine ⟨⟨2, by decide⟩, Ent.mkA [some 0], ?_⟩
   exact (by decide : 6 - 2 < 6 - 1)
  ·refine goA ?_
   refine AFn.useA [] (fixed_ok (numsK ⟨seq, kd, key, val, seg, off⟩ 2) val.length 2 (by have := hl 2; omega) (by decide) (by omega)) fun _ => ?_
   refine goA ?_
   refine ⟨⟨3, by decide⟩, Ent.mkA [some 0], ?_⟩
   exact (by decide : 6 - 3 < 6 - 2)
  ·refine goA ?_
   refine AFn.useA [] (fixed_ok (numsK ⟨seq, kd, key, val, seg, off⟩ 3) seq 6 (by have := hl 3; omega) (by decide) hsq) fun _ => ?_
   refine goA ?_
   refine ⟨⟨4, by decide⟩, Ent.mkA [some 0], ?_⟩
   exact (by decide : 6 - 4 < 6 - 3)
  ·refine goA ?_
   refine AFn.useA [] (fixed_ok (numsK ⟨seq, kd, key, val, seg, off⟩ 4) seg 3 (by have := hl 4; omega) (by decide) hs) fun _ => ?_
   refine goA ?_
   refine ⟨⟨5, by decide⟩, Ent.mkA [some 0], ?_⟩
   exact (by decide : 6 - 5 < 6 - 4)
  ·refine goA ?_
   refine AFn.useA [] (fixed_ok (numsK ⟨seq, kd, key, val, seg, off⟩ 5) off 4 (by have := hl 5; omega) (by decide) ho) fun _ => ?_
   refine goA ?_
   refine ⟨⟨6, by decide⟩, Ent.mkA [some 0], ?_⟩
   exact (by decide : 6 - 6 < 6 - 5)
  ·have h17 : (numsK ⟨seq, kd, key, val, seg, off⟩ 6).length = 17 := nums_len _
   refine goA ?_
   refine AFn.useA [] (coverR_ok (numsK ⟨seq, kd, key, val, seg, off⟩ 6) (by omega)) fun _ => ?_
   have hcl : (cover (numsK ⟨seq, kd, key, val, seg, off⟩ 6)).length = 21 := by rw [cover_len, h17]
   refine goA ?_
   repeat' (refine And.intro ?_ ?_ <;> (refine goA ?_))
   all_goals
    refine ACall.freezeB 3 rfl [.iv (.bs (cover (numsK ⟨seq, kd, key, val, seg, off⟩ 6) ++ key ++ val))] ⟨AVF.bs (by simp [h17, hcl]) (by simp [h17]; exact take3 hcl _ _), rfl⟩ ?_
    refine AFn.useA [] (coverR_ok (cover (numsK ⟨seq, kd, key, val, seg, off⟩ 6) ++ key ++ val) (by simp [hcl]; omega)) fun _ => ?_
    refine goA ?_
    refine ⟨_, _, (Ent.freeze 4 _ rfl rfl (e' := [(0, .tup [.iv (.bs (Rec.enc ⟨seq, kd, key, val, seg, off⟩)), AV.int .i64 0])]) ⟨AVF.tup (AVF.bs (Nat.le_of_eq (cover_len _).symm) (by rw [List.take_of_length_le (Nat.le_of_eq (cover_len _))]; rfl)) (AVF.same ..), trivial⟩).trans (Ent.mk' (e' := [(0, .tup [.iv (.bs (Rec.enc ⟨seq, kd, key, val, seg, off⟩)), AV.int .i64 0])]) (H' := ⟨0, []⟩) [] (by kernel_rfl) ⟨AVE.refl _, trivial⟩ trivial), (), rfl, rfl⟩
end Go.Proofs.YtgfkepebfaiepaaGreatDoor.Ax

namespace Go.Proofs.YtgfkepebfaiepaaGreatDoor.Ax
open Go.RowKit
set_option maxRecDepth 100000
theorem dropI (l : List UInt8) (k : Int) : List.take ((l.length : Int).toNat - k.toNat) (List.drop k.toNat l) = l.drop k.toNat := List.take_of_length_le (by simp)
theorem AVE.aggE {xs ys : List AV} (h : cellsE xs ys) : AVE (.agg xs) (.agg ys) := ⟨fun ρ ι v hr => by
 simp only [AV.R] at hr ⊢
 obtain ⟨vs, e, r⟩ := hr
 exact ⟨vs, e, argsE_run h r⟩⟩
end Go.Proofs.YtgfkepebfaiepaaGreatDoor.Ax

namespace Go.Proofs.YtgfkepebfaiepaaGreatDoor.Ax
open Go.RowKit
set_option maxRecDepth 100000
theorem headMay_ok (k n : Nat) : AFn Go.Proofs.Tryz.prog 204 [AV.int .i64 k, AV.int .u32 n] ⟨0, []⟩ (fun _ : Unit => AV.bool (decide (HMay k n))) (fun _ => ⟨0, []⟩) := by
 refine ACall.fin ?_
 refine ACall.walk (C := cfg 23 0) (cfgOk _ _) [] (fn := Go.Proofs.Tryz.f204) (by kernel_rfl) (by kernel_rfl) rfl (by kernel_rfl) (by kernel_rfl) rfl rfl ?_
 refine goA ?_
 repeat' (refine ifdA (fun q => ?_) (fun q => ?_) <;> (try dsimp only at q) <;> (refine goA ?_))
 all_goals
  refine ⟨_, _, Ent.mk' (e' := [(0, AV.bool (decide (HMay k n)))]) (H' := ⟨0, []⟩) [] (by kernel_rfl) ⟨AVE.bool ?_, trivial⟩ trivial, (), rfl, rfl⟩
  first | (rw [decide_eq_decide]; unfold HMay; omega) | (rw [eq_comm, decide_eq_false_iff_not]; unfold HMay; omega) | (rw [eq_comm, decide_eq_true_iff]; unfold HMay; omega)
theorem headPut_ok {k n : Nat} (h : HMay k n) : AFn Go.Proofs.Tryz.prog 137 [AV.int .i64 k, AV.int .u32 n] ⟨0, []⟩ (fun _ : Unit => .tup [.iv (.bs (headB k n)), AV.int .i64 0]) (fun _ => ⟨0, []⟩) := by
 obtain ⟨h1, h2⟩ := h.lt
 refine ACall.fin ?_
 refine ACall.walk (C := cfg 26 0) (cfgOk _ _) [] (fn := Go.Proofs.Tryz.f137) (by kernel_rfl) (by kernel_rfl) rfl (by kernel_rfl) (by kernel_rfl) rfl rfl ?_
 refine goA ?_
 refine AFn.useA [] (headMay_ok k n) fun _ => ?_
 rw [decide_eq_true h]
 refine goA ?_
 have hw : wrK .u8 (k : Int) = (k : Int) := by
  show (k : Int) % 256 = k
  omega
 rw [hw]
 refine goA ?_
 refine ACall.freezeB 2 rfl [.iv (.bs (lettersB ++ [UInt8.ofNat k])), AV.int .u64 n, AV.int .i64 4] ⟨AVF.bs (Nat.le_refl 8) rfl, AVF.same .., AVF.same .., rfl⟩ ?_
 refine AFn.useA [] (fixed_ok (lettersB ++ [UInt8.ofNat k]) n 4 (by simp [lettersB]) (by decide) (by omega)) fun _ => ?_
 refine goA ?_
 refine AFn.useA [] (coverR_ok (lettersB ++ [UInt8.ofNat k] ++ le n 4) (by simp [lettersB, le_len])) fun _ => ?_
 refine goA ?_
 exact ⟨_, _, (Ent.freeze 3 _ rfl rfl (e' := [(0, .tup [.iv (.bs (headB k n)), AV.int .i64 0])]) ⟨AVF.tup (AVF.bs (Nat.le_of_eq (cover_len _).symm) (List.take_of_length_le (Nat.le_of_eq (cover_len _))).symm) (AVF.same ..), trivial⟩).trans (Ent.mk' (e' := [(0, .tup [.iv (.bs (headB k n)), AV.int .i64 0])]) (H' := ⟨0, []⟩) [] (by kernel_rfl) ⟨AVE.refl _, trivial⟩ trivial), (), rfl, rfl⟩
end Go.Proofs.YtgfkepebfaiepaaGreatDoor.Ax

namespace Go.Proofs.YtgfkepebfaiepaaGreatDoor.Ax
open Go.RowKit
set_option maxRecDepth 100000
end Go.Proofs.YtgfkepebfaiepaaGreatDoor.Ax

namespace Go.Proofs.YtgfkepebfaiepaaGreatDoor.Ax
open Go.RowKit
set_option maxRecDepth 100000
structure ScL (b : List UInt8) (fin : SC) where
 s : SC
 k : Nat
 run : SC.runs b k s = fin
 he : s.end_ ≤ b.length
 hk : b.length - s.end_ < k
 cnt : 25 * (s.found.length + s.passed.length) ≤ s.end_
structure Sl where
 id : Nat
 size : Nat
 many : Nat
 first : Nat
 last : Nat
deriving DecidableEq
instance : Inhabited Sl := ⟨⟨0, 0, 0, 0, 0⟩⟩
def slA (g : Sl) : AV := .agg [AV.int .u32 g.id, AV.int .u32 g.size, AV.int .u32 g.many, AV.int .u64 g.first, AV.int .u64 g.last]
def SC.first (s : SC) : Nat := if s.found = [] then 0 else (s.found.getD 0 default).r.seq
end Go.Proofs.YtgfkepebfaiepaaGreatDoor.Ax
