/-
  Chapter 11: segments.
-/
import Derived.Test.YtgfkepebfaiepaaGreatDoorQv
import Derived.Test.YtgfkepebfaiepaaGreatDoorQs
namespace Go.Proofs.YtgfkepebfaiepaaGreatDoor.Ax
open Go.RowKit
set_option maxRecDepth 100000
structure SG where
 s : Sl
 safe : Nat
def sgC (h : Nat) (g : SG) : List AV := [.ptr h 0, AV.int .u32 g.s.id, AV.int .u32 g.s.size, AV.int .u32 g.s.many, AV.int .u64 g.s.first, AV.int .u64 g.s.last, AV.int .u64 g.safe]
@[reducible] def sgH (g : SG) (v : VM) : AH := ⟨2, [(0, .sem (fsV v)), (1, .cells 192 (sgC 0 g))]⟩
theorem segNone_ok (g : SG) (v : VM) : AFn Go.Proofs.Tryz.prog 118 [.ptr 1 0] (sgH g v) (fun _ : Unit => AV.bool false) (fun _ => sgH g v) := by
 refine ACall.fin ?_
 refine ACall.walk (C := cfg 12 2) (cfgOk _ _) [] (fn := Go.Proofs.Tryz.f118) (by kernel_rfl) (by kernel_rfl) rfl (by kernel_rfl) (by kernel_rfl) rfl rfl ?_
 refine goA ?_
 refine ⟨_, _, Ent.mk' (e' := [(0, AV.bool false)]) (H' := sgH g v) [some 0, some 1] (by kernel_rfl) ?_ ?_, (), rfl, rfl⟩
 ·exact ⟨AVE.refl _, trivial⟩
 ·exact subC
theorem segAsks_ok (n : Nat) (v : VM) : AFn Go.Proofs.Tryz.prog 110 [.ptr 0 0, AV.int .u32 n] (fone v) (fun _ : Unit => AV.int .i64 (if IsId n then 0 else 1)) (fun _ => fone v) := by
 refine ACall.fin ?_
 refine ACall.walk (C := cfg 12 1) (cfgOk _ _) [] (fn := Go.Proofs.Tryz.f110) (by kernel_rfl) (by kernel_rfl) rfl (by kernel_rfl) (by kernel_rfl) rfl rfl ?_
 refine goA ?_
 refine AFn.useA [] (segIs_ok n) fun _ => ?_
 by_cases h : IsId n
 ·rw [decide_eq_true h, if_pos h]
  refine goA ?_
  refine ⟨_, _, Ent.mk' (e' := [(0, AV.int .i64 0)]) (H' := fone v) [some 0] (by kernel_rfl) ?_ ?_, (), rfl, rfl⟩
  ·exact ⟨AVE.refl _, trivial⟩
  ·exact subC
 ·rw [decide_eq_false h, if_neg h]
  refine goA ?_
  refine ⟨_, _, Ent.mk' (e' := [(0, AV.int .i64 1)]) (H' := fone v) [some 0] (by kernel_rfl) ?_ ?_, (), rfl, rfl⟩
  ·exact ⟨AVE.refl _, trivial⟩
  ·exact subC
theorem segSeal_ok (g : SG) (v : VM) : AFn Go.Proofs.Tryz.prog 57 [.ptr 1 0] (sgH g v) (fun _ : Unit => slA g.s) (fun _ => sgH g v) := by
 refine ACall.fin ?_
 refine ACall.walk (C := cfg 10 2) (cfgOk _ _) [] (fn := Go.Proofs.Tryz.f57) (by kernel_rfl) (by kernel_rfl) rfl (by kernel_rfl) (by kernel_rfl) rfl rfl ?_
 refine goA ?_
 refine AFn.useA [0, 1] (segNone_ok g v) fun _ => ?_
 refine goA ?_
 refine ⟨_, _, Ent.mk' (e' := [(0, slA g.s)]) (H' := sgH g v) [some 0, some 1] (by kernel_rfl) ?_ ?_, (), rfl, rfl⟩
 ·exact ⟨AVE.refl _, trivial⟩
 ·exact subC
section
variable {n B k : Nat} {v : VM} (hv : v.Ok n B k) (hn : n ≤ 490) (hB : B ≤ 80000000) (hk : k ≤ 900000000)
include hv hn hB hk
end
end Go.Proofs.YtgfkepebfaiepaaGreatDoor.Ax

namespace Go.Proofs.YtgfkepebfaiepaaGreatDoor.Ax
open Go.RowKit
set_option maxRecDepth 100000
def SG.badE (g : SG) (r : Rec) : Int := if ¬ r.May ∨ r.seq ≤ g.s.last then 1 else if 16777216 - (g.s.size : Int) < (r.size : Int) then 7 else 0
def SG.appE (g : SG) (v : VM) (r : Rec) : Int := if g.badE r ≠ 0 then g.badE r else v.appendE (segName g.s.id) r.enc
def SG.appV (g : SG) (v : VM) (r : Rec) : VM := if g.badE r ≠ 0 then v else v.append (segName g.s.id) r.enc
def SG.more (g : SG) (r : Rec) : SG := ⟨⟨g.s.id, g.s.size + r.size, g.s.many + 1, if g.s.many = 0 then r.seq else g.s.first, r.seq⟩, g.safe⟩
def SG.appG (g : SG) (v : VM) (r : Rec) : SG := if g.appE v r = 0 then g.more r else g
def SG.appL (g : SG) (v : VM) (r : Rec) : AV := if g.appE v r = 0 then locA g.s.id g.s.size else locA 0 0
noncomputable def cfgAp (N b : Nat) : Cfg := cfgX [1007, 1009] N b
theorem cfgApOk (N b : Nat) : (cfgAp N b).Ok := cfgXOk _ _ _
def SG.rd (v : VM) (x : List UInt8) (off m : Nat) : Rec × Int := if v.readE x off m = 0 then (if (getR (v.read x off m)).2.2 = 0 then ((getR (v.read x off m)).1, 0) else (default, 36)) else if v.readE x off m = 4 then (default, 36) else (default, v.readE x off m)
def SG.read (g : SG) (v : VM) (sg off : Nat) : Rec × Int := if sg ≠ g.s.id ∨ off < 16 ∨ g.s.size ≤ off then (default, 1) else SG.rd v (segName sg) off (min 1113 (g.s.size - off))
section
variable {n B k : Nat} {v : VM} (hv : v.Ok n B k) (hn : n ≤ 490) (hB : B ≤ 80000000) (hk : k ≤ 900000000)
include hv hn hB hk
theorem segApp_ok (g : SG) (r : Rec) (hr : r.B) (hid : g.s.id < 4294967296) (hsz : g.s.size ≤ 16777216) (hm : g.s.many < 4294967295) : AFn Go.Proofs.Tryz.prog 62 [.ptr 1 0, recA r] (sgH g v) (fun _ : Unit => .tup [g.appL v r, AV.int .i64 (g.appE v r)]) (fun _ => sgH (g.appG v r) (g.appV v r)) := by
 have bad : g.badE r ≠ 0 → g.appE v r = g.badE r ∧ g.appG v r = g ∧ g.appV v r = v ∧ g.appL v r = locA 0 0 := fun h => by
  have e1 : g.appE v r = g.badE r := if_pos h
  exact ⟨e1, if_neg (by rw [e1]; exact h), if_pos h, if_neg (by rw [e1]; exact h)⟩
 refine ACall.fin ?_
 refine ACall.walk (C := cfgAp 113 2) (cfgApOk _ _) sch62 (fn := Go.Proofs.Tryz.f62) (by kernel_rfl) (by kernel_rfl) rfl (by kernel_rfl) (by kernel_rfl) rfl rfl ?_
 refine goA ?_
 refine AFn.useA [0, 1] (segNone_ok g v) fun _ => ?_
 refine goA ?_
 refine AFn.useA [] (recMay_ok r hr) fun _ => ?_
 by_cases h1 : r.May
 ·rw [decide_eq_true h1]
  have hsz2 := May.size h1
  have hel := enc_len r
  refine goA ?_
  refine ifdA (fun q1 => ?_) (fun q1 => ?_) <;> (try dsimp only at q1)
  ·have e0 : g.badE r = 1 := if_pos (.inr (by omega))
   obtain ⟨e1, e2, e3, e4⟩ := bad (by rw [e0]; decide)
   rw [e1, e2, e3, e4, e0]
   refine goA ?_
   refine ⟨_, _, Ent.mk' (e' := [(0, .tup [locA 0 0, AV.int .i64 1])]) (H' := sgH g v) [some 0, some 1] (by kernel_rfl) ?_ ?_, (), rfl, rfl⟩
   ·exact ⟨AVE.refl _, trivial⟩
   ·exact subC
  ·have e00 : g.badE r = if 16777216 - (g.s.size : Int) < (r.size : Int) then 7 else 0 := if_neg (by rintro (h | h); exact h h1; omega)
   by_cases h3 : 16777216 - (g.s.size : Int) < (r.size : Int)
   ·have e0 : g.badE r = 7 := by rw [e00, if_pos h3]
    obtain ⟨e1, e2, e3, e4⟩ := bad (by rw [e0]; decide)
    rw [e1, e2, e3, e4, e0]
    refine goA ?_
    repeat' (first | (refine And.intro ?_ ?_ <;> (refine goA ?_)) | (refine AFn.useA [] (recSize_ok r hr) fun _ => ?_; (refine goA ?_)))
    all_goals
     refine ifdA (fun q2 => ?_) (fun q2 => ?_) <;> (try dsimp only at q2)
     ·refine goA ?_
      refine ⟨_, _, Ent.mk' (e' := [(0, .tup [locA 0 0, AV.int .i64 7])]) (H' := sgH g v) [some 0, some 1] (by kernel_rfl) ?_ ?_, (), rfl, rfl⟩
      ·exact ⟨AVE.refl _, trivial⟩
      ·exact subC
     ·exact absurd h3 (by omega)
   ·have e0 : g.badE r = 0 := by rw [e00, if_neg h3]
    have e1 : g.appE v r = v.appendE (segName g.s.id) r.enc := if_neg (by rw [e0]; decide)
    have e2 : g.appV v r = v.append (segName g.s.id) r.enc := if_neg (by rw [e0]; decide)
    have e3 : g.appG v r = if v.appendE (segName g.s.id) r.enc = 0 then g.more r else g := by unfold SG.appG; rw [e1]
    have e4 : g.appL v r = if v.appendE (segName g.s.id) r.enc = 0 then locA g.s.id g.s.size else locA 0 0 := by unfold SG.appL; rw [e1]
    rw [e1, e2, e3, e4]
    apply AWP.ahead (C := cfgAp 113 2) ([(0, .ptr 1 0), (3, .ptr 2 0), (4, .ptr 3 0), (6, .iv (.bs r.enc)), (8, AV.int .i64 (v.appendE (segName g.s.id) r.enc))]) (⟨4, [(0, .sem (fsV (v.append (segName g.s.id) r.enc))), (1, .cells 192 (sgC 0 g)), (2, .cells 50 (recC r)), (3, .cells 48 [AV.int .u32 0, AV.int .u32 0])]⟩)
    ·intro key
     apply AWP.ahead (C := cfgAp 113 2) ([(0, .ptr 1 0), (3, .ptr 2 0), (4, .ptr 3 0)]) (⟨4, [(0, .sem (fsV v)), (1, .cells 192 (sgC 0 g)), (2, .cells 50 (recC r)), (3, .cells 48 [AV.int .u32 0, AV.int .u32 0])]⟩)
     ·intro key2
      refine goA ?_
      repeat' (first | (refine And.intro ?_ ?_ <;> (refine goA ?_)) | (refine AFn.useA [] (recSize_ok r hr) fun _ => ?_; (refine goA ?_)))
      all_goals
       refine ifdA (fun q2 => ?_) (fun q2 => ?_) <;> (try dsimp only at q2)
       ·exact absurd (show 16777216 - (g.s.size : Int) < (r.size : Int) by omega) h3
       ·refine AWP.of_ent ?_ key2
        exact Ent.mkA [some 0, some 1, some 2, some 3]
     refine AWP.reg (cfgApOk _ _) ?_
     refine goA ?_
     refine AFn.useA [] (recPut_ok r h1) fun _ => ?_
     refine goA ?_
     repeat' (first | (refine And.intro ?_ ?_ <;> (refine goA ?_)) | (refine AFn.useA [] (segName_ok g.s.id hid) fun _ => ?_; (refine goA ?_)) | (refine AFn.useA [0] (fsAppend hv hn hB hk (segName g.s.id) r.enc (by omega)) fun _ => ?_; (refine goA ?_)))
     all_goals
      refine AWP.of_ent ?_ key
      exact Ent.mkA [some 0, some 1, some 2, some 3]
    refine AWP.reg (cfgApOk _ _) ?_
    generalize v.appendE (segName g.s.id) r.enc = E at *
    refine goA ?_
    refine ifdA (fun q3 => ?_) (fun q3 => ?_) <;> (try dsimp only at q3)
    ·rw [if_neg q3, if_neg q3]
     refine goA ?_
     refine ⟨_, _, Ent.mk' (e' := [(0, .tup [locA 0 0, AV.int .i64 E])]) (H' := sgH g (v.append (segName g.s.id) r.enc)) [some 0, some 1] (by kernel_rfl) ?_ ?_, (), rfl, rfl⟩
     ·exact ⟨AVE.refl _, trivial⟩
     ·exact subC
    ·have q3 : E = 0 := by omega
     rw [if_pos q3, if_pos q3, q3]
     have hw : wrK .u32 ((r.enc.length : Nat) : Int) = (r.size : Int) := by
      rw [hel]
      show ((r.size : Nat) : Int) % 4294967296 = _
      omega
     refine goA ?_
     rw [hw]
     refine goA ?_
     refine ifdA (fun q4 => ?_) (fun q4 => ?_) <;> (try dsimp only at q4)
     ·have hf : (g.more r).s.first = r.seq := if_pos (by omega)
      refine goA ?_
      refine ⟨_, _, Ent.mk' (e' := [(0, .tup [locA g.s.id g.s.size, AV.int .i64 0])]) (H' := sgH (g.more r) (v.append (segName g.s.id) r.enc)) [some 0, some 1] (by kernel_rfl) ⟨AVE.refl _, trivial⟩ ⟨⟨_, rfl, ChE.refl _⟩, ⟨_, rfl, ChE.cells (by exact ⟨AVE.refl _, AVE.refl _, AVE.int rfl, AVE.int rfl, AVE.int (congrArg (fun n : Nat => (n : Int)) hf.symm), AVE.refl _, AVE.refl _, rfl⟩)⟩, trivial⟩, (), rfl, rfl⟩
     ·have hf : (g.more r).s.first = g.s.first := if_neg (by omega)
      refine goA ?_
      refine ⟨_, _, Ent.mk' (e' := [(0, .tup [locA g.s.id g.s.size, AV.int .i64 0])]) (H' := sgH (g.more r) (v.append (segName g.s.id) r.enc)) [some 0, some 1] (by kernel_rfl) ⟨AVE.refl _, trivial⟩ ⟨⟨_, rfl, ChE.refl _⟩, ⟨_, rfl, ChE.cells (by exact ⟨AVE.refl _, AVE.refl _, AVE.int rfl, AVE.int rfl, AVE.int (congrArg (fun n : Nat => (n : Int)) hf.symm), AVE.refl _, AVE.refl _, rfl⟩)⟩, trivial⟩, (), rfl, rfl⟩
 ·rw [decide_eq_false h1]
  have e0 : g.badE r = 1 := if_pos (.inl h1)
  obtain ⟨e1, e2, e3, e4⟩ := bad (by rw [e0]; decide)
  rw [e1, e2, e3, e4, e0]
  refine goA ?_
  refine ⟨_, _, Ent.mk' (e' := [(0, .tup [locA 0 0, AV.int .i64 1])]) (H' := sgH g v) [some 0, some 1] (by kernel_rfl) ?_ ?_, (), rfl, rfl⟩
  ·exact ⟨AVE.refl _, trivial⟩
  ·exact subC
end
end Go.Proofs.YtgfkepebfaiepaaGreatDoor.Ax

namespace Go.Proofs.YtgfkepebfaiepaaGreatDoor.Ax
open Go.RowKit
set_option maxRecDepth 100000
end Go.Proofs.YtgfkepebfaiepaaGreatDoor.Ax

namespace Go.Proofs.YtgfkepebfaiepaaGreatDoor.Ax
open Go.RowKit
set_option maxRecDepth 100000
def VM.cr (v : VM) (x b : List UInt8) : Nat → VM
 | 0 => v
 | 1 => v.create x
 | 2 => (v.create x).append x b
 | 3 => ((v.create x).append x b).sync x
 | _ => (((v.create x).append x b).sync x).syncDir
def VM.crE (v : VM) (x b : List UInt8) : Nat → Int
 | 0 => v.createE x
 | 1 => (v.create x).appendE x b
 | 2 => ((v.create x).append x b).syncE x
 | _ => (((v.create x).append x b).sync x).syncDirE
theorem VM.Ok.cr {n B k : Nat} {v : VM} (h : v.Ok n B k) (x b : List UInt8) (i : Nat) : (v.cr x b i).Ok (n + 3) (B + b.length) (k + 4) := by
 unfold VM.cr
 split
 ·exact h.more (by omega) (by omega) (by omega)
 ·exact (h.create x).more (by omega) (by omega) (by omega)
 ·exact ((h.create x).append x b).more (by omega) (by omega) (by omega)
 ·exact (((h.create x).append x b).sync x).more (by omega) (by omega) (by omega)
 ·exact ((((h.create x).append x b).sync x).syncDir).more (by omega) (by omega) (by omega)
section
variable {n B k : Nat} {v : VM} (hv : v.Ok n B k) (hn : n ≤ 490) (hB : B ≤ 80000000) (hk : k ≤ 900000000)
include hv hn hB hk
theorem mk1_ok (x : List UInt8) : AFn Go.Proofs.Tryz.prog 138 [.pp [.ptr 0 0], .iv (.pp [.str x])] (fone v) (fun _ : Unit => AV.int .i64 (v.createE x)) (fun _ => fone (v.create x)) := by
 refine ACall.fin ?_
 refine ACall.walk (C := cfg 6 1) (cfgOk _ _) [] (fn := Go.Proofs.Tryz.f138) (by kernel_rfl) (by kernel_rfl) rfl (by kernel_rfl) (by kernel_rfl) rfl rfl ?_
 refine goA ?_
 refine AFn.useA [0] (fsCreate hv hn hB hk x) fun _ => ?_
 refine goA ?_
 refine ⟨_, _, Ent.mk' (e' := [(0, AV.int .i64 (v.createE x))]) (H' := fone (v.create x)) [some 0] (by kernel_rfl) ?_ ?_, (), rfl, rfl⟩
 ·exact ⟨AVE.refl _, trivial⟩
 ·exact subC
theorem mk2_ok (x b : List UInt8) (hb : b.length ≤ 10000000) : AFn Go.Proofs.Tryz.prog 140 [.pp [.ptr 0 0], .iv (.pp [.str x]), .iv (.pp [.bs b])] (fone v) (fun _ : Unit => AV.int .i64 (v.appendE x b)) (fun _ => fone (v.append x b)) := by
 refine ACall.fin ?_
 refine ACall.walk (C := cfg 8 1) (cfgOk _ _) [] (fn := Go.Proofs.Tryz.f140) (by kernel_rfl) (by kernel_rfl) rfl (by kernel_rfl) (by kernel_rfl) rfl rfl ?_
 refine goA ?_
 refine AFn.useA [0] (fsAppend hv hn hB hk x b hb) fun _ => ?_
 refine goA ?_
 refine ⟨_, _, Ent.mk' (e' := [(0, AV.int .i64 (v.appendE x b))]) (H' := fone (v.append x b)) [some 0] (by kernel_rfl) ?_ ?_, (), rfl, rfl⟩
 ·exact ⟨AVE.refl _, trivial⟩
 ·exact subC
theorem mk3_ok (x : List UInt8) : AFn Go.Proofs.Tryz.prog 141 [.pp [.ptr 0 0], .iv (.pp [.str x])] (fone v) (fun _ : Unit => AV.int .i64 (v.syncE x)) (fun _ => fone (v.sync x)) := by
 refine ACall.fin ?_
 refine ACall.walk (C := cfg 6 1) (cfgOk _ _) [] (fn := Go.Proofs.Tryz.f141) (by kernel_rfl) (by kernel_rfl) rfl (by kernel_rfl) (by kernel_rfl) rfl rfl ?_
 refine goA ?_
 refine AFn.useA [0] (fsSync hv hn hB hk x) fun _ => ?_
 refine goA ?_
 refine ⟨_, _, Ent.mk' (e' := [(0, AV.int .i64 (v.syncE x))]) (H' := fone (v.sync x)) [some 0] (by kernel_rfl) ?_ ?_, (), rfl, rfl⟩
 ·exact ⟨AVE.refl _, trivial⟩
 ·exact subC
theorem mk4_ok : AFn Go.Proofs.Tryz.prog 142 [.pp [.ptr 0 0]] (fone v) (fun _ : Unit => AV.int .i64 v.syncDirE) (fun _ => fone v.syncDir) := by
 refine ACall.fin ?_
 refine ACall.walk (C := cfg 4 1) (cfgOk _ _) [] (fn := Go.Proofs.Tryz.f142) (by kernel_rfl) (by kernel_rfl) rfl (by kernel_rfl) (by kernel_rfl) rfl rfl ?_
 refine goA ?_
 refine AFn.useA [0] (fsSyncDir hv hn hB hk) fun _ => ?_
 refine goA ?_
 refine ⟨_, _, Ent.mk' (e' := [(0, AV.int .i64 v.syncDirE)]) (H' := fone v.syncDir) [some 0] (by kernel_rfl) ?_ ?_, (), rfl, rfl⟩
 ·exact ⟨AVE.refl _, trivial⟩
 ·exact subC
end
def crF (x b : List UInt8) : List AV := [.fnc (.func 138) [] [.pp [.ptr 0 0], .iv (.pp [.str x])], .fnc (.func 140) [] [.pp [.ptr 0 0], .iv (.pp [.str x]), .iv (.pp [.bs b])], .fnc (.func 141) [] [.pp [.ptr 0 0], .iv (.pp [.str x])], .fnc (.func 142) [] [.pp [.ptr 0 0]]]
noncomputable def cfgCr (N b : Nat) : Cfg := { P := Go.Proofs.Tryz.prog, T := tt, wr := false, N := N, pure := [], base := b, frz := frzF, cuts := [1006] }
theorem cfgCrOk (N b : Nat) : (cfgCr N b).Ok := ⟨ttOk, ttBytes, by kernel_rfl⟩
theorem segCreate_ok {n B k : Nat} {v : VM} (hv : v.Ok n B k) (hn : n ≤ 480) (hB : B ≤ 79000000) (hk : k ≤ 800000000) (id : Nat) (hi : IsId id) (h0 : ∀ i, i < 4 → v.crE (segName id) (headB 1 id) i = 0) : AFn Go.Proofs.Tryz.prog 68 [.ptr 0 0, AV.int .u32 id] (fone v) (fun _ : Unit => .tup [.ptr 1 0, AV.int .i64 0]) (fun _ => sgH ⟨⟨id, 16, 0, 0, 0⟩, 0⟩ (v.cr (segName id) (headB 1 id) 4)) := by
 have hid : id < 4294967296 := by unfold IsId at hi; omega
 have hh : HMay 1 id := .inr ⟨rfl, hi⟩
 have hok := fun i => hv.cr (segName id) (headB 1 id) i
 have hbl := headB_len 1 id
 refine ACall.fin ?_
 refine ACall.walk (C := cfgCr 57 1) (cfgCrOk _ _) [] (fn := Go.Proofs.Tryz.f68) (by kernel_rfl) (by kernel_rfl) rfl (by kernel_rfl) (by kernel_rfl) rfl rfl ?_
 refine goA ?_
 refine AFn.useA [0] (segAsks_ok id v) fun _ => ?_
 rw [if_pos hi]
 refine goA ?_
 refine AFn.useA [] (segName_ok id hid) fun _ => ?_
 refine goA ?_
 refine AFn.useA [] (headPut_ok hh) fun _ => ?_
 refine goA ?_
 refine AWP.of_ent (Ent.freezeP 1 [.ptr 0 0] rfl rfl (e' := [(1, AV.int .u32 id), (2, .pp [.ptr 0 0]), (7, .ptr 2 0), (8, .ptr 3 0)]) ⟨AVC.same _ _ _, AVC.here _ _, AVC.same _ _ _, AVC.same _ _ _, trivial⟩) ?_
 refine AWP.of_ent (Ent.freezeC 2 [.str (segName id)] rfl rfl (e' := [(1, AV.int .u32 id), (2, .pp [.ptr 0 0]), (7, .iv (.pp [.str (segName id)])), (8, .ptr 3 0)]) ⟨AVC.same _ _ _, AVC.same _ _ _, AVC.here _ _, AVC.same _ _ _, trivial⟩) ?_
 refine AWP.of_ent (Ent.freezeC 3 [.bs (headB 1 id)] rfl rfl (e' := [(1, AV.int .u32 id), (2, .pp [.ptr 0 0]), (7, .iv (.pp [.str (segName id)])), (8, .iv (.pp [.bs (headB 1 id)]))]) ⟨AVC.same _ _ _, AVC.same _ _ _, AVC.same _ _ _, AVC.here _ _, trivial⟩) ?_
 refine AWP.reg (cfgCrOk _ _) ?_
 refine goA ?_
 refine AWP.loop (X := { i : Nat // i ≤ 4 }) (fun x => [(1, AV.int .u32 id), (2, .pp [.ptr 0 0]), (7, .iv (.pp [.str (segName id)])), (32, .agg (crF (segName id) (headB 1 id))), (33, AV.int .i64 x.1)]) (fun x => fone (v.cr (segName id) (headB 1 id) x.1)) (fun x => 4 - x.1) (⟨0, Nat.zero_le _⟩) ?_ fun x => AWP.go (S := []) (cfgCrOk _ _) (.of_eq (by kernel_rfl)) ?_
 ·exact Ent.mkA [some 0]
 ·obtain ⟨i, hle⟩ := x
  have : i = 0 ∨ i = 1 ∨ i = 2 ∨ i = 3 ∨ i = 4 := by omega
  rcases this with rfl | rfl | rfl | rfl | rfl
  ·have e0 := h0 0 (by decide)
   unfold VM.crE at e0
   simp only at e0
   refine goA ?_
   refine AFn.useA [0] (mk1_ok (hok 0) (by omega) (by omega) (by omega) (segName id)) fun _ => ?_
   rw [show VM.createE (segName id) (v.cr (segName id) (headB 1 id) 0) = 0 from e0]
   refine goA ?_
   refine ⟨⟨1, by decide⟩, Ent.mkA [some 0], ?_⟩
   exact (by decide : 4 - 1 < 4 - 0)
  ·have e0 := h0 1 (by decide)
   unfold VM.crE at e0
   simp only at e0
   refine goA ?_
   refine AFn.useA [0] (mk2_ok (hok 1) (by omega) (by omega) (by omega) (segName id) (headB 1 id) (by omega)) fun _ => ?_
   rw [show VM.appendE (segName id) (headB 1 id) (v.cr (segName id) (headB 1 id) 1) = 0 from e0]
   refine goA ?_
   refine ⟨⟨2, by decide⟩, Ent.mkA [some 0], ?_⟩
   exact (by decide : 4 - 2 < 4 - 1)
  ·have e0 := h0 2 (by decide)
   unfold VM.crE at e0
   simp only at e0
   refine goA ?_
   refine AFn.useA [0] (mk3_ok (hok 2) (by omega) (by omega) (by omega) (segName id)) fun _ => ?_
   rw [show VM.syncE (segName id) (v.cr (segName id) (headB 1 id) 2) = 0 from e0]
   refine goA ?_
   refine ⟨⟨3, by decide⟩, Ent.mkA [some 0], ?_⟩
   exact (by decide : 4 - 3 < 4 - 2)
  ·have e0 := h0 3 (by decide)
   unfold VM.crE at e0
   simp only at e0
   refine goA ?_
   refine AFn.useA [0] (mk4_ok (hok 3) (by omega) (by omega) (by omega)) fun _ => ?_
   rw [show VM.syncDirE (v.cr (segName id) (headB 1 id) 3) = 0 from e0]
   refine goA ?_
   refine ⟨⟨4, by decide⟩, Ent.mkA [some 0], ?_⟩
   exact (by decide : 4 - 4 < 4 - 3)
  ·refine goA ?_
   refine ⟨_, _, Ent.mk' (e' := [(0, .tup [.ptr 1 0, AV.int .i64 0])]) (H' := sgH ⟨⟨id, 16, 0, 0, 0⟩, 0⟩ (v.cr (segName id) (headB 1 id) 4)) [some 0, some 1] (by kernel_rfl) ?_ ?_, (), rfl, rfl⟩
   ·exact ⟨AVE.refl _, trivial⟩
   ·exact subC
end Go.Proofs.YtgfkepebfaiepaaGreatDoor.Ax

namespace Go.Proofs.YtgfkepebfaiepaaGreatDoor.Ax
open Go.RowKit
set_option maxRecDepth 100000
theorem parse_snoc (V : UInt8 → Option Nat) : ∀ (l : List UInt8) (c : UInt8) (n : Nat), parse V (l ++ [c]) n = (parse V l n).bind fun m => (V c).map fun d => 16 * m + d
 | [], c, n => by
   simp only [List.nil_append, parse, Option.bind_some]
   cases V c <;> rfl
 | a :: l, c, n => by
   simp only [List.cons_append, parse]
   cases V a with
   | none => rfl
   | some d => exact parse_snoc V l c _
theorem parse_app (V : UInt8 → Option Nat) : ∀ (l t : List UInt8) (n : Nat), parse V (l ++ t) n = (parse V l n).bind fun m => parse V t m
 | [], t, n => rfl
 | a :: l, t, n => by
   simp only [List.cons_append, parse]
   cases V a with
   | none => rfl
   | some d => exact parse_app V l t _
theorem u8or (c : UInt8) : bitK .or .u8 ((c.toNat : Nat) : Int) 32 = (((c ||| 32).toNat : Nat) : Int) := by
 show IntKind.u8.wrap ((BitVec.ofInt 8 (c.toNat : Int) ||| BitVec.ofInt 8 32).toNat : Nat) = _
 rw [BitVec.ofInt_natCast, UInt8.toNat_or, BitVec.toNat_or, BitVec.toNat_ofNat, Nat.mod_eq_of_lt c.toNat_lt]
 have h : (c ||| 32).toNat < 256 := (c ||| 32).toNat_lt
 rw [UInt8.toNat_or] at h
 show IntKind.u8.wrap (((c.toNat ||| (32 : UInt8).toNat : Nat)) : Int) = _
 generalize c.toNat ||| (32 : UInt8).toNat = x at *
 simp [IntKind.wrap, IntKind.bits, IntKind.signed]
 omega
theorem lower_ok (c : UInt8) : AFn Go.Proofs.Tryz.prog 189 [AV.int .u8 c.toNat] ⟨0, []⟩ (fun _ : Unit => AV.int .u8 (c ||| 32).toNat) (fun _ => ⟨0, []⟩) := by
 refine ACall.fin ?_
 refine ACall.walk (C := cfg 5 0) (cfgOk _ _) [] (fn := Go.Proofs.Tryz.f189) (by kernel_rfl) (by kernel_rfl) rfl (by kernel_rfl) (by kernel_rfl) rfl rfl ?_
 refine goA ?_
 refine ⟨_, _, Ent.mk' (e' := [(0, AV.int .u8 (c ||| 32).toNat)]) (H' := ⟨0, []⟩) [] (by kernel_rfl) ⟨AVE.int (u8or c), trivial⟩ trivial, (), rfl, rfl⟩
def parA (o : Option Nat) : AV := match o with
 | none => .tup [AV.int .u64 0, .iv (.ifc 270 (.v (.int .i64 2)))]
 | some n => .tup [AV.int .u64 n, .iv (.v .nilIface)]
theorem anyV_lt {c : UInt8} {d : Nat} (h : anyV c = some d) : d < 16 := by
 unfold anyV at h
 split at h
 ·injection h with h; omega
 ·split at h
  ·injection h with h; omega
  ·cases h
set_option maxHeartbeats 4000000 in
theorem parseI_ok (s : List UInt8) (h6 : s.length = 6) : AFn Go.Proofs.Tryz.prog 128 [.str s, AV.int .i64 16, AV.int .i64 32] ⟨0, []⟩ (fun _ : Unit => parA (parse anyV s 0)) (fun _ => ⟨0, []⟩) := by
 have hne : s ≠ [] := by intro h; rw [h] at h6; cases h6
 refine ACall.fin ?_
 refine ACall.walk (C := cfg 172 0) (cfgOk _ _) [] (fn := Go.Proofs.Tryz.f128) (by kernel_rfl) (by kernel_rfl) rfl (by kernel_rfl) (by kernel_rfl) rfl rfl ?_
 refine goA ?_
 rw [decide_eq_false (show ¬ (s = (⟨#[]⟩ : ByteArray).data.toList) from hne)]
 refine goA ?_
 refine AWP.loop (X := { p : Nat × Nat // p.1 ≤ 6 ∧ parse anyV (s.take p.1) 0 = some p.2 ∧ p.2 < 16 ^ p.1 }) (fun x => [(1, AV.int .i64 16), (8, AV.bool false), (9, .str s), (10, AV.int .u64 1152921504606846976), (11, AV.int .u64 4294967295), (12, AV.bool false), (13, AV.int .u64 x.1.2), (99, .row 0 1 0 6), (100, AV.int .i64 6), (101, AV.int .i64 x.1.1)]) (fun x => ⟨1, [(0, .brow 5 s)]⟩) (fun x => 6 - x.1.1) (⟨(0, 0), Nat.zero_le _, rfl, by decide⟩) ?_ fun x => AWP.go (S := []) (cfgOk _ _) (.of_eq (by kernel_rfl)) ?_
 ·exact Ent.mk' [some 0] (by kernel_rfl) ⟨AVE.refl _, AVE.refl _, AVE.refl _, AVE.refl _, AVE.int (by decide), AVE.refl _, AVE.refl _, AVE.len h6, AVE.int (by omega), AVE.refl _, trivial⟩ subC
 ·obtain ⟨⟨i, m⟩, hi, hp, hm⟩ := x
  dsimp only at hi hp hm ⊢
  refine goA ?_
  refine ifdA (fun h => ?_) (fun h => ?_) <;> (try dsimp only at h)
  ·have hlt : i < s.length := by omega
   have hsp : s.take (i + 1) = s.take i ++ [s.getD i 0] := by rw [List.take_succ_eq_append_getElem hlt]; simp [List.getD, hlt]
   have hpn := parse_snoc anyV (s.take i) (s.getD i 0) 0
   rw [← hsp, hp, Option.bind_some] at hpn
   have hall := parse_app anyV (s.take (i + 1)) (s.drop (i + 1)) 0
   rw [List.take_append_drop, hpn] at hall
   have hm5 : 16 ^ i ≤ 16 ^ 5 := Nat.pow_le_pow_right (by decide) (by omega)
   have hm6 : 16 ^ (i + 1) = 16 ^ i * 16 := Nat.pow_succ ..
   have h55 : (16 : Nat) ^ 5 = 1048576 := by decide
   have hg : s.getD ((i : Nat) : Int).toNat 0 = s.getD i 0 := rfl
   have hc := (s.getD i 0).toNat_lt
   have hlc := (s.getD i 0 ||| 32).toNat_lt
   have hlo := lower_ok (s.getD i 0)
   have hV : anyV (s.getD i 0) = if 48 ≤ (s.getD i 0).toNat ∧ (s.getD i 0).toNat ≤ 57 then some ((s.getD i 0).toNat - 48) else if 97 ≤ (s.getD i 0 ||| 32).toNat ∧ (s.getD i 0 ||| 32).toNat ≤ 102 then some ((s.getD i 0 ||| 32).toNat - 87) else none := rfl
   refine goA ?_
   rw [show s.getD (0 + ((i : Nat) : Int).toNat) 0 = s.getD i 0 by rw [Nat.zero_add]; rfl]
   generalize s.getD i 0 = c at *
   generalize (c ||| 32).toNat = lw at *
   generalize c.toNat = cn at *
   have hk : (48 ≤ cn ∧ cn ≤ 57) ∨ ((cn < 48 ∨ 57 < cn) ∧ (97 ≤ lw ∧ lw ≤ 102)) ∨ ((cn < 48 ∨ 57 < cn) ∧ (lw < 97 ∨ 102 < lw)) := by omega
   have hw : wrK IntKind.u8 16 = 16 := by decide
   rcases hk with hk | hk | hk
   ·have hn : anyV c = some (cn - 48) := by
     rw [hV]
     rw [if_pos (by omega)]
    rw [hn] at hpn
    repeat' (first | (refine ifdA (fun q => ?_) (fun q => ?_) <;> (try dsimp only at q) <;> first | (exfalso; omega) | (refine goA ?_)) | (refine AFn.useA [] (hlo) fun _ => ?_; (refine goA ?_)))
    all_goals
     refine ⟨⟨(i + 1, 16 * m + (cn - 48)), by omega, hpn, by show 16 * m + (cn - 48) < 16 ^ (i + 1); omega⟩, Ent.mkA [some 0], ?_⟩
     show 6 - (i + 1) < 6 - i
     omega
   ·have hn : anyV c = some (lw - 87) := by
     rw [hV]
     rw [if_neg (by omega), if_pos (by omega)]
    rw [hn] at hpn
    repeat' (first | (refine ifdA (fun q => ?_) (fun q => ?_) <;> (try dsimp only at q) <;> first | (exfalso; omega) | (refine goA ?_)) | (refine AFn.useA [] (hlo) fun _ => ?_; (refine goA ?_)))
    all_goals
     refine ⟨⟨(i + 1, 16 * m + (lw - 87)), by omega, hpn, by show 16 * m + (lw - 87) < 16 ^ (i + 1); omega⟩, Ent.mkA [some 0], ?_⟩
     show 6 - (i + 1) < 6 - i
     omega
   ·have hn : anyV c = none := by
     rw [hV]
     rw [if_neg (by omega), if_neg (by omega)]
    rw [hn] at hall
    rw [show parse anyV s 0 = none from hall]
    repeat' (first | (refine ifdA (fun q => ?_) (fun q => ?_) <;> (try dsimp only at q) <;> first | (exfalso; omega) | (refine goA ?_)) | (refine AFn.useA [] (hlo) fun _ => ?_; (refine goA ?_)))
    all_goals
     refine ⟨_, _, Ent.mk' (e' := [(0, parA none)]) (H' := ⟨0, []⟩) [] (by kernel_rfl) ?_ ?_, (), rfl, rfl⟩
     ·exact ⟨AVE.refl _, trivial⟩
     ·trivial
  ·have : i = 6 := by omega
   subst this
   rw [List.take_of_length_le (by omega)] at hp
   rw [hp]
   refine goA ?_
   refine ⟨_, _, Ent.mk' (e' := [(0, parA (some m))]) (H' := ⟨0, []⟩) [] (by kernel_rfl) ?_ ?_, (), rfl, rfl⟩
   ·exact ⟨AVE.refl _, trivial⟩
   ·trivial
theorem parseS_ok (s : List UInt8) (h6 : s.length = 6) {n : Nat} (h : parse anyV s 0 = some n) : AFn Go.Proofs.Tryz.prog 64 [.str s, AV.int .i64 16, AV.int .i64 32] ⟨0, []⟩ (fun _ : Unit => .tup [AV.int .u64 n, .iv (.v .nilIface)]) (fun _ => ⟨0, []⟩) := by
 have hp := parseI_ok s h6
 rw [h] at hp
 have hp : AFn Go.Proofs.Tryz.prog 128 [.str s, AV.int .i64 16, AV.int .i64 32] ⟨0, []⟩ (fun _ : Unit => .tup [AV.int .u64 n, .iv (.v .nilIface)]) (fun _ => ⟨0, []⟩) := hp
 refine ACall.fin ?_
 refine ACall.walk (C := cfg 26 0) (cfgOk _ _) [] (fn := Go.Proofs.Tryz.f64) (by kernel_rfl) (by kernel_rfl) rfl (by kernel_rfl) (by kernel_rfl) rfl rfl ?_
 refine goA ?_
 refine AFn.useA [] (hp) fun _ => ?_
 refine goA ?_
 refine ⟨_, _, Ent.mk' (e' := [(0, .tup [AV.int .u64 n, .iv (.v .nilIface)])]) (H' := ⟨0, []⟩) [] (by kernel_rfl) ?_ ?_, (), rfl, rfl⟩
 ·exact ⟨AVE.refl _, trivial⟩
 ·trivial
theorem parse_lt (V : UInt8 → Option Nat) (hV : ∀ c d, V c = some d → d < 16) : ∀ (l : List UInt8) (n m : Nat), parse V l n = some m → m < 16 ^ l.length * (n + 1)
 | [], n, m, h => by
   simp only [parse, Option.some.injEq] at h
   simp
   omega
 | c :: t, n, m, h => by
   simp only [parse] at h
   cases hc : V c with
   | none => rw [hc] at h; cases h
   | some d =>
     rw [hc] at h
     have h1 := parse_lt V hV t _ _ h
     have h2 := hV c d hc
     refine Nat.lt_of_lt_of_le h1 ?_
     rw [List.length_cons, Nat.pow_succ, Nat.mul_assoc]
     exact Nat.mul_le_mul_left _ (by omega)
theorem segId_some (x : List UInt8) (hl : x.length = 10) {n : Nat} (h : parse anyV (x.drop 4) 0 = some n) : AFn Go.Proofs.Tryz.prog 11 [.str x] ⟨0, []⟩ (fun _ : Unit => .tup [AV.int .u32 (idP x).1, AV.bool (idP x).2]) (fun _ => ⟨0, []⟩) := by
 have e : idP x = if segName n = x then (n, true) else (0, false) := by
  unfold idP
  rw [if_neg (not_not_intro hl), h]
 have h6 : (x.drop 4).length = 6 := by rw [List.length_drop, hl]
 have hlt := parse_lt anyV (fun _ _ h => anyV_lt h) _ _ _ h
 rw [h6] at hlt
 have hlt : n < 16777216 := by simpa using hlt
 have hw : wrK .u32 (n : Int) = (n : Int) := by
  show (n : Int) % 4294967296 = _
  omega
 have hpo := parseS_ok _ h6 h
 rw [e]
 refine ACall.fin ?_
 refine ACall.walk (C := cfg 26 0) (cfgOk _ _) [] (fn := Go.Proofs.Tryz.f11) (by kernel_rfl) (by kernel_rfl) rfl (by kernel_rfl) (by kernel_rfl) rfl rfl ?_
 refine goA ?_
 rw [decide_eq_false (show ¬ (x.length : Int) ≠ 10 by omega)]
 refine goA ?_
 rw [show List.take ((x.length : Int).toNat - Int.toNat 4) (List.drop (Int.toNat 4) x) = x.drop 4 from dropI x 4]
 refine AFn.useA [] (hpo) fun _ => ?_
 refine goA ?_
 rw [hw]
 refine AFn.useA [] (segName_ok n (by omega)) fun _ => ?_
 by_cases hn : segName n = x
 ·rw [if_pos hn]
  refine goA ?_
  rw [decide_eq_false (show ¬ segName n ≠ x from fun h => h hn)]
  refine goA ?_
  rw [hw]
  refine ⟨_, _, Ent.mk' (e' := [(0, .tup [AV.int .u32 n, AV.bool true])]) (H' := ⟨0, []⟩) [] (by kernel_rfl) ?_ ?_, (), rfl, rfl⟩
  ·exact ⟨AVE.refl _, trivial⟩
  ·trivial
 ·rw [if_neg hn]
  refine goA ?_
  rw [decide_eq_true (show segName n ≠ x from hn)]
  refine goA ?_
  refine ⟨_, _, Ent.mk' (e' := [(0, .tup [AV.int .u32 0, AV.bool false])]) (H' := ⟨0, []⟩) [] (by kernel_rfl) ?_ ?_, (), rfl, rfl⟩
  ·exact ⟨AVE.refl _, trivial⟩
  ·trivial
end Go.Proofs.YtgfkepebfaiepaaGreatDoor.Ax
