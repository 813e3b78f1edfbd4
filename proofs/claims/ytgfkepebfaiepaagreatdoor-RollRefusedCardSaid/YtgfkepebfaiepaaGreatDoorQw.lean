/-
  Chapter 11: segments.
-/
import Derived.Test.YtgfkepebfaiepaaGreatDoorQv
import Derived.Test.YtgfkepebfaiepaaGreatDoorQs
namespace Go.Proofs.YtgfkepebfaiepaaGreatDoor.Ax
open Go.RowKit
set_option maxRecDepth 100000
structure SG where
 s : Sl
 safe : Nat
def sgC (h : Nat) (g : SG) : List AV := [.ptr h 0, AV.int .u32 g.s.id, AV.int .u32 g.s.size, AV.int .u32 g.s.many, AV.int .u64 g.s.first, AV.int .u64 g.s.last, AV.int .u64 g.safe]
@[reducible] def sgH (g : SG) (v : VM) : AH := ⟨2, [(0, .sem (fsV v)), (1, .cells 192 (sgC 0 g))]⟩
theorem segNone_ok (g : SG) (v : VM) : AFn Go.Proofs.Tryz.prog 118 [.ptr 1 0] (sgH g v) (fun _ : Unit => AV.bool false) (fun _ => sgH g v) := by
 refine ACall.fin ?_
 refine ACall.walk (C := cfg 12 2) (cfgOk _ _) [] (fn := Go.Proofs.Tryz.f118) (by kernel_rfl) (by kernel_rfl) rfl (by kernel_rfl) (by kernel_rfl) rfl rfl ?_
 refine goA ?_
 refine ⟨_, _, Ent.mk' (e' := [(0, AV.bool false)]) (H' := sgH g v) [some 0, some 1] (by kernel_rfl) ?_ ?_, (), rfl, rfl⟩
 ·exact ⟨AVE.refl _, trivial⟩
 ·exact subC
theorem segAsks_ok (n : Nat) (v : VM) : AFn Go.Proofs.Tryz.prog 110 [.ptr 0 0, AV.int .u32 n] (fone v) (fun _ : Unit => AV.int .i64 (if IsId n then 0 else 1)) (fun _ => fone v) := by
 refine ACall.fin ?_
 refine ACall.walk (C := cfg 12 1) (cfgOk _ _) [] (fn := Go.Proofs.Tryz.f110) (by kernel_rfl) (by kernel_rfl) rfl (by kernel_rfl) (by kernel_rfl) rfl rfl ?_
 refine goA ?_
 refine AFn.useA [] (segIs_ok n) fun _ => ?_
 by_cases h : IsId n
 ·rw [decide_eq_true h, if_pos h]
  refine goA ?_
  refine ⟨_, _, Ent.mk' (e' := [(0, AV.int .i64 0)]) (H' := fone v) [some 0] (by kernel_rfl) ?_ ?_, (), rfl, rfl⟩
  ·exact ⟨AVE.refl _, trivial⟩
  ·exact subC
 ·rw [decide_eq_false h, if_neg h]
  refine goA ?_
  refine ⟨_, _, Ent.mk' (e' := [(0, AV.int .i64 1)]) (H' := fone v) [some 0] (by kernel_rfl) ?_ ?_, (), rfl, rfl⟩
  ·exact ⟨AVE.refl _, trivial⟩
  ·exact subC
theorem segSeal_ok (g : SG) (v : VM) : AFn Go.Proofs.Tryz.prog 57 [.ptr 1 0] (sgH g v) (fun _ : Unit => slA g.s) (fun _ => sgH g v) := by
 refine ACall.fin ?_
 refine ACall.walk (C := cfg 10 2) (cfgOk _ _) [] (fn := Go.Proofs.Tryz.f57) (by kernel_rfl) (by kernel_rfl) rfl (by kernel_rfl) (by kernel_rfl) rfl rfl ?_
 refine goA ?_
 refine AFn.useA [0, 1] (segNone_ok g v) fun _ => ?_
 refine goA ?_
 refine ⟨_, _, Ent.mk' (e' := [(0, slA g.s)]) (H' := sgH g v) [some 0, some 1] (by kernel_rfl) ?_ ?_, (), rfl, rfl⟩
 ·exact ⟨AVE.refl _, trivial⟩
 ·exact subC
section
variable {n B k : Nat} {v : VM} (hv : v.Ok n B k) (hn : n ≤ 490) (hB : B ≤ 80000000) (hk : k ≤ 900000000)
include hv hn hB hk
theorem segSync_ok (g : SG) (hid : g.s.id < 4294967296) : AFn Go.Proofs.Tryz.prog 59 [.ptr 1 0] (sgH g v) (fun _ : Unit => AV.int .i64 (v.syncE (segName g.s.id))) (fun _ => sgH (if v.syncE (segName g.s.id) = 0 then { g with safe := g.s.last } else g) (v.sync (segName g.s.id))) := by
 refine ACall.fin ?_
 refine ACall.walk (C := cfg 28 2) (cfgOk _ _) sch59 (fn := Go.Proofs.Tryz.f59) (by kernel_rfl) (by kernel_rfl) rfl (by kernel_rfl) (by kernel_rfl) rfl rfl ?_
 refine goA ?_
 refine AFn.useA [0, 1] (segNone_ok g v) fun _ => ?_
 refine goA ?_
 repeat' (first | (refine And.intro ?_ ?_ <;> (refine goA ?_)) | (refine AFn.useA [] (segName_ok g.s.id hid) fun _ => ?_; (refine goA ?_)) | (refine AFn.useA [0] (fsSync hv hn hB hk (segName g.s.id)) fun _ => ?_; (refine goA ?_)))
 all_goals
  refine ifdA (fun h => ?_) (fun h => ?_) <;> (try dsimp only at h)
  ·rw [if_pos h]
   refine goA ?_
   refine ⟨_, _, Ent.mk' (e' := [(0, AV.int .i64 (v.syncE (segName g.s.id)))]) (H' := sgH { g with safe := g.s.last } (v.sync (segName g.s.id))) [some 0, some 1] (by kernel_rfl) ?_ ?_, (), rfl, rfl⟩
   ·exact ⟨AVE.refl _, trivial⟩
   ·exact subC
  ·rw [if_neg h]
   refine goA ?_
   refine ⟨_, _, Ent.mk' (e' := [(0, AV.int .i64 (v.syncE (segName g.s.id)))]) (H' := sgH g (v.sync (segName g.s.id))) [some 0, some 1] (by kernel_rfl) ?_ ?_, (), rfl, rfl⟩
   ·exact ⟨AVE.refl _, trivial⟩
   ·exact subC
end
end Go.Proofs.YtgfkepebfaiepaaGreatDoor.Ax

namespace Go.Proofs.YtgfkepebfaiepaaGreatDoor.Ax
open Go.RowKit
set_option maxRecDepth 100000
def SG.badE (g : SG) (r : Rec) : Int := if ¬ r.May ∨ r.seq ≤ g.s.last then 1 else if 16777216 - (g.s.size : Int) < (r.size : Int) then 7 else 0
def SG.appE (g : SG) (v : VM) (r : Rec) : Int := if g.badE r ≠ 0 then g.badE r else v.appendE (segName g.s.id) r.enc
def SG.appV (g : SG) (v : VM) (r : Rec) : VM := if g.badE r ≠ 0 then v else v.append (segName g.s.id) r.enc
def SG.more (g : SG) (r : Rec) : SG := ⟨⟨g.s.id, g.s.size + r.size, g.s.many + 1, if g.s.many = 0 then r.seq else g.s.first, r.seq⟩, g.safe⟩
def SG.appG (g : SG) (v : VM) (r : Rec) : SG := if g.appE v r = 0 then g.more r else g
def SG.appL (g : SG) (v : VM) (r : Rec) : AV := if g.appE v r = 0 then locA g.s.id g.s.size else locA 0 0
noncomputable def cfgAp (N b : Nat) : Cfg := cfgX [1007, 1009] N b
theorem cfgApOk (N b : Nat) : (cfgAp N b).Ok := cfgXOk _ _ _
def SG.rd (v : VM) (x : List UInt8) (off m : Nat) : Rec × Int := if v.readE x off m = 0 then (if (getR (v.read x off m)).2.2 = 0 then ((getR (v.read x off m)).1, 0) else (default, 36)) else if v.readE x off m = 4 then (default, 36) else (default, v.readE x off m)
def SG.read (g : SG) (v : VM) (sg off : Nat) : Rec × Int := if sg ≠ g.s.id ∨ off < 16 ∨ g.s.size ≤ off then (default, 1) else SG.rd v (segName sg) off (min 1113 (g.s.size - off))
theorem recZ2 (x : AV) : AVE (.tup [.agg zeroC, x]) (.tup [recA default, x]) := AVE.tupE ⟨AVE.aggE ⟨AVE.refl _, AVE.refl _, AVE.nilBs, AVE.nilBs, AVE.refl _, AVE.refl _, rfl⟩, AVE.refl _, rfl⟩
theorem read_len (v : VM) (x : List UInt8) (a m : Int) : (v.read x a m).length ≤ m.toNat := by
 unfold VM.read
 split
 ·unfold FI.read
  split
  ·rw [List.length_take]
   omega
  ·simp
 ·simp
noncomputable def cfgRd (N b : Nat) : Cfg := { P := Go.Proofs.Tryz.prog, T := tt, wr := false, N := N, pure := [13, 112], base := b, frz := frzF }
theorem cfgRdOk (N b : Nat) : (cfgRd N b).Ok := ⟨ttOk, ttBytes, by kernel_rfl⟩
def schRd : List (Nat × Sched) := [(3, .take 0 (.take 1 (.take 2 (.take 3 (.take 4 (.take 5 (.take 6 (.take 7 (.take 8 (.take 9 (.take 10 (.take 11 (.take 12 (.take 13 (.take 14 (.take 15 (.take 16 (.take 17 (.take 18 (.take 19 (.take 20 (.take 21 (.take 22 (.take 23 (.done))))))))))))))))))))))))), (5, .take 0 (.take 1 (.take 2 (.take 3 (.take 4 (.take 5 (.take 7 (.take 8 (.take 9 (.take 10 (.take 11 (.take 12 (.take 13 (.take 14 (.take 15 (.take 16 (.take 17 (.take 18 (.take 19 (.take 6 (.take 20 (.take 21 (.take 22 (.take 23 (.take 24 (.take 25 (.done)))))))))))))))))))))))))))]
section
variable {n B k : Nat} {v : VM} (hv : v.Ok n B k) (hn : n ≤ 490) (hB : B ≤ 80000000) (hk : k ≤ 900000000)
include hv hn hB hk
theorem segApp_ok (g : SG) (r : Rec) (hr : r.B) (hid : g.s.id < 4294967296) (hsz : g.s.size ≤ 16777216) (hm : g.s.many < 4294967295) : AFn Go.Proofs.Tryz.prog 62 [.ptr 1 0, recA r] (sgH g v) (fun _ : Unit => .tup [g.appL v r, AV.int .i64 (g.appE v r)]) (fun _ => sgH (g.appG v r) (g.appV v r)) := by
 have bad : g.badE r ≠ 0 → g.appE v r = g.badE r ∧ g.appG v r = g ∧ g.appV v r = v ∧ g.appL v r = locA 0 0 := fun h => by
  have e1 : g.appE v r = g.badE r := if_pos h
  exact ⟨e1, if_neg (by rw [e1]; exact h), if_pos h, if_neg (by rw [e1]; exact h)⟩
 refine ACall.fin ?_
 refine ACall.walk (C := cfgAp 113 2) (cfgApOk _ _) sch62 (fn := Go.Proofs.Tryz.f62) (by kernel_rfl) (by kernel_rfl) rfl (by kernel_rfl) (by kernel_rfl) rfl rfl ?_
 refine goA ?_
 refine AFn.useA [0, 1] (segNone_ok g v) fun _ => ?_
 refine goA ?_
 refine AFn.useA [] (recMay_ok r hr) fun _ => ?_
 by_cases h1 : r.May
 ·rw [decide_eq_true h1]
  have hsz2 := May.size h1
  have hel := enc_len r
  refine goA ?_
  refine ifdA (fun q1 => ?_) (fun q1 => ?_) <;> (try dsimp only at q1)
  ·have e0 : g.badE r = 1 := if_pos (.inr (by omega))
   obtain ⟨e1, e2, e3, e4⟩ := bad (by rw [e0]; decide)
   rw [e1, e2, e3, e4, e0]
   refine goA ?_
   refine ⟨_, _, Ent.mk' (e' := [(0, .tup [locA 0 0, AV.int .i64 1])]) (H' := sgH g v) [some 0, some 1] (by kernel_rfl) ?_ ?_, (), rfl, rfl⟩
   ·exact ⟨AVE.refl _, trivial⟩
   ·exact subC
  ·have e00 : g.badE r = if 16777216 - (g.s.size : Int) < (r.size : Int) then 7 else 0 := if_neg (by rintro (h | h); exact h h1; omega)
   by_cases h3 : 16777216 - (g.s.size : Int) < (r.size : Int)
   ·have e0 : g.badE r = 7 := by rw [e00, if_pos h3]
    obtain ⟨e1, e2, e3, e4⟩ := bad (by rw [e0]; decide)
    rw [e1, e2, e3, e4, e0]
    refine goA ?_
    repeat' (first | (refine And.intro ?_ ?_ <;> (refine goA ?_)) | (refine AFn.useA [] (recSize_ok r hr) fun _ => ?_; (refine goA ?_)))
    all_goals
     refine ifdA (fun q2 => ?_) (fun q2 => ?_) <;> (try dsimp only at q2)
     ·refine goA ?_
      refine ⟨_, _, Ent.mk' (e' := [(0, .tup [locA 0 0, AV.int .i64 7])]) (H' := sgH g v) [some 0, some 1] (by kernel_rfl) ?_ ?_, (), rfl, rfl⟩
      ·exact ⟨AVE.refl _, trivial⟩
      ·exact subC
     ·exact absurd h3 (by omega)
   ·have e0 : g.badE r = 0 := by rw [e00, if_neg h3]
    have e1 : g.appE v r = v.appendE (segName g.s.id) r.enc := if_neg (by rw [e0]; decide)
    have e2 : g.appV v r = v.append (segName g.s.id) r.enc := if_neg (by rw [e0]; decide)
    have e3 : g.appG v r = if v.appendE (segName g.s.id) r.enc = 0 then g.more r else g := by unfold SG.appG; rw [e1]
    have e4 : g.appL v r = if v.appendE (segName g.s.id) r.enc = 0 then locA g.s.id g.s.size else locA 0 0 := by unfold SG.appL; rw [e1]
    rw [e1, e2, e3, e4]
    apply AWP.ahead (C := cfgAp 113 2) ([(0, .ptr 1 0), (3, .ptr 2 0), (4, .ptr 3 0), (6, .iv (.bs r.enc)), (8, AV.int .i64 (v.appendE (segName g.s.id) r.enc))]) (⟨4, [(0, .sem (fsV (v.append (segName g.s.id) r.enc))), (1, .cells 192 (sgC 0 g)), (2, .cells 50 (recC r)), (3, .cells 48 [AV.int .u32 0, AV.int .u32 0])]⟩)
    ·intro key
     apply AWP.ahead (C := cfgAp 113 2) ([(0, .ptr 1 0), (3, .ptr 2 0), (4, .ptr 3 0)]) (⟨4, [(0, .sem (fsV v)), (1, .cells 192 (sgC 0 g)), (2, .cells 50 (recC r)), (3, .cells 48 [AV.int .u32 0, AV.int .u32 0])]⟩)
     ·intro key2
      refine goA ?_
      repeat' (first | (refine And.intro ?_ ?_ <;> (refine goA ?_)) | (refine AFn.useA [] (recSize_ok r hr) fun _ => ?_; (refine goA ?_)))
      all_goals
       refine ifdA (fun q2 => ?_) (fun q2 => ?_) <;> (try dsimp only at q2)
       ·exact absurd (show 16777216 - (g.s.size : Int) < (r.size : Int) by omega) h3
       ·refine AWP.of_ent ?_ key2
        exact Ent.mkA [some 0, some 1, some 2, some 3]
     refine AWP.reg (cfgApOk _ _) ?_
     refine goA ?_
     refine AFn.useA [] (recPut_ok r h1) fun _ => ?_
     refine goA ?_
     repeat' (first | (refine And.intro ?_ ?_ <;> (refine goA ?_)) | (refine AFn.useA [] (segName_ok g.s.id hid) fun _ => ?_; (refine goA ?_)) | (refine AFn.useA [0] (fsAppend hv hn hB hk (segName g.s.id) r.enc (by omega)) fun _ => ?_; (refine goA ?_)))
     all_goals
      refine AWP.of_ent ?_ key
      exact Ent.mkA [some 0, some 1, some 2, some 3]
    refine AWP.reg (cfgApOk _ _) ?_
    generalize v.appendE (segName g.s.id) r.enc = E at *
    refine goA ?_
    refine ifdA (fun q3 => ?_) (fun q3 => ?_) <;> (try dsimp only at q3)
    ·rw [if_neg q3, if_neg q3]
     refine goA ?_
     refine ⟨_, _, Ent.mk' (e' := [(0, .tup [locA 0 0, AV.int .i64 E])]) (H' := sgH g (v.append (segName g.s.id) r.enc)) [some 0, some 1] (by kernel_rfl) ?_ ?_, (), rfl, rfl⟩
     ·exact ⟨AVE.refl _, trivial⟩
     ·exact subC
    ·have q3 : E = 0 := by omega
     rw [if_pos q3, if_pos q3, q3]
     have hw : wrK .u32 ((r.enc.length : Nat) : Int) = (r.size : Int) := by
      rw [hel]
      show ((r.size : Nat) : Int) % 4294967296 = _
      omega
     refine goA ?_
     rw [hw]
     refine goA ?_
     refine ifdA (fun q4 => ?_) (fun q4 => ?_) <;> (try dsimp only at q4)
     ·have hf : (g.more r).s.first = r.seq := if_pos (by omega)
      refine goA ?_
      refine ⟨_, _, Ent.mk' (e' := [(0, .tup [locA g.s.id g.s.size, AV.int .i64 0])]) (H' := sgH (g.more r) (v.append (segName g.s.id) r.enc)) [some 0, some 1] (by kernel_rfl) ⟨AVE.refl _, trivial⟩ ⟨⟨_, rfl, ChE.refl _⟩, ⟨_, rfl, ChE.cells (by exact ⟨AVE.refl _, AVE.refl _, AVE.int rfl, AVE.int rfl, AVE.int (congrArg (fun n : Nat => (n : Int)) hf.symm), AVE.refl _, AVE.refl _, rfl⟩)⟩, trivial⟩, (), rfl, rfl⟩
     ·have hf : (g.more r).s.first = g.s.first := if_neg (by omega)
      refine goA ?_
      refine ⟨_, _, Ent.mk' (e' := [(0, .tup [locA g.s.id g.s.size, AV.int .i64 0])]) (H' := sgH (g.more r) (v.append (segName g.s.id) r.enc)) [some 0, some 1] (by kernel_rfl) ⟨AVE.refl _, trivial⟩ ⟨⟨_, rfl, ChE.refl _⟩, ⟨_, rfl, ChE.cells (by exact ⟨AVE.refl _, AVE.refl _, AVE.int rfl, AVE.int rfl, AVE.int (congrArg (fun n : Nat => (n : Int)) hf.symm), AVE.refl _, AVE.refl _, rfl⟩)⟩, trivial⟩, (), rfl, rfl⟩
 ·rw [decide_eq_false h1]
  have e0 : g.badE r = 1 := if_pos (.inl h1)
  obtain ⟨e1, e2, e3, e4⟩ := bad (by rw [e0]; decide)
  rw [e1, e2, e3, e4, e0]
  refine goA ?_
  refine ⟨_, _, Ent.mk' (e' := [(0, .tup [locA 0 0, AV.int .i64 1])]) (H' := sgH g v) [some 0, some 1] (by kernel_rfl) ?_ ?_, (), rfl, rfl⟩
  ·exact ⟨AVE.refl _, trivial⟩
  ·exact subC
omit hn hk in
theorem segRead_ok (g : SG) (sg off : Nat) (hid : sg < 4294967296) (hsz : g.s.size ≤ 4294967295) : AFn Go.Proofs.Tryz.prog 58 [.ptr 1 0, locA sg off] (sgH g v) (fun _ : Unit => .tup [recA (g.read v sg off).1, AV.int .i64 (g.read v sg off).2]) (fun _ => sgH g v) := by
 refine ACall.fin ?_
 refine ACall.walk (C := cfgRd 81 2) (cfgRdOk _ _) schRd (fn := Go.Proofs.Tryz.f58) (by kernel_rfl) (by kernel_rfl) rfl (by kernel_rfl) (by kernel_rfl) rfl rfl ?_
 refine goA ?_
 refine AFn.useA [0, 1] (segNone_ok g v) fun _ => ?_
 refine goA ?_
 by_cases hb : sg ≠ g.s.id ∨ off < 16 ∨ g.s.size ≤ off
 ·have e : g.read v sg off = (default, 1) := if_pos hb
  rw [e]
  repeat' (refine ifdA (fun q => ?_) (fun q => ?_) <;> (try dsimp only at q) <;> (refine goA ?_))
  all_goals first
   | (exfalso; omega)
   | (refine ⟨_, _, Ent.mk' (e' := [(0, .tup [recA default, AV.int .i64 1])]) (H' := sgH g v) [some 0, some 1] (by kernel_rfl) ?_ ?_, (), rfl, rfl⟩
      ·exact ⟨recZ2 _, trivial⟩
      ·exact subC)
 ·have e : g.read v sg off = SG.rd v (segName sg) off (min 1113 (g.s.size - off)) := if_neg hb
  have hm : ((min 1113 (g.s.size - off) : Nat) : Int) = min 1113 ((g.s.size : Int) - (off : Int)) := by omega
  have hG := recGet_ok (v.read (segName sg) (off : Int) ((min 1113 (g.s.size - off) : Nat) : Int)) (by have := read_len v (segName sg) (off : Int) ((min 1113 (g.s.size - off) : Nat) : Int); omega)
  have hF := fsReadAt hv hB (segName sg) (off : Int) ((min 1113 (g.s.size - off) : Nat) : Int)
  rw [e]
  unfold SG.rd
  rw [hm] at *
  generalize v.readE (segName sg) (off : Int) (min 1113 ((g.s.size : Int) - (off : Int))) = E at *
  generalize v.read (segName sg) (off : Int) (min 1113 ((g.s.size : Int) - (off : Int))) = D at *
  generalize getR D = G at *
  refine ifdA (fun q => ?_) (fun q => ?_) <;> (try dsimp only at q)
  ·exact absurd (.inl (by omega)) hb
  refine goA ?_
  refine ifdA (fun q => ?_) (fun q => ?_) <;> (try dsimp only at q)
  ·exact absurd (.inr (.inl (by omega))) hb
  refine goA ?_
  refine ifdA (fun q => ?_) (fun q => ?_) <;> (try dsimp only at q)
  ·exact absurd (.inr (.inr (by omega))) hb
  refine goA ?_
  repeat' (first | (refine And.intro ?_ ?_ <;> (refine goA ?_)) | (refine AFn.useA [] (segName_ok sg hid) fun _ => ?_; (refine goA ?_)) | (refine AFn.useA [0] (hF) fun _ => ?_; (refine goA ?_)))
  refine ifdA (fun h0 => ?_) (fun h0 => ?_) <;> (try dsimp only at h0)
  ·rw [if_pos h0]
   refine goA ?_
   refine AFn.useA [] (hG) fun _ => ?_
   refine goA ?_
   refine ifdA (fun h1 => ?_) (fun h1 => ?_) <;> (try dsimp only at h1)
   ·rw [if_neg (show ¬ G.2.2 = 0 by omega)]
    refine goA ?_
    refine ⟨_, _, Ent.mk' (e' := [(0, .tup [recA default, AV.int .i64 36])]) (H' := sgH g v) [some 0, some 1] (by kernel_rfl) ?_ ?_, (), rfl, rfl⟩
    ·exact ⟨recZ2 _, trivial⟩
    ·exact subC
   ·rw [if_pos (show G.2.2 = 0 by omega)]
    refine goA ?_
    refine ⟨_, _, Ent.mk' (e' := [(0, .tup [recA G.1, AV.int .i64 0])]) (H' := sgH g v) [some 0, some 1] (by kernel_rfl) ?_ ?_, (), rfl, rfl⟩
    ·exact ⟨AVE.refl _, trivial⟩
    ·exact subC
  ·rw [if_neg h0]
   refine goA ?_
   refine ifdA (fun h1 => ?_) (fun h1 => ?_) <;> (try dsimp only at h1)
   ·rw [if_pos h1]
    refine goA ?_
    refine ⟨_, _, Ent.mk' (e' := [(0, .tup [recA default, AV.int .i64 36])]) (H' := sgH g v) [some 0, some 1] (by kernel_rfl) ?_ ?_, (), rfl, rfl⟩
    ·exact ⟨recZ2 _, trivial⟩
    ·exact subC
   ·rw [if_neg h1]
    refine goA ?_
    refine ⟨_, _, Ent.mk' (e' := [(0, .tup [recA default, AV.int .i64 E])]) (H' := sgH g v) [some 0, some 1] (by kernel_rfl) ?_ ?_, (), rfl, rfl⟩
    ·exact ⟨recZ2 _, trivial⟩
    ·exact subC
end
end Go.Proofs.YtgfkepebfaiepaaGreatDoor.Ax

namespace Go.Proofs.YtgfkepebfaiepaaGreatDoor.Ax
open Go.RowKit
set_option maxRecDepth 100000
theorem segOf_ok (s : Sl) (v : VM) (hi : IsId s.id) (h1 : 16 ≤ s.size) (h2 : s.size ≤ 16777216) : AFn Go.Proofs.Tryz.prog 56 [.ptr 0 0, slA s] (fone v) (fun _ : Unit => .tup [.ptr 1 0, AV.int .i64 0]) (fun _ => sgH ⟨s, s.last⟩ v) := by
 refine ACall.fin ?_
 refine ACall.walk (C := cfg 32 1) (cfgOk _ _) [] (fn := Go.Proofs.Tryz.f56) (by kernel_rfl) (by kernel_rfl) rfl (by kernel_rfl) (by kernel_rfl) rfl rfl ?_
 refine goA ?_
 refine AFn.useA [0] (segAsks_ok s.id v) fun _ => ?_
 rw [if_pos hi]
 refine goA ?_
 repeat' (refine ifdA (fun q => ?_) (fun q => ?_) <;> (try dsimp only at q) <;> (refine goA ?_))
 all_goals first
  | (exfalso; omega)
  | (refine ⟨_, _, Ent.mk' (e' := [(0, .tup [.ptr 1 0, AV.int .i64 0])]) (H' := sgH ⟨s, s.last⟩ v) [some 0, some 2] (by kernel_rfl) ?_ ?_, (), rfl, rfl⟩
     ·exact ⟨AVE.refl _, trivial⟩
     ·exact subC)
end Go.Proofs.YtgfkepebfaiepaaGreatDoor.Ax

namespace Go.Proofs.YtgfkepebfaiepaaGreatDoor.Ax
open Go.RowKit
set_option maxRecDepth 100000
def VM.cr (v : VM) (x b : List UInt8) : Nat → VM
 | 0 => v
 | 1 => v.create x
 | 2 => (v.create x).append x b
 | 3 => ((v.create x).append x b).sync x
 | _ => (((v.create x).append x b).sync x).syncDir
def VM.crE (v : VM) (x b : List UInt8) : Nat → Int
 | 0 => v.createE x
 | 1 => (v.create x).appendE x b
 | 2 => ((v.create x).append x b).syncE x
 | _ => (((v.create x).append x b).sync x).syncDirE
theorem VM.Ok.cr {n B k : Nat} {v : VM} (h : v.Ok n B k) (x b : List UInt8) (i : Nat) : (v.cr x b i).Ok (n + 3) (B + b.length) (k + 4) := by
 unfold VM.cr
 split
 ·exact h.more (by omega) (by omega) (by omega)
 ·exact (h.create x).more (by omega) (by omega) (by omega)
 ·exact ((h.create x).append x b).more (by omega) (by omega) (by omega)
 ·exact (((h.create x).append x b).sync x).more (by omega) (by omega) (by omega)
 ·exact ((((h.create x).append x b).sync x).syncDir).more (by omega) (by omega) (by omega)
section
variable {n B k : Nat} {v : VM} (hv : v.Ok n B k) (hn : n ≤ 490) (hB : B ≤ 80000000) (hk : k ≤ 900000000)
include hv hn hB hk
theorem mk1_ok (x : List UInt8) : AFn Go.Proofs.Tryz.prog 138 [.pp [.ptr 0 0], .iv (.pp [.str x])] (fone v) (fun _ : Unit => AV.int .i64 (v.createE x)) (fun _ => fone (v.create x)) := by
 refine ACall.fin ?_
 refine ACall.walk (C := cfg 6 1) (cfgOk _ _) [] (fn := Go.Proofs.Tryz.f138) (by kernel_rfl) (by kernel_rfl) rfl (by kernel_rfl) (by kernel_rfl) rfl rfl ?_
 refine goA ?_
 refine AFn.useA [0] (fsCreate hv hn hB hk x) fun _ => ?_
 refine goA ?_
 refine ⟨_, _, Ent.mk' (e' := [(0, AV.int .i64 (v.createE x))]) (H' := fone (v.create x)) [some 0] (by kernel_rfl) ?_ ?_, (), rfl, rfl⟩
 ·exact ⟨AVE.refl _, trivial⟩
 ·exact subC
theorem mk2_ok (x b : List UInt8) (hb : b.length ≤ 10000000) : AFn Go.Proofs.Tryz.prog 140 [.pp [.ptr 0 0], .iv (.pp [.str x]), .iv (.pp [.bs b])] (fone v) (fun _ : Unit => AV.int .i64 (v.appendE x b)) (fun _ => fone (v.append x b)) := by
 refine ACall.fin ?_
 refine ACall.walk (C := cfg 8 1) (cfgOk _ _) [] (fn := Go.Proofs.Tryz.f140) (by kernel_rfl) (by kernel_rfl) rfl (by kernel_rfl) (by kernel_rfl) rfl rfl ?_
 refine goA ?_
 refine AFn.useA [0] (fsAppend hv hn hB hk x b hb) fun _ => ?_
 refine goA ?_
 refine ⟨_, _, Ent.mk' (e' := [(0, AV.int .i64 (v.appendE x b))]) (H' := fone (v.append x b)) [some 0] (by kernel_rfl) ?_ ?_, (), rfl, rfl⟩
 ·exact ⟨AVE.refl _, trivial⟩
 ·exact subC
theorem mk3_ok (x : List UInt8) : AFn Go.Proofs.Tryz.prog 141 [.pp [.ptr 0 0], .iv (.pp [.str x])] (fone v) (fun _ : Unit => AV.int .i64 (v.syncE x)) (fun _ => fone (v.sync x)) := by
 refine ACall.fin ?_
 refine ACall.walk (C := cfg 6 1) (cfgOk _ _) [] (fn := Go.Proofs.Tryz.f141) (by kernel_rfl) (by kernel_rfl) rfl (by kernel_rfl) (by kernel_rfl) rfl rfl ?_
 refine goA ?_
 refine AFn.useA [0] (fsSync hv hn hB hk x) fun _ => ?_
 refine goA ?_
 refine ⟨_, _, Ent.mk' (e' := [(0, AV.int .i64 (v.syncE x))]) (H' := fone (v.sync x)) [some 0] (by kernel_rfl) ?_ ?_, (), rfl, rfl⟩
 ·exact ⟨AVE.refl _, trivial⟩
 ·exact subC
theorem mk4_ok : AFn Go.Proofs.Tryz.prog 142 [.pp [.ptr 0 0]] (fone v) (fun _ : Unit => AV.int .i64 v.syncDirE) (fun _ => fone v.syncDir) := by
 refine ACall.fin ?_
 refine ACall.walk (C := cfg 4 1) (cfgOk _ _) [] (fn := Go.Proofs.Tryz.f142) (by kernel_rfl) (by kernel_rfl) rfl (by kernel_rfl) (by kernel_rfl) rfl rfl ?_
 refine goA ?_
 refine AFn.useA [0] (fsSyncDir hv hn hB hk) fun _ => ?_
 refine goA ?_
 refine ⟨_, _, Ent.mk' (e' := [(0, AV.int .i64 v.syncDirE)]) (H' := fone v.syncDir) [some 0] (by kernel_rfl) ?_ ?_, (), rfl, rfl⟩
 ·exact ⟨AVE.refl _, trivial⟩
 ·exact subC
end
def crF (x b : List UInt8) : List AV := [.fnc (.func 138) [] [.pp [.ptr 0 0], .iv (.pp [.str x])], .fnc (.func 140) [] [.pp [.ptr 0 0], .iv (.pp [.str x]), .iv (.pp [.bs b])], .fnc (.func 141) [] [.pp [.ptr 0 0], .iv (.pp [.str x])], .fnc (.func 142) [] [.pp [.ptr 0 0]]]
noncomputable def cfgCr (N b : Nat) : Cfg := { P := Go.Proofs.Tryz.prog, T := tt, wr := false, N := N, pure := [], base := b, frz := frzF, cuts := [1006] }
theorem cfgCrOk (N b : Nat) : (cfgCr N b).Ok := ⟨ttOk, ttBytes, by kernel_rfl⟩
theorem segCreate_ok {n B k : Nat} {v : VM} (hv : v.Ok n B k) (hn : n ≤ 480) (hB : B ≤ 79000000) (hk : k ≤ 800000000) (id : Nat) (hi : IsId id) (h0 : ∀ i, i < 4 → v.crE (segName id) (headB 1 id) i = 0) : AFn Go.Proofs.Tryz.prog 68 [.ptr 0 0, AV.int .u32 id] (fone v) (fun _ : Unit => .tup [.ptr 1 0, AV.int .i64 0]) (fun _ => sgH ⟨⟨id, 16, 0, 0, 0⟩, 0⟩ (v.cr (segName id) (headB 1 id) 4)) := by
 have hid : id < 4294967296 := by unfold IsId at hi; omega
 have hh : HMay 1 id := .inr ⟨rfl, hi⟩
 have hok := fun i => hv.cr (segName id) (headB 1 id) i
 have hbl := headB_len 1 id
 refine ACall.fin ?_
 refine ACall.walk (C := cfgCr 57 1) (cfgCrOk _ _) [] (fn := Go.Proofs.Tryz.f68) (by kernel_rfl) (by kernel_rfl) rfl (by kernel_rfl) (by kernel_rfl) rfl rfl ?_
 refine goA ?_
 refine AFn.useA [0] (segAsks_ok id v) fun _ => ?_
 rw [if_pos hi]
 refine goA ?_
 refine AFn.useA [] (segName_ok id hid) fun _ => ?_
 refine goA ?_
 refine AFn.useA [] (headPut_ok hh) fun _ => ?_
 refine goA ?_
 refine AWP.of_ent (Ent.freezeP 1 [.ptr 0 0] rfl rfl (e' := [(1, AV.int .u32 id), (2, .pp [.ptr 0 0]), (7, .ptr 2 0), (8, .ptr 3 0)]) ⟨AVC.same _ _ _, AVC.here _ _, AVC.same _ _ _, AVC.same _ _ _, trivial⟩) ?_
 refine AWP.of_ent (Ent.freezeC 2 [.str (segName id)] rfl rfl (e' := [(1, AV.int .u32 id), (2, .pp [.ptr 0 0]), (7, .iv (.pp [.str (segName id)])), (8, .ptr 3 0)]) ⟨AVC.same _ _ _, AVC.same _ _ _, AVC.here _ _, AVC.same _ _ _, trivial⟩) ?_
 refine AWP.of_ent (Ent.freezeC 3 [.bs (headB 1 id)] rfl rfl (e' := [(1, AV.int .u32 id), (2, .pp [.ptr 0 0]), (7, .iv (.pp [.str (segName id)])), (8, .iv (.pp [.bs (headB 1 id)]))]) ⟨AVC.same _ _ _, AVC.same _ _ _, AVC.same _ _ _, AVC.here _ _, trivial⟩) ?_
 refine AWP.reg (cfgCrOk _ _) ?_
 refine goA ?_
 refine AWP.loop (X := { i : Nat // i ≤ 4 }) (fun x => [(1, AV.int .u32 id), (2, .pp [.ptr 0 0]), (7, .iv (.pp [.str (segName id)])), (32, .agg (crF (segName id) (headB 1 id))), (33, AV.int .i64 x.1)]) (fun x => fone (v.cr (segName id) (headB 1 id) x.1)) (fun x => 4 - x.1) (⟨0, Nat.zero_le _⟩) ?_ fun x => AWP.go (S := []) (cfgCrOk _ _) (.of_eq (by kernel_rfl)) ?_
 ·exact Ent.mkA [some 0]
 ·obtain ⟨i, hle⟩ := x
  have : i = 0 ∨ i = 1 ∨ i = 2 ∨ i = 3 ∨ i = 4 := by omega
  rcases this with rfl | rfl | rfl | rfl | rfl
  ·have e0 := h0 0 (by decide)
   unfold VM.crE at e0
   simp only at e0
   refine goA ?_
   refine AFn.useA [0] (mk1_ok (hok 0) (by omega) (by omega) (by omega) (segName id)) fun _ => ?_
   rw [show VM.createE (segName id) (v.cr (segName id) (headB 1 id) 0) = 0 from e0]
   refine goA ?_
   refine ⟨⟨1, by decide⟩, Ent.mkA [some 0], ?_⟩
   exact (by decide : 4 - 1 < 4 - 0)
  ·have e0 := h0 1 (by decide)
   unfold VM.crE at e0
   simp only at e0
   refine goA ?_
   refine AFn.useA [0] (mk2_ok (hok 1) (by omega) (by omega) (by omega) (segName id) (headB 1 id) (by omega)) fun _ => ?_
   rw [show VM.appendE (segName id) (headB 1 id) (v.cr (segName id) (headB 1 id) 1) = 0 from e0]
   refine goA ?_
   refine ⟨⟨2, by decide⟩, Ent.mkA [some 0], ?_⟩
   exact (by decide : 4 - 2 < 4 - 1)
  ·have e0 := h0 2 (by decide)
   unfold VM.crE at e0
   simp only at e0
   refine goA ?_
   refine AFn.useA [0] (mk3_ok (hok 2) (by omega) (by omega) (by omega) (segName id)) fun _ => ?_
   rw [show VM.syncE (segName id) (v.cr (segName id) (headB 1 id) 2) = 0 from e0]
   refine goA ?_
   refine ⟨⟨3, by decide⟩, Ent.mkA [some 0], ?_⟩
   exact (by decide : 4 - 3 < 4 - 2)
  ·have e0 := h0 3 (by decide)
   unfold VM.crE at e0
   simp only at e0
   refine goA ?_
   refine AFn.useA [0] (mk4_ok (hok 3) (by omega) (by omega) (by omega)) fun _ => ?_
   rw [show VM.syncDirE (v.cr (segName id) (headB 1 id) 3) = 0 from e0]
   refine goA ?_
   refine ⟨⟨4, by decide⟩, Ent.mkA [some 0], ?_⟩
   exact (by decide : 4 - 4 < 4 - 3)
  ·refine goA ?_
   refine ⟨_, _, Ent.mk' (e' := [(0, .tup [.ptr 1 0, AV.int .i64 0])]) (H' := sgH ⟨⟨id, 16, 0, 0, 0⟩, 0⟩ (v.cr (segName id) (headB 1 id) 4)) [some 0, some 1] (by kernel_rfl) ?_ ?_, (), rfl, rfl⟩
   ·exact ⟨AVE.refl _, trivial⟩
   ·exact subC
end Go.Proofs.YtgfkepebfaiepaaGreatDoor.Ax

namespace Go.Proofs.YtgfkepebfaiepaaGreatDoor.Ax
open Go.RowKit
set_option maxRecDepth 100000
end Go.Proofs.YtgfkepebfaiepaaGreatDoor.Ax
