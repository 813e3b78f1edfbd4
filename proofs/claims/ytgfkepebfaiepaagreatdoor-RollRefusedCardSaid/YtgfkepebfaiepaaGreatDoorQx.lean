/-
  Chapter 13: rolls.
-/
import Derived.Test.YtgfkepebfaiepaaGreatDoorQu
import Derived.Test.YtgfkepebfaiepaaGreatDoorQw
import Derived.Test.YtgfkepebfaiepaaGreatDoorQt
namespace Go.Proofs.YtgfkepebfaiepaaGreatDoor.Ax
open Go.RowKit
set_option maxRecDepth 100000
instance : Inhabited Sl := ⟨⟨0, 0, 0, 0, 0⟩⟩
def sealI (s : Sl) : List IV := [.v (.int .u32 s.id), .v (.int .u32 s.size), .v (.int .u32 s.many), .v (.int .u64 s.first), .v (.int .u64 s.last)]
def sealF (l : List Sl) (i : Nat) : List IV := sealI (l.getD i default)
inductive Ed where
 | add (id : Nat)
 | shut (s : Sl)
instance : Inhabited Ed := ⟨.add 0⟩
def Ed.kind : Ed → Int
 | .add _ => 4
 | .shut _ => 5
def Ed.id : Ed → Nat
 | .add id => id
 | .shut _ => 0
def Ed.seals : Ed → List Sl
 | .add _ => []
 | .shut s => [s]
def edI (e : Ed) : List IV := [.v (.int .i64 e.kind), .str [], .v (.int .u64 0), .v (.int .u32 e.id), .sl 5 e.seals.length (sealF e.seals)]
def edA (e : Ed) : AV := .agg ((edI e).map AV.iv)
def edF (l : List Ed) (i : Nat) : List IV := edI (l.getD i default)
structure RG where
 lim : Nat
 sealed : List Sl
 next : Nat
 safe : Nat
def rollC (g : RG) (o : AV) : List AV := [.ptr 0 0, AV.int .i64 g.lim, .row 2 5 0 g.sealed.length, o, AV.int .u32 g.next, AV.int .u64 g.safe]
def earC (h : Nat) (hd : List Ed) (left : Int) : List AV := [.row h 5 0 hd.length, AV.int .i64 left]
def earA : AV := .ifc 41 (.ptr 3 0)
@[reducible] def earH (hd : List Ed) (left : Int) : AH := ⟨2, [(0, .cells 44 (earC 1 hd left)), (1, .rowc 105 5 hd.length (edF hd))]⟩
@[reducible] def earN (hd : List Ed) (left : Int) : AH := ⟨3, [(0, .cells 44 (earC 2 hd left)), (2, .rowc 105 5 hd.length (edF hd))]⟩
@[reducible] def rlC (g : RG) (hd : List Ed) (left : Int) (v : VM) : AH := ⟨5, [(0, .sem (fsV v)), (1, .cells 153 (rollC g AV.nilPtr)), (2, .rowc 40 5 g.sealed.length (sealF g.sealed)), (3, .cells 44 (earC 4 hd left)), (4, .rowc 105 5 hd.length (edF hd))]⟩
@[reducible] def rlO (g : RG) (hd : List Ed) (left : Int) (v : VM) (s : SG) : AH := ⟨6, [(0, .sem (fsV v)), (1, .cells 153 (rollC g (.ptr 5 0))), (2, .rowc 40 5 g.sealed.length (sealF g.sealed)), (3, .cells 44 (earC 4 hd left)), (4, .rowc 105 5 hd.length (edF hd)), (5, .cells 192 (sgC 0 s))]⟩
theorem ed_push {e : Nat} {l : List Ed} {x : Ed} {g : Nat → List IV} (hg : g 0 = edI x) : ChE (.rowc e 5 (l.length + 1) fun j => if j < l.length then edF l j else g (j - l.length)) (.rowc e 5 (l ++ [x]).length (edF (l ++ [x]))) := by
 refine ChE.row (by simp) fun j hj => ?_
 by_cases h : j < l.length
 ·simp only [if_pos h]
  unfold edF
  simp [List.getD, List.getElem?_append_left, h]
 ·have : j = l.length := by simp at hj; omega
  subst this
  simp only [if_neg h, Nat.sub_self]
  rw [hg]
  simp [edF, List.getD]
theorem seal_push {e : Nat} {l : List Sl} {x : Sl} {g : Nat → List IV} (hg : g 0 = sealI x) : ChE (.rowc e 5 (l.length + 1) fun j => if j < l.length then sealF l j else g (j - l.length)) (.rowc e 5 (l ++ [x]).length (sealF (l ++ [x]))) := by
 refine ChE.row (by simp) fun j hj => ?_
 by_cases h : j < l.length
 ·simp only [if_pos h]
  unfold sealF
  simp [List.getD, List.getElem?_append_left, h]
 ·have : j = l.length := by simp at hj; omega
  subst this
  simp only [if_neg h, Nat.sub_self]
  rw [hg]
  simp [sealF, List.getD]
theorem tell_ok (hd : List Ed) (hl : hd.length ≤ 1000000) (left : Int) (h : left ≠ 0) (hr : -1 ≤ left ∧ left ≤ 9223372036854775807) (e : Ed) : AFn Go.Proofs.Tryz.prog 350 [.ptr 0 0, edA e] (earH hd left) (fun _ : Unit => AV.int .i64 0) (fun _ => earN (hd ++ [e]) (max (left - 1) (-1))) := by
 rcases e with id | x
 ·refine ACall.fin ?_
  refine ACall.walk (C := cfg 29 2) (cfgOk _ _) sch350 (fn := Go.Proofs.Tryz.f350) (by kernel_rfl) (by kernel_rfl) rfl (by kernel_rfl) (by kernel_rfl) rfl rfl ?_
  refine goA ?_
  refine ifdA (fun q => ?_) (fun q => ?_) <;> (try dsimp only at q)
  ·exact absurd q h
  refine goA ?_
  exact ⟨_, _, Ent.mk' (e' := [(0, AV.int .i64 0)]) (H' := earN (hd ++ [.add id]) (max (left - 1) (-1))) [some 0, some 1, some 4] (by kernel_rfl) ⟨AVE.refl _, trivial⟩ ⟨⟨_, rfl, ChE.cells (by exact ⟨AVE.len (by simp), AVE.refl _, rfl⟩)⟩, ⟨_, rfl, ed_push rfl⟩, trivial⟩, (), rfl, rfl⟩
 ·refine ACall.fin ?_
  refine ACall.walk (C := cfg 29 2) (cfgOk _ _) sch350 (fn := Go.Proofs.Tryz.f350) (by kernel_rfl) (by kernel_rfl) rfl (by kernel_rfl) (by kernel_rfl) rfl rfl ?_
  refine goA ?_
  refine ifdA (fun q => ?_) (fun q => ?_) <;> (try dsimp only at q)
  ·exact absurd q h
  refine goA ?_
  exact ⟨_, _, Ent.mk' (e' := [(0, AV.int .i64 0)]) (H' := earN (hd ++ [.shut x]) (max (left - 1) (-1))) [some 0, some 1, some 4] (by kernel_rfl) ⟨AVE.refl _, trivial⟩ ⟨⟨_, rfl, ChE.cells (by exact ⟨AVE.len (by simp), AVE.refl _, rfl⟩)⟩, ⟨_, rfl, ed_push rfl⟩, trivial⟩, (), rfl, rfl⟩
theorem tell_deaf (hd : List Ed) (e : Ed) : AFn Go.Proofs.Tryz.prog 350 [.ptr 0 0, edA e] (earH hd 0) (fun _ : Unit => AV.int .i64 21) (fun _ => earH hd 0) := by
 refine ACall.fin ?_
 cases e <;> (
 refine ACall.walk (C := cfg 29 2) (cfgOk _ _) sch350 (fn := Go.Proofs.Tryz.f350) (by kernel_rfl) (by kernel_rfl) rfl (by kernel_rfl) (by kernel_rfl) rfl rfl ?_
 refine goA ?_
 refine ⟨_, _, Ent.mk' (e' := [(0, AV.int .i64 21)]) (H' := earH hd 0) [some 0, some 1] (by kernel_rfl) ?_ ?_, (), rfl, rfl⟩
 ·exact ⟨AVE.refl _, trivial⟩
 ·exact subC)
noncomputable def cfgRl (N b : Nat) : Cfg := { P := Go.Proofs.Tryz.prog, T := tt, wr := false, N := N, pure := [76, 20, 57, 69, 81, 13, 25, 61, 52, 27, 40, 43, 53], base := b, frz := frzF }
theorem cfgRlOk (N b : Nat) : (cfgRl N b).Ok := ⟨ttOk, ttBytes, by kernel_rfl⟩
theorem segNoneNil : AFn Go.Proofs.Tryz.prog 118 [AV.nilPtr] ⟨0, []⟩ (fun _ : Unit => AV.bool true) (fun _ => ⟨0, []⟩) := by
 refine ACall.fin ?_
 refine ACall.walk (C := cfg 12 0) (cfgOk _ _) [] (fn := Go.Proofs.Tryz.f118) (by kernel_rfl) (by kernel_rfl) rfl (by kernel_rfl) (by kernel_rfl) rfl rfl ?_
 refine goA ?_
 refine ⟨_, _, Ent.mk' (e' := [(0, AV.bool true)]) (H' := ⟨0, []⟩) [] (by kernel_rfl) ?_ ?_, (), rfl, rfl⟩
 ·exact ⟨AVE.refl _, trivial⟩
 ·trivial
theorem segSealNil : AFn Go.Proofs.Tryz.prog 57 [AV.nilPtr] ⟨0, []⟩ (fun _ : Unit => slA ⟨0, 0, 0, 0, 0⟩) (fun _ => ⟨0, []⟩) := by
 refine ACall.fin ?_
 refine ACall.walk (C := cfg 10 0) (cfgOk _ _) [] (fn := Go.Proofs.Tryz.f57) (by kernel_rfl) (by kernel_rfl) rfl (by kernel_rfl) (by kernel_rfl) rfl rfl ?_
 refine goA ?_
 refine AFn.useA [] (segNoneNil) fun _ => ?_
 refine goA ?_
 refine ⟨_, _, Ent.mk' (e' := [(0, slA ⟨0, 0, 0, 0, 0⟩)]) (H' := ⟨0, []⟩) [] (by kernel_rfl) ?_ ?_, (), rfl, rfl⟩
 ·exact ⟨AVE.refl _, trivial⟩
 ·trivial
section
variable (g : RG) (hd : List Ed) (left : Int) (v : VM)
theorem noneC_ok : AFn Go.Proofs.Tryz.prog 76 [.ptr 1 0] (rlC g hd left v) (fun _ : Unit => AV.bool false) (fun _ => rlC g hd left v) := by
 refine ACall.fin ?_
 refine ACall.walk (C := cfg 12 5) (cfgOk _ _) [] (fn := Go.Proofs.Tryz.f76) (by kernel_rfl) (by kernel_rfl) rfl (by kernel_rfl) (by kernel_rfl) rfl rfl ?_
 refine goA ?_
 refine ⟨_, _, Ent.mk' (e' := [(0, AV.bool false)]) (H' := rlC g hd left v) [some 0, some 1, some 2, some 3, some 4] (by kernel_rfl) ?_ ?_, (), rfl, rfl⟩
 ·exact ⟨AVE.refl _, trivial⟩
 ·exact subC
theorem noneO_ok (s : SG) : AFn Go.Proofs.Tryz.prog 76 [.ptr 1 0] (rlO g hd left v s) (fun _ : Unit => AV.bool false) (fun _ => rlO g hd left v s) := by
 refine ACall.fin ?_
 refine ACall.walk (C := cfg 12 6) (cfgOk _ _) [] (fn := Go.Proofs.Tryz.f76) (by kernel_rfl) (by kernel_rfl) rfl (by kernel_rfl) (by kernel_rfl) rfl rfl ?_
 refine goA ?_
 refine ⟨_, _, Ent.mk' (e' := [(0, AV.bool false)]) (H' := rlO g hd left v s) [some 0, some 1, some 2, some 3, some 4, some 5] (by kernel_rfl) ?_ ?_, (), rfl, rfl⟩
 ·exact ⟨AVE.refl _, trivial⟩
 ·exact subC
theorem lastR_succ (o : Nat) {l : List Sl} {i : Nat} (h : i < l.length) : lastR o (l.take (i + 1)) = max (lastR o (l.take i)) (l.getD i default).last := by
 unfold lastR
 rw [List.take_succ_eq_append_getElem h, List.foldl_append]
 simp [List.getD, h]
theorem lastC_ok (hg : g.sealed.length ≤ 1000) : AFn Go.Proofs.Tryz.prog 20 [.ptr 1 0] (rlC g hd left v) (fun _ : Unit => AV.int .u64 (lastR 0 g.sealed)) (fun _ => rlC g hd left v) := by
 refine ACall.fin ?_
 refine ACall.walk (C := cfgRl 29 5) (cfgRlOk _ _) [] (fn := Go.Proofs.Tryz.f20) (by kernel_rfl) (by kernel_rfl) rfl (by kernel_rfl) (by kernel_rfl) rfl rfl ?_
 refine goA ?_
 refine AFn.useA [0, 1, 2, 3, 4] (noneC_ok g hd left v) fun _ => ?_
 refine goA ?_
 refine AFn.useA [] (segSealNil) fun _ => ?_
 refine goA ?_
 refine AWP.loop (X := { i : Nat // i ≤ g.sealed.length }) (fun i => [(0, .ptr 1 0), (3, AV.int .u64 (lastR 0 (g.sealed.take i.1))), (17, .row 2 5 0 g.sealed.length), (18, AV.int .i64 g.sealed.length), (19, AV.int .i64 i.1)]) (fun i => rlC g hd left v) (fun i => g.sealed.length - i.1) (⟨0, Nat.zero_le _⟩) ?_ fun i => AWP.go (S := []) (cfgRlOk _ _) (.of_eq (by kernel_rfl)) ?_
 ·exact Ent.mkA [some 0, some 1, some 2, some 3, some 4]
 ·obtain ⟨i, hi⟩ := i
  dsimp only
  refine goA ?_
  refine ifdA (fun h => ?_) (fun h => ?_) <;> (try dsimp only at h)
  ·have hlt : i < g.sealed.length := by omega
   have hs := lastR_succ 0 hlt
   have hgi : g.sealed.getD (0 + ((i : Nat) : Int).toNat) default = g.sealed.getD i default := by rw [Nat.zero_add]; rfl
   refine goA ?_
   rw [hgi]
   generalize g.sealed.getD i default = x at *
   refine ⟨⟨i + 1, by omega⟩, Ent.mkA [some 0, some 1, some 2, some 3, some 4], ?_⟩
   show g.sealed.length - (i + 1) < g.sealed.length - i
   omega
  ·have : i = g.sealed.length := by omega
   subst this
   rw [List.take_length]
   refine goA ?_
   refine ⟨_, _, Ent.mk' (e' := [(0, AV.int .u64 (lastR 0 g.sealed))]) (H' := rlC g hd left v) [some 0, some 1, some 2, some 3, some 4] (by kernel_rfl) ?_ ?_, (), rfl, rfl⟩
   ·exact ⟨AVE.refl _, trivial⟩
   ·exact subC
theorem lastO_ok (s : SG) (hg : g.sealed.length ≤ 1000) : AFn Go.Proofs.Tryz.prog 20 [.ptr 1 0] (rlO g hd left v s) (fun _ : Unit => AV.int .u64 (lastR s.s.last g.sealed)) (fun _ => rlO g hd left v s) := by
 refine ACall.fin ?_
 refine ACall.walk (C := cfgRl 29 6) (cfgRlOk _ _) [] (fn := Go.Proofs.Tryz.f20) (by kernel_rfl) (by kernel_rfl) rfl (by kernel_rfl) (by kernel_rfl) rfl rfl ?_
 refine goA ?_
 refine AFn.useA [0, 1, 2, 3, 4, 5] (noneO_ok g hd left v s) fun _ => ?_
 refine goA ?_
 refine AFn.useA [0, 5] (segSeal_ok s v) fun _ => ?_
 refine goA ?_
 refine AWP.loop (X := { i : Nat // i ≤ g.sealed.length }) (fun i => [(0, .ptr 1 0), (3, AV.int .u64 (lastR s.s.last (g.sealed.take i.1))), (17, .row 2 5 0 g.sealed.length), (18, AV.int .i64 g.sealed.length), (19, AV.int .i64 i.1)]) (fun i => rlO g hd left v s) (fun i => g.sealed.length - i.1) (⟨0, Nat.zero_le _⟩) ?_ fun i => AWP.go (S := []) (cfgRlOk _ _) (.of_eq (by kernel_rfl)) ?_
 ·exact Ent.mkA [some 0, some 1, some 2, some 3, some 4, some 5]
 ·obtain ⟨i, hi⟩ := i
  dsimp only
  refine goA ?_
  refine ifdA (fun h => ?_) (fun h => ?_) <;> (try dsimp only at h)
  ·have hlt : i < g.sealed.length := by omega
   have hs := lastR_succ s.s.last hlt
   have hgi : g.sealed.getD (0 + ((i : Nat) : Int).toNat) default = g.sealed.getD i default := by rw [Nat.zero_add]; rfl
   refine goA ?_
   rw [hgi]
   generalize g.sealed.getD i default = x at *
   refine ⟨⟨i + 1, by omega⟩, Ent.mkA [some 0, some 1, some 2, some 3, some 4, some 5], ?_⟩
   show g.sealed.length - (i + 1) < g.sealed.length - i
   omega
  ·have : i = g.sealed.length := by omega
   subst this
   rw [List.take_length]
   refine goA ?_
   refine ⟨_, _, Ent.mk' (e' := [(0, AV.int .u64 (lastR s.s.last g.sealed))]) (H' := rlO g hd left v s) [some 0, some 1, some 2, some 3, some 4, some 5] (by kernel_rfl) ?_ ?_, (), rfl, rfl⟩
   ·exact ⟨AVE.refl _, trivial⟩
   ·exact subC
end
end Go.Proofs.YtgfkepebfaiepaaGreatDoor.Ax

namespace Go.Proofs.YtgfkepebfaiepaaGreatDoor.Ax
open Go.RowKit
set_option maxRecDepth 100000
def SyncOk (s : SG) (v : VM) (s' : SG) (v' : VM) : Prop := AFn Go.Proofs.Tryz.prog 59 [.ptr 1 0] (sgH s v) (fun _ : Unit => AV.int .i64 0) (fun _ => sgH s' v')
section
variable (g : RG) (hd : List Ed) (left : Int) {v v' : VM} {s s' : SG} (hg : g.sealed.length ≤ 1000)
include hg
theorem rollSync_ok (h : SyncOk s v s' v') : AFn Go.Proofs.Tryz.prog 30 [.ptr 1 0] (rlO g hd left v s) (fun _ : Unit => AV.int .i64 0) (fun _ => rlO { g with safe := lastR s'.s.last g.sealed } hd left v' s') := by
 refine ACall.fin ?_
 refine ACall.walk (C := cfgRl 26 6) (cfgRlOk _ _) [] (fn := Go.Proofs.Tryz.f30) (by kernel_rfl) (by kernel_rfl) rfl (by kernel_rfl) (by kernel_rfl) rfl rfl ?_
 refine goA ?_
 refine AFn.useA [0, 1, 2, 3, 4, 5] (noneO_ok g hd left v s) fun _ => ?_
 refine goA ?_
 refine AFn.useA [0, 5] (h) fun _ => ?_
 refine goA ?_
 refine AFn.useA [0, 1, 2, 3, 4, 5] (lastO_ok g hd left v' s' hg) fun _ => ?_
 refine goA ?_
 refine ⟨_, _, Ent.mk' (e' := [(0, AV.int .i64 0)]) (H' := rlO { g with safe := lastR s'.s.last g.sealed } hd left v' s') [some 0, some 1, some 2, some 3, some 4, some 5] (by kernel_rfl) ?_ ?_, (), rfl, rfl⟩
 ·exact ⟨AVE.refl _, trivial⟩
 ·exact subC
omit hg in
theorem AVE.str0 : AVE (.iv (.v (.string ⟨#[]⟩))) (.str []) := ⟨fun ρ ι v h => by
 simp only [AV.R, IV.R] at h ⊢
 exact h⟩
omit hg in
theorem edA_seal {s : Sl} {f : Nat → List IV} (hf : f 0 = sealI s) : AVE (.agg [AV.int .i64 5, .iv (.v (.string ⟨#[]⟩)), AV.int .u64 0, AV.int .u32 0, .iv (.sl 5 1 f)]) (edA (.shut s)) :=
 AVE.aggE ⟨AVE.refl _, AVE.str0, AVE.refl _, AVE.refl _, AVE.sl fun i hi => by
  have : i = 0 := by omega
  subst this
  rw [hf]
  exact IVEs.refl _, rfl⟩
omit hg in
theorem edA_add (id : Nat) : AVE (.agg [AV.int .i64 4, .iv (.v (.string ⟨#[]⟩)), AV.int .u64 0, AV.int .u32 id, AV.nilSl]) (edA (.add id)) :=
 AVE.aggE ⟨AVE.refl _, AVE.str0, AVE.refl _, AVE.refl _, ⟨fun ρ ι v h => by
  have h1 := (IVE.nilSl 5 (sealF [])).run ι v (by simpa only [AV.R] using h)
  simp only [AV.R]
  exact h1⟩, rfl⟩
@[reducible] def rlCn (g : RG) (hd : List Ed) (left : Int) (v : VM) : AH := ⟨8, [(0, .sem (fsV v)), (1, .cells 153 [.ptr 0 0, AV.int .i64 g.lim, .row 6 5 0 g.sealed.length, AV.nilPtr, AV.int .u32 g.next, AV.int .u64 g.safe]), (3, .cells 44 (earC 7 hd left)), (6, .rowc 40 5 g.sealed.length (sealF g.sealed)), (7, .rowc 105 5 hd.length (edF hd))]⟩
theorem rollRest_ok (hh : hd.length ≤ 1000000) (hl : left ≠ 0) (hr : -1 ≤ left ∧ left ≤ 9223372036854775807) (h : SyncOk s v s' v') : AFn Go.Proofs.Tryz.prog 83 [.ptr 1 0, earA] (rlO g hd left v s) (fun _ : Unit => AV.int .i64 0) (fun _ => rlCn { g with sealed := g.sealed ++ [s'.s], safe := lastR s'.s.last g.sealed } (hd ++ [.shut s'.s]) (max (left - 1) (-1)) v') := by
 refine ACall.fin ?_
 refine ACall.walk (C := cfg 44 6) (cfgOk _ _) sch83 (fn := Go.Proofs.Tryz.f83) (by kernel_rfl) (by kernel_rfl) rfl (by kernel_rfl) (by kernel_rfl) rfl rfl ?_
 refine goA ?_
 refine AFn.useA [0, 1, 2, 3, 4, 5] (rollSync_ok g hd left hg h) fun _ => ?_
 refine goA ?_
 refine AFn.useA [0, 5] (segSeal_ok s' v') fun _ => ?_
 refine goA ?_
 refine ACall.freezeR 7 rfl [.ptr 3 0, .agg [AV.int .i64 5, .iv (.v (.string ⟨#[]⟩)), AV.int .u64 0, AV.int .u32 0, .iv (.sl 5 1 _)]] ⟨AVF.same .., AVF.agg ⟨AVF.same .., AVF.same .., AVF.same .., AVF.same .., AVF.sl (Nat.le_refl _), rfl⟩, rfl⟩ ?_
 refine ACall.argsE [.ptr 3 0, edA (.shut s'.s)] ⟨AVE.refl _, edA_seal rfl, rfl⟩ ?_
 refine AFn.useA [3, 4] (tell_ok hd hh left hl hr (.shut s'.s)) fun _ => ?_
 refine goA ?_
 exact ⟨_, _, Ent.mk' (e' := [(0, AV.int .i64 0)]) (H' := rlCn { g with sealed := g.sealed ++ [s'.s], safe := lastR s'.s.last g.sealed } (hd ++ [.shut s'.s]) (max (left - 1) (-1)) v') [some 0, some 1, some 2, some 3, some 4, some 5, some 10, some 8] (by kernel_rfl) ⟨AVE.refl _, trivial⟩ ⟨⟨_, rfl, ChE.refl _⟩, ⟨_, rfl, ChE.cells (by exact ⟨AVE.refl _, AVE.refl _, AVE.len (by simp), AVE.refl _, AVE.refl _, AVE.refl _, rfl⟩)⟩, ⟨_, rfl, ChE.refl _⟩, ⟨_, rfl, seal_push rfl⟩, ⟨_, rfl, ChE.refl _⟩, trivial⟩, (), rfl, rfl⟩
theorem rollRest_deaf (h : SyncOk s v s' v') : AFn Go.Proofs.Tryz.prog 83 [.ptr 1 0, earA] (rlO g hd 0 v s) (fun _ : Unit => AV.int .i64 21) (fun _ => rlO { g with safe := lastR s'.s.last g.sealed } hd 0 v' s') := by
 refine ACall.fin ?_
 refine ACall.walk (C := cfg 44 6) (cfgOk _ _) sch83 (fn := Go.Proofs.Tryz.f83) (by kernel_rfl) (by kernel_rfl) rfl (by kernel_rfl) (by kernel_rfl) rfl rfl ?_
 refine goA ?_
 refine AFn.useA [0, 1, 2, 3, 4, 5] (rollSync_ok g hd 0 hg h) fun _ => ?_
 refine goA ?_
 refine AFn.useA [0, 5] (segSeal_ok s' v') fun _ => ?_
 refine goA ?_
 refine ACall.freezeR 7 rfl [.ptr 3 0, .agg [AV.int .i64 5, .iv (.v (.string ⟨#[]⟩)), AV.int .u64 0, AV.int .u32 0, .iv (.sl 5 1 _)]] ⟨AVF.same .., AVF.agg ⟨AVF.same .., AVF.same .., AVF.same .., AVF.same .., AVF.sl (Nat.le_refl _), rfl⟩, rfl⟩ ?_
 refine ACall.argsE [.ptr 3 0, edA (.shut s'.s)] ⟨AVE.refl _, edA_seal rfl, rfl⟩ ?_
 refine AFn.useA [3, 4] (tell_deaf hd (.shut s'.s)) fun _ => ?_
 refine goA ?_
 refine ⟨_, _, Ent.mk' (e' := [(0, AV.int .i64 21)]) (H' := rlO { g with safe := lastR s'.s.last g.sealed } hd 0 v' s') [some 0, some 1, some 2, some 3, some 4, some 5] (by kernel_rfl) ?_ ?_, (), rfl, rfl⟩
 ·exact ⟨AVE.refl _, trivial⟩
 ·exact subC
omit hg
def MadeOk (id : Nat) (v : VM) (s : SG) (v' : VM) : Prop := AFn Go.Proofs.Tryz.prog 68 [.ptr 0 0, AV.int .u32 id] (fone v) (fun _ : Unit => .tup [.ptr 1 0, AV.int .i64 0]) (fun _ => sgH s v')
@[reducible] def rlOn (g : RG) (hd : List Ed) (left : Int) (v : VM) (s : SG) : AH := ⟨7, [(0, .sem (fsV v)), (1, .cells 153 (rollC g (.ptr 5 0))), (2, .rowc 40 5 g.sealed.length (sealF g.sealed)), (3, .cells 44 (earC 6 hd left)), (5, .cells 192 (sgC 0 s)), (6, .rowc 105 5 hd.length (edF hd))]⟩
theorem rollBegin_ok (hh : hd.length ≤ 1000000) (hl : left ≠ 0) (hr : -1 ≤ left ∧ left ≤ 9223372036854775807) (hs : g.sealed.length < 200) (hn : g.next ≤ 16777215) (h : MadeOk g.next v s v') : AFn Go.Proofs.Tryz.prog 85 [.ptr 1 0, earA] (rlC g hd left v) (fun _ : Unit => AV.int .i64 0) (fun _ => rlOn { g with next := g.next + 1 } (hd ++ [.add g.next]) (max (left - 1) (-1)) v' s) := by
 refine ACall.fin ?_
 refine ACall.walk (C := cfgRl 63 5) (cfgRlOk _ _) sch85 (fn := Go.Proofs.Tryz.f85) (by kernel_rfl) (by kernel_rfl) rfl (by kernel_rfl) (by kernel_rfl) rfl rfl ?_
 refine goA ?_
 repeat' (refine ifdA (fun q => ?_) (fun q => ?_) <;> (try dsimp only at q) <;> first | (exfalso; omega) | (refine goA ?_))
 refine AFn.useA [0] (h) fun _ => ?_
 refine goA ?_
 refine ACall.argsE [.ptr 3 0, edA (.add g.next)] ⟨AVE.refl _, edA_add _, rfl⟩ ?_
 refine AFn.useA [3, 4] (tell_ok hd hh left hl hr (.add g.next)) fun _ => ?_
 refine goA ?_
 exact ⟨_, _, Ent.mk' (e' := [(0, AV.int .i64 0)]) (H' := rlOn { g with next := g.next + 1 } (hd ++ [.add g.next]) (max (left - 1) (-1)) v' s) [some 0, some 1, some 2, some 3, some 4, some 5, some 6] (by kernel_rfl) ⟨AVE.refl _, trivial⟩ ⟨⟨_, rfl, ChE.refl _⟩, ⟨_, rfl, ChE.cells (by exact ⟨AVE.refl _, AVE.refl _, AVE.refl _, AVE.refl _, AVE.int (by simp), AVE.refl _, rfl⟩)⟩, ⟨_, rfl, ChE.refl _⟩, ⟨_, rfl, ChE.refl _⟩, ⟨_, rfl, ChE.refl _⟩, ⟨_, rfl, ChE.refl _⟩, trivial⟩, (), rfl, rfl⟩
theorem rollBegin_deaf {v2 : VM} (hs : g.sealed.length < 200) (hn : g.next ≤ 16777215) (h : MadeOk g.next v s v') (hR : AFn Go.Proofs.Tryz.prog 144 [.ptr 0 0, .str (segName g.next)] (fone v') (fun _ : Unit => AV.int .i64 0) (fun _ => fone v2)) : AFn Go.Proofs.Tryz.prog 85 [.ptr 1 0, earA] (rlC g hd 0 v) (fun _ : Unit => AV.int .i64 21) (fun _ => rlC { g with next := g.next + 1 } hd 0 v2) := by
 refine ACall.fin ?_
 refine ACall.walk (C := cfgRl 63 5) (cfgRlOk _ _) sch85 (fn := Go.Proofs.Tryz.f85) (by kernel_rfl) (by kernel_rfl) rfl (by kernel_rfl) (by kernel_rfl) rfl rfl ?_
 refine goA ?_
 repeat' (refine ifdA (fun q => ?_) (fun q => ?_) <;> (try dsimp only at q) <;> first | (exfalso; omega) | (refine goA ?_))
 refine AFn.useA [0] (h) fun _ => ?_
 refine goA ?_
 refine ACall.argsE [.ptr 3 0, edA (.add g.next)] ⟨AVE.refl _, edA_add _, rfl⟩ ?_
 refine AFn.useA [3, 4] (tell_deaf hd (.add g.next)) fun _ => ?_
 refine goA ?_
 refine AFn.useA [] (segName_ok g.next (by omega)) fun _ => ?_
 refine goA ?_
 refine AFn.useA [0] (hR) fun _ => ?_
 refine goA ?_
 refine ⟨_, _, Ent.mk' (e' := [(0, AV.int .i64 21)]) (H' := rlC { g with next := g.next + 1 } hd 0 v2) [some 0, some 1, some 2, some 3, some 4] (by kernel_rfl) ⟨AVE.refl _, trivial⟩ ⟨⟨_, rfl, ChE.refl _⟩, ⟨_, rfl, ChE.cells (by exact ⟨AVE.refl _, AVE.refl _, AVE.refl _, AVE.refl _, AVE.int (by simp), AVE.refl _, rfl⟩)⟩, ⟨_, rfl, ChE.refl _⟩, ⟨_, rfl, ChE.refl _⟩, ⟨_, rfl, ChE.refl _⟩, trivial⟩, (), rfl, rfl⟩
end
end Go.Proofs.YtgfkepebfaiepaaGreatDoor.Ax

namespace Go.Proofs.YtgfkepebfaiepaaGreatDoor.Ax
open Go.RowKit
set_option maxRecDepth 100000
noncomputable def cfgAq (N b : Nat) : Cfg := { P := Go.Proofs.Tryz.prog, T := tt, wr := false, N := N, pure := [76, 20, 57, 69, 81, 13, 25, 61, 52, 27, 40, 43, 53], base := b, frz := fun _ => false }
theorem cfgAqOk (N b : Nat) : (cfgAq N b).Ok := ⟨ttOk, ttBytes, by kernel_rfl⟩
def AppOk (s : SG) (v : VM) (r : Rec) (a b : Nat) (e : Int) (s' : SG) (v' : VM) : Prop := AFn Go.Proofs.Tryz.prog 62 [.ptr 1 0, recA r] (sgH s v) (fun _ : Unit => .tup [locA a b, AV.int .i64 e]) (fun _ => sgH s' v')
@[reducible] def rollP (g : RG) (hs : Nat) (o : AV) : Chunk := .cells 153 [.ptr 0 0, AV.int .i64 g.lim, .row hs 5 0 g.sealed.length, o, AV.int .u32 g.next, AV.int .u64 g.safe]
@[reducible] def sealsP (g : RG) : Chunk := .rowc 40 5 g.sealed.length (sealF g.sealed)
@[reducible] def earP (hh : Nat) (hd : List Ed) (left : Int) : Chunk := .cells 44 (earC hh hd left)
@[reducible] def hdP (hd : List Ed) : Chunk := .rowc 105 5 hd.length (edF hd)
@[reducible] def segP (s : SG) : Chunk := .cells 192 (sgC 0 s)
@[reducible] def boxX : Chunk := .cells 35 [.ptr 1 0]
@[reducible] def boxT : Chunk := .cells 162 [earA]
@[reducible] def boxR (r : Rec) : Chunk := .cells 50 (recC r)
@[reducible] def boxL (a b : Nat) : Chunk := .cells 48 [AV.int .u32 a, AV.int .u32 b]
@[reducible] def boxE (e : Int) : Chunk := .cells 32 [AV.int .i64 e]
section
variable (g : RG) (hd : List Ed) (left : Int) {v v' : VM} {s s' : SG} (hg : g.sealed.length ≤ 1000)
theorem apd3_ok {r : Rec} {a b : Nat} {e : Int} (a0 b0 : Nat) (e0 : Int) (h : AppOk s v r a b e s' v') : AFn Go.Proofs.Tryz.prog 86 [.ptr 3 0, .ptr 4 0, .ptr 5 0, .ptr 6 0] ⟨8, [(0, .sem (fsV v)), (1, rollP g 7 (.ptr 2 0)), (2, segP s), (3, boxX), (4, boxR r), (5, boxL a0 b0), (6, boxE e0), (7, sealsP g)]⟩ (fun _ : Unit => AV.int .i64 e) (fun _ => ⟨8, [(0, .sem (fsV v')), (1, rollP g 7 (.ptr 2 0)), (2, segP s'), (3, boxX), (4, boxR r), (5, boxL a b), (6, boxE e), (7, sealsP g)]⟩) := by
 refine ACall.fin ?_
 refine ACall.walk (C := cfg 15 8) (cfgOk _ _) sch86 (fn := Go.Proofs.Tryz.f86) (by kernel_rfl) (by kernel_rfl) rfl (by kernel_rfl) (by kernel_rfl) rfl rfl ?_
 refine goA ?_
 refine AFn.useA [0, 2] (h) fun _ => ?_
 refine goA ?_
 refine ⟨_, _, Ent.mk' (e' := [(0, AV.int .i64 e)]) (H' := ⟨8, [(0, .sem (fsV v')), (1, rollP g 7 (.ptr 2 0)), (2, segP s'), (3, boxX), (4, boxR r), (5, boxL a b), (6, boxE e), (7, sealsP g)]⟩) [some 0, some 1, some 2, some 3, some 4, some 5, some 6, some 7] (by kernel_rfl) ⟨AVE.refl _, trivial⟩ subC, (), rfl, rfl⟩
theorem apd2_ok {R : RG} {hd2 : List Ed} {left2 : Int} (h : AFn Go.Proofs.Tryz.prog 85 [.ptr 1 0, earA] (rlC g hd left v) (fun _ : Unit => AV.int .i64 0) (fun _ => rlOn R hd2 left2 v' s)) : AFn Go.Proofs.Tryz.prog 84 [.ptr 5 0, .ptr 6 0] ⟨7, [(0, .sem (fsV v)), (1, rollP g 2 AV.nilPtr), (2, sealsP g), (3, earP 4 hd left), (4, hdP hd), (5, boxX), (6, boxT)]⟩ (fun _ : Unit => AV.int .i64 0) (fun _ => ⟨9, [(0, .sem (fsV v')), (1, rollP R 2 (.ptr 7 0)), (2, sealsP R), (3, earP 8 hd2 left2), (5, boxX), (6, boxT), (7, segP s), (8, hdP hd2)]⟩) := by
 refine ACall.fin ?_
 refine ACall.walk (C := cfg 6 7) (cfgOk _ _) [] (fn := Go.Proofs.Tryz.f84) (by kernel_rfl) (by kernel_rfl) rfl (by kernel_rfl) (by kernel_rfl) rfl rfl ?_
 refine goA ?_
 refine AFn.useA [0, 1, 2, 3, 4] (h) fun _ => ?_
 refine goA ?_
 refine ⟨_, _, Ent.mk' (e' := [(0, AV.int .i64 0)]) (H' := ⟨9, [(0, .sem (fsV v')), (1, rollP R 2 (.ptr 7 0)), (2, sealsP R), (3, earP 8 hd2 left2), (5, boxX), (6, boxT), (7, segP s), (8, hdP hd2)]⟩) [some 0, some 1, some 2, some 3, some 4, some 5, some 6, some 7, some 8] (by kernel_rfl) ⟨AVE.refl _, trivial⟩ subC, (), rfl, rfl⟩
theorem apd1_ok {R : RG} {hd2 : List Ed} {left2 : Int} (h : AFn Go.Proofs.Tryz.prog 83 [.ptr 1 0, earA] (rlO g hd left v s) (fun _ : Unit => AV.int .i64 0) (fun _ => rlCn R hd2 left2 v')) : AFn Go.Proofs.Tryz.prog 82 [.ptr 6 0, .ptr 7 0] ⟨8, [(0, .sem (fsV v)), (1, rollP g 2 (.ptr 5 0)), (2, sealsP g), (3, earP 4 hd left), (4, hdP hd), (5, segP s), (6, boxX), (7, boxT)]⟩ (fun _ : Unit => AV.int .i64 0) (fun _ => ⟨10, [(0, .sem (fsV v')), (1, rollP R 8 AV.nilPtr), (3, earP 9 hd2 left2), (6, boxX), (7, boxT), (8, sealsP R), (9, hdP hd2)]⟩) := by
 refine ACall.fin ?_
 refine ACall.walk (C := cfg 6 8) (cfgOk _ _) [] (fn := Go.Proofs.Tryz.f82) (by kernel_rfl) (by kernel_rfl) rfl (by kernel_rfl) (by kernel_rfl) rfl rfl ?_
 refine goA ?_
 refine AFn.useA [0, 1, 2, 3, 4, 5] (h) fun _ => ?_
 refine goA ?_
 refine ⟨_, _, Ent.mk' (e' := [(0, AV.int .i64 0)]) (H' := ⟨10, [(0, .sem (fsV v')), (1, rollP R 8 AV.nilPtr), (3, earP 9 hd2 left2), (6, boxX), (7, boxT), (8, sealsP R), (9, hdP hd2)]⟩) [some 0, some 1, some 2, some 3, some 4, some 5, some 6, some 7, some 8, some 9] (by kernel_rfl) ⟨AVE.refl _, trivial⟩ subC, (), rfl, rfl⟩
def stepsP (x t r l e : Nat) : Chunk := .cells 71 [.fnc (.func 82) [] [.ptr x 0, .ptr t 0], .fnc (.func 84) [] [.ptr x 0, .ptr t 0], .fnc (.func 86) [] [.ptr x 0, .ptr r 0, .ptr l 0, .ptr e 0]]
@[reducible] def w1H (g : RG) (hd : List Ed) (left : Int) (r : Rec) (v : VM) (s : SG) (a b : Nat) (e : Int) : AH := ⟨12, [(0, .sem (fsV v)), (1, rollP g 2 (.ptr 5 0)), (2, sealsP g), (3, earP 4 hd left), (4, hdP hd), (5, segP s), (6, boxX), (7, boxT), (8, boxR r), (9, boxL a b), (10, boxE e), (11, stepsP 6 7 8 9 10)]⟩
def w1S (g : RG) (hd : List Ed) (left : Int) (r : Rec) (v : VM) (s : SG) (v' : VM) (s' : SG) (a b : Nat) (e : Int) : Nat → AH
 | 0 => w1H g hd left r v s 0 0 0
 | _ => w1H g hd left r v' s' a b e
include hg
theorem appRoom_ok {r : Rec} {a b : Nat} {e : Int} (hm : r.May) (hq : lastR s.s.last g.sealed < r.seq) (hroom : s.s.size + r.size ≤ g.lim) (hlim : g.lim ≤ 16777216) (h : AppOk s v r a b e s' v') : AFn Go.Proofs.Tryz.prog 23 [.ptr 1 0, earA, recA r] (rlO g hd left v s) (fun _ : Unit => .tup [locA a b, AV.int .i64 e]) (fun _ => rlO g hd left v' s') := by
 refine ACall.fin ?_
 refine ACall.walk (C := cfgAq 84 6) (cfgAqOk _ _) sch23 (fn := Go.Proofs.Tryz.f23) (by kernel_rfl) (by kernel_rfl) rfl (by kernel_rfl) (by kernel_rfl) rfl rfl ?_
 refine goA ?_
 refine AFn.useA [0, 1, 2, 3, 4, 5] (noneO_ok g hd left v s) fun _ => ?_
 refine goA ?_
 refine AFn.useA [] (recMay_ok r (May.B hm)) fun _ => ?_
 rw [decide_eq_true hm]
 refine goA ?_
 refine AFn.useA [0, 1, 2, 3, 4, 5] (lastO_ok g hd left v s hg) fun _ => ?_
 refine goA ?_
 refine ifdA (fun q => ?_) (fun q => ?_) <;> (try dsimp only at q)
 ·exfalso; omega
 refine goA ?_
 refine AFn.useA [0, 5] (segSeal_ok s v) fun _ => ?_
 refine goA ?_
 refine AFn.useA [] (recSize_ok r (May.B hm)) fun _ => ?_
 refine goA ?_
 refine ifdA (fun q2 => ?_) (fun q2 => ?_) <;> (try dsimp only at q2)
 ·refine goA ?_
  refine AWP.loop (X := { i : Nat // i ≤ 1 ∧ (i = 1 → e = 0) }) (fun x => [(3, .ptr 6 0), (4, .ptr 7 0), (5, .ptr 8 0), (6, .ptr 9 0), (7, .ptr 10 0), (71, .row 11 1 2 1), (72, AV.int .i64 1), (73, AV.int .i64 x.1)]) (fun x => w1S g hd left r v s v' s' a b e x.1) (fun x => 1 - x.1) (⟨0, Nat.zero_le _, fun h => by cases h⟩) ?_ fun x => AWP.go (S := sch23) (cfgAqOk _ _) (.of_eq (by kernel_rfl)) ?_
  ·exact Ent.mkA [some 0, some 1, some 2, some 3, some 4, some 5, some 6, some 7, some 8, some 9, some 10, some 11]
  ·obtain ⟨i, hi, he⟩ := x
   have : i = 0 ∨ i = 1 := by omega
   rcases this with rfl | rfl
   ·refine goA ?_
    refine AFn.useA [0, 1, 5, 6, 8, 9, 10, 2] (apd3_ok g 0 0 0 h) fun _ => ?_
    refine goA ?_
    refine ifdA (fun q3 => ?_) (fun q3 => ?_) <;> (try dsimp only at q3)
    ·refine goA ?_
     refine And.intro ?_ ?_ <;> (refine goA ?_)
     all_goals
      refine ⟨_, _, Ent.mk' (e' := [(0, .tup [locA a b, AV.int .i64 e])]) (H' := rlO g hd left v' s') [some 0, some 1, some 2, some 3, some 4, some 5] (by kernel_rfl) ?_ ?_, (), rfl, rfl⟩
      ·exact ⟨AVE.refl _, trivial⟩
      ·exact subC
    ·refine goA ?_
     exact ⟨⟨1, Nat.le_refl _, fun _ => q3⟩, (show Ent _ _ _ _ _ (w1H g hd left r v' s' a b e) from Ent.mkA [some 0, some 1, some 2, some 3, some 4, some 5, some 6, some 7, some 8, some 9, some 10, some 11]), Nat.zero_lt_one⟩
   ·refine goA ?_
    refine And.intro ?_ ?_ <;> (refine goA ?_)
    all_goals
     refine ⟨_, _, Ent.mk' (e' := [(0, .tup [locA a b, AV.int .i64 e])]) (H' := rlO g hd left v' s') [some 0, some 1, some 2, some 3, some 4, some 5] (by kernel_rfl) ?_ ?_, (), rfl, rfl⟩
     ·exact ⟨AVE.refl _, trivial⟩
     ·exact subC
 ·exfalso; omega
@[reducible] def w2H (g : RG) (hd : List Ed) (left : Int) (r : Rec) (v : VM) : AH := ⟨11, [(0, .sem (fsV v)), (1, rollP g 2 AV.nilPtr), (2, sealsP g), (3, earP 4 hd left), (4, hdP hd), (5, boxX), (6, boxT), (7, boxR r), (8, boxL 0 0), (9, boxE 0), (10, stepsP 5 6 7 8 9)]⟩
@[reducible] def w2N (g : RG) (hd : List Ed) (left : Int) (r : Rec) (v : VM) (s : SG) (a b : Nat) (e : Int) : AH := ⟨13, [(0, .sem (fsV v)), (1, rollP g 2 (.ptr 11 0)), (2, sealsP g), (3, earP 12 hd left), (5, boxX), (6, boxT), (7, boxR r), (8, boxL a b), (9, boxE e), (10, stepsP 5 6 7 8 9), (11, segP s), (12, hdP hd)]⟩
end
section
variable (g : RG) (hd : List Ed) (left : Int) {v v1 v' : VM} {s s' : SG} (hg : g.sealed.length ≤ 1000) {R : RG} {hd2 : List Ed} {left2 : Int}
def w2S (g : RG) (hd : List Ed) (left : Int) (r : Rec) (v : VM) (R : RG) (hd2 : List Ed) (left2 : Int) (v1 : VM) (s : SG) (v' : VM) (s' : SG) (a b : Nat) (e : Int) : Nat → AH
 | 0 => w2H g hd left r v
 | 1 => w2N R hd2 left2 r v1 s 0 0 0
 | _ => w2N R hd2 left2 r v' s' a b e
include hg
theorem appBegin_ok {r : Rec} {a b : Nat} {e : Int} (hm : r.May) (hq : lastR 0 g.sealed < r.seq) (hB : AFn Go.Proofs.Tryz.prog 85 [.ptr 1 0, earA] (rlC g hd left v) (fun _ : Unit => AV.int .i64 0) (fun _ => rlOn R hd2 left2 v1 s)) (h : AppOk s v1 r a b e s' v') : AFn Go.Proofs.Tryz.prog 23 [.ptr 1 0, earA, recA r] (rlC g hd left v) (fun _ : Unit => .tup [locA a b, AV.int .i64 e]) (fun _ => rlOn R hd2 left2 v' s') := by
 refine ACall.fin ?_
 refine ACall.walk (C := cfgAq 84 5) (cfgAqOk _ _) sch23 (fn := Go.Proofs.Tryz.f23) (by kernel_rfl) (by kernel_rfl) rfl (by kernel_rfl) (by kernel_rfl) rfl rfl ?_
 refine goA ?_
 refine AFn.useA [0, 1, 2, 3, 4] (noneC_ok g hd left v) fun _ => ?_
 refine goA ?_
 refine AFn.useA [] (recMay_ok r (May.B hm)) fun _ => ?_
 rw [decide_eq_true hm]
 refine goA ?_
 refine AFn.useA [0, 1, 2, 3, 4] (lastC_ok g hd left v hg) fun _ => ?_
 refine goA ?_
 refine ifdA (fun q => ?_) (fun q => ?_) <;> (try dsimp only at q)
 ·exfalso; omega
 refine goA ?_
 refine AWP.loop (X := { i : Nat // i ≤ 2 ∧ (i = 2 → e = 0) }) (fun x => [(3, .ptr 5 0), (4, .ptr 6 0), (5, .ptr 7 0), (6, .ptr 8 0), (7, .ptr 9 0), (71, .row 10 1 1 2), (72, AV.int .i64 2), (73, AV.int .i64 x.1)]) (fun x => w2S g hd left r v R hd2 left2 v1 s v' s' a b e x.1) (fun x => 2 - x.1) (⟨0, Nat.zero_le _, fun h => by cases h⟩) ?_ fun x => AWP.go (S := sch23) (cfgAqOk _ _) (.of_eq (by kernel_rfl)) ?_
 ·exact Ent.mkA [some 0, some 1, some 2, some 3, some 4, some 5, some 6, some 7, some 8, some 9, some 10]
 ·obtain ⟨i, hi, he⟩ := x
  have : i = 0 ∨ i = 1 ∨ i = 2 := by omega
  rcases this with rfl | rfl | rfl
  ·refine goA ?_
   refine AFn.useA [0, 1, 2, 3, 4, 5, 6] (apd2_ok g hd left hB) fun _ => ?_
   refine goA ?_
   refine ⟨⟨1, by decide, fun h => by cases h⟩, ?_, (by decide : 2 - 1 < 2 - 0)⟩
   show Ent _ _ _ _ _ (w2N R hd2 left2 r v1 s 0 0 0)
   exact Ent.mkA [some 0, some 1, some 2, some 3, some 4, some 5, some 6, some 7, some 8, some 9, some 10, some 11, some 12]
  ·refine goA ?_
   refine AFn.useA [0, 1, 11, 5, 7, 8, 9, 2] (apd3_ok R 0 0 0 h) fun _ => ?_
   refine goA ?_
   refine ifdA (fun q3 => ?_) (fun q3 => ?_) <;> (try dsimp only at q3)
   ·refine goA ?_
    refine And.intro ?_ ?_ <;> (refine goA ?_)
    all_goals
     refine ⟨_, _, Ent.mk' (e' := [(0, .tup [locA a b, AV.int .i64 e])]) (H' := rlOn R hd2 left2 v' s') [some 0, some 1, some 2, some 3, some 4, some 11, some 12] (by kernel_rfl) ?_ ?_, (), rfl, rfl⟩
     ·exact ⟨AVE.refl _, trivial⟩
     ·exact subC
   ·refine goA ?_
    exact ⟨⟨2, Nat.le_refl _, fun _ => q3⟩, (show Ent _ _ _ _ _ (w2N R hd2 left2 r v' s' a b e) from Ent.mkA [some 0, some 1, some 2, some 3, some 4, some 5, some 6, some 7, some 8, some 9, some 10, some 11, some 12]), (by decide : 2 - 2 < 2 - 1)⟩
  ·refine goA ?_
   refine And.intro ?_ ?_ <;> (refine goA ?_)
   all_goals
    refine ⟨_, _, Ent.mk' (e' := [(0, .tup [locA a b, AV.int .i64 e])]) (H' := rlOn R hd2 left2 v' s') [some 0, some 1, some 2, some 3, some 4, some 11, some 12] (by kernel_rfl) ?_ ?_, (), rfl, rfl⟩
    ·exact ⟨AVE.refl _, trivial⟩
    ·exact subC
end
end Go.Proofs.YtgfkepebfaiepaaGreatDoor.Ax

namespace Go.Proofs.YtgfkepebfaiepaaGreatDoor.Ax
open Go.RowKit
set_option maxRecDepth 100000
theorem isIt_ok (s : Sl) (x o : Nat) : AFn Go.Proofs.Tryz.prog 88 [slA s, .ptr 0 0] ⟨1, [(0, boxL x o)]⟩ (fun _ : Unit => AV.bool (decide (s.id = x))) (fun _ => ⟨1, [(0, boxL x o)]⟩) := by
 refine ACall.fin ?_
 refine ACall.walk (C := cfgAq 9 1) (cfgAqOk _ _) [] (fn := Go.Proofs.Tryz.f88) (by kernel_rfl) (by kernel_rfl) rfl (by kernel_rfl) (by kernel_rfl) rfl rfl ?_
 refine goA ?_
 refine ⟨_, _, Ent.mk' (e' := [(0, AV.bool (decide (s.id = x)))]) (H' := ⟨1, [(0, boxL x o)]⟩) [some 0] (by kernel_rfl) ⟨AVE.bool (by rw [decide_eq_decide]; omega), trivial⟩ subC, (), rfl, rfl⟩
theorem idxSeal_ok (l : List Sl) (hl : l.length ≤ 1000) (x o k : Nat) (hk : k < l.length) (hx : (l.getD k default).id = x) (hne : ∀ j, j < k → (l.getD j default).id ≠ x) : AFn Go.Proofs.Tryz.prog 87 [.row 0 5 0 l.length, .fnc (.func 88) [] [.ptr 1 0]] ⟨2, [(0, .rowc 40 5 l.length (sealF l)), (1, boxL x o)]⟩ (fun _ : Unit => AV.int .i64 k) (fun _ => ⟨2, [(0, .rowc 40 5 l.length (sealF l)), (1, boxL x o)]⟩) := by
 refine ACall.fin ?_
 refine ACall.walk (C := cfgAq 19 2) (cfgAqOk _ _) [] (fn := Go.Proofs.Tryz.f87) (by kernel_rfl) (by kernel_rfl) rfl (by kernel_rfl) (by kernel_rfl) rfl rfl ?_
 refine goA ?_
 refine AWP.loop (X := { i : Nat // i ≤ k }) (fun y => [(0, .row 0 5 0 l.length), (1, .fnc (.func 88) [] [.ptr 1 0]), (7, AV.int .i64 l.length), (8, AV.int .i64 y.1)]) (fun y => ⟨2, [(0, .rowc 40 5 l.length (sealF l)), (1, boxL x o)]⟩) (fun y => l.length - y.1) (⟨0, Nat.zero_le _⟩) ?_ fun y => AWP.go (S := []) (cfgAqOk _ _) (.of_eq (by kernel_rfl)) ?_
 ·exact Ent.mkA [some 0, some 1]
 ·obtain ⟨i, hi⟩ := y
  dsimp only
  have hlt : i < l.length := by omega
  have hg : l.getD (0 + ((i : Nat) : Int).toNat) default = l.getD i default := by rw [Nat.zero_add]; rfl
  refine goA ?_
  refine ifdA (fun h => ?_) (fun h => ?_) <;> (try dsimp only at h)
  ·refine goA ?_
   rw [hg]
   refine AFn.useA [1] (isIt_ok (l.getD i default) x o) fun _ => ?_
   by_cases e : i = k
   ·subst e
    rw [decide_eq_true hx]
    refine goA ?_
    refine ⟨_, _, Ent.mk' (e' := [(0, AV.int .i64 i)]) (H' := ⟨2, [(0, .rowc 40 5 l.length (sealF l)), (1, boxL x o)]⟩) [some 0, some 1] (by kernel_rfl) ?_ ?_, (), rfl, rfl⟩
    ·exact ⟨AVE.refl _, trivial⟩
    ·exact subC
   ·rw [decide_eq_false (hne i (by omega))]
    refine goA ?_
    refine ⟨⟨i + 1, by omega⟩, Ent.mkA [some 0, some 1], ?_⟩
    show l.length - (i + 1) < l.length - i
    omega
  ·exfalso; omega
section
variable (g : RG) (hd : List Ed) (left : Int) {v v' : VM} {s s' : SG}
theorem readOpen_ok {o : Nat} {r : Rec} {e : Int} (h : AFn Go.Proofs.Tryz.prog 58 [.ptr 1 0, locA s.s.id o] (sgH s v) (fun _ : Unit => .tup [recA r, AV.int .i64 e]) (fun _ => sgH s v)) : AFn Go.Proofs.Tryz.prog 24 [.ptr 1 0, locA s.s.id o] (rlO g hd left v s) (fun _ : Unit => .tup [recA r, AV.int .i64 e]) (fun _ => rlO g hd left v s) := by
 refine ACall.fin ?_
 refine ACall.walk (C := cfgAq 65 6) (cfgAqOk _ _) sch24 (fn := Go.Proofs.Tryz.f24) (by kernel_rfl) (by kernel_rfl) rfl (by kernel_rfl) (by kernel_rfl) rfl rfl ?_
 refine goA ?_
 refine AFn.useA [0, 1, 2, 3, 4, 5] (noneO_ok g hd left v s) fun _ => ?_
 refine goA ?_
 refine AFn.useA [0, 5] (segSeal_ok s v) fun _ => ?_
 refine goA ?_
 rw [decide_eq_true (show (s.s.id : Int) = (s.s.id : Int) from rfl)]
 refine goA ?_
 refine AFn.useA [0, 5] (h) fun _ => ?_
 refine goA ?_
 refine ⟨_, _, Ent.mk' (e' := [(0, .tup [recA r, AV.int .i64 e])]) (H' := rlO g hd left v s) [some 0, some 1, some 2, some 3, some 4, some 5] (by kernel_rfl) ?_ ?_, (), rfl, rfl⟩
 ·exact ⟨AVE.refl _, trivial⟩
 ·exact subC
theorem readSealed_ok (hg : g.sealed.length ≤ 1000) {x o k : Nat} {r : Rec} {e : Int} (hk : k < g.sealed.length) (hx : (g.sealed.getD k default).id = x) (hne : ∀ j, j < k → (g.sealed.getD j default).id ≠ x) (hns : s.s.id ≠ x) (hi : IsId x) (h1 : 16 ≤ (g.sealed.getD k default).size) (h2 : (g.sealed.getD k default).size ≤ 16777216) (h : AFn Go.Proofs.Tryz.prog 58 [.ptr 1 0, locA x o] (sgH ⟨g.sealed.getD k default, (g.sealed.getD k default).last⟩ v) (fun _ : Unit => .tup [recA r, AV.int .i64 e]) (fun _ => sgH ⟨g.sealed.getD k default, (g.sealed.getD k default).last⟩ v)) : AFn Go.Proofs.Tryz.prog 24 [.ptr 1 0, locA x o] (rlO g hd left v s) (fun _ : Unit => .tup [recA r, AV.int .i64 e]) (fun _ => rlO g hd left v s) := by
 have hgk : g.sealed.getD (0 + ((k : Nat) : Int).toNat) default = g.sealed.getD k default := by rw [Nat.zero_add]; rfl
 have hOf := segOf_ok (g.sealed.getD k default) v (by rw [hx]; exact hi) h1 h2
 have hIx := idxSeal_ok g.sealed hg x o k hk hx hne
 generalize g.sealed.getD k default = sl at *
 refine ACall.fin ?_
 refine ACall.walk (C := cfgAq 65 6) (cfgAqOk _ _) sch24 (fn := Go.Proofs.Tryz.f24) (by kernel_rfl) (by kernel_rfl) rfl (by kernel_rfl) (by kernel_rfl) rfl rfl ?_
 refine goA ?_
 refine AFn.useA [0, 1, 2, 3, 4, 5] (noneO_ok g hd left v s) fun _ => ?_
 refine goA ?_
 refine AFn.useA [0, 5] (segSeal_ok s v) fun _ => ?_
 refine goA ?_
 refine ifdA (fun q => ?_) (fun q => ?_) <;> (try dsimp only at q)
 ·exfalso; omega
 refine goA ?_
 refine AFn.useA [2, 6] (hIx) fun _ => ?_
 refine goA ?_
 rw [hgk]
 refine AFn.useA [0] (hOf) fun _ => ?_
 refine goA ?_
 refine AFn.useA [0, 8] (h) fun _ => ?_
 refine goA ?_
 refine ⟨_, _, Ent.mk' (e' := [(0, .tup [recA r, AV.int .i64 e])]) (H' := rlO g hd left v s) [some 0, some 1, some 2, some 3, some 4, some 5] (by kernel_rfl) ?_ ?_, (), rfl, rfl⟩
 ·exact ⟨AVE.refl _, trivial⟩
 ·exact subC
end
end Go.Proofs.YtgfkepebfaiepaaGreatDoor.Ax

namespace Go.Proofs.YtgfkepebfaiepaaGreatDoor.Ax
open Go.RowKit
set_option maxRecDepth 100000
@[reducible] def w4A (g : RG) (hd : List Ed) (left : Int) (r : Rec) (v : VM) : AH := ⟨14, [(0, .sem (fsV v)), (1, rollP g 12 AV.nilPtr), (3, earP 13 hd left), (6, boxX), (7, boxT), (8, boxR r), (9, boxL 0 0), (10, boxE 0), (11, stepsP 6 7 8 9 10), (12, sealsP g), (13, hdP hd)]⟩
@[reducible] def w4N (g : RG) (hd : List Ed) (left : Int) (r : Rec) (v : VM) (s : SG) (a b : Nat) (e : Int) : AH := ⟨16, [(0, .sem (fsV v)), (1, rollP g 12 (.ptr 14 0)), (3, earP 15 hd left), (6, boxX), (7, boxT), (8, boxR r), (9, boxL a b), (10, boxE e), (11, stepsP 6 7 8 9 10), (12, sealsP g), (14, segP s), (15, hdP hd)]⟩
@[reducible] def rlOm (g : RG) (hd : List Ed) (left : Int) (v : VM) (s : SG) : AH := ⟨9, [(0, .sem (fsV v)), (1, rollP g 6 (.ptr 7 0)), (3, earP 8 hd left), (6, sealsP g), (7, segP s), (8, hdP hd)]⟩
section
variable (g : RG) (hd : List Ed) (left : Int) {v v1 v2 v3 : VM} {s s2 s3 : SG} (hg : g.sealed.length ≤ 1000) {R1 R2 : RG} {hd1 hd2 : List Ed} {left1 left2 : Int}
def w4S (g : RG) (hd : List Ed) (left : Int) (r : Rec) (v : VM) (s : SG) (R1 : RG) (hd1 : List Ed) (left1 : Int) (v1 : VM) (R2 : RG) (hd2 : List Ed) (left2 : Int) (v2 : VM) (s2 : SG) (v3 : VM) (s3 : SG) (a b : Nat) (e : Int) : Nat → AH
 | 0 => w1H g hd left r v s 0 0 0
 | 1 => w4A R1 hd1 left1 r v1
 | 2 => w4N R2 hd2 left2 r v2 s2 0 0 0
 | _ => w4N R2 hd2 left2 r v3 s3 a b e
include hg
theorem appFull_ok {r : Rec} {a b : Nat} {e : Int} (hm : r.May) (hq : lastR s.s.last g.sealed < r.seq) (hfull : g.lim < s.s.size + r.size) (hsz : s.s.size ≤ 16777216) (hR : AFn Go.Proofs.Tryz.prog 83 [.ptr 1 0, earA] (rlO g hd left v s) (fun _ : Unit => AV.int .i64 0) (fun _ => rlCn R1 hd1 left1 v1))
 (hB : AFn Go.Proofs.Tryz.prog 85 [.ptr 1 0, earA] (rlC R1 hd1 left1 v1) (fun _ : Unit => AV.int .i64 0) (fun _ => rlOn R2 hd2 left2 v2 s2)) (h : AppOk s2 v2 r a b e s3 v3) : AFn Go.Proofs.Tryz.prog 23 [.ptr 1 0, earA, recA r] (rlO g hd left v s) (fun _ : Unit => .tup [locA a b, AV.int .i64 e]) (fun _ => rlOm R2 hd2 left2 v3 s3) := by
 refine ACall.fin ?_
 refine ACall.walk (C := cfgAq 84 6) (cfgAqOk _ _) sch23 (fn := Go.Proofs.Tryz.f23) (by kernel_rfl) (by kernel_rfl) rfl (by kernel_rfl) (by kernel_rfl) rfl rfl ?_
 refine goA ?_
 refine AFn.useA [0, 1, 2, 3, 4, 5] (noneO_ok g hd left v s) fun _ => ?_
 refine goA ?_
 refine AFn.useA [] (recMay_ok r (May.B hm)) fun _ => ?_
 rw [decide_eq_true hm]
 refine goA ?_
 refine AFn.useA [0, 1, 2, 3, 4, 5] (lastO_ok g hd left v s hg) fun _ => ?_
 refine goA ?_
 refine ifdA (fun q => ?_) (fun q => ?_) <;> (try dsimp only at q)
 ·exfalso; omega
 refine goA ?_
 refine AFn.useA [0, 5] (segSeal_ok s v) fun _ => ?_
 refine goA ?_
 refine AFn.useA [] (recSize_ok r (May.B hm)) fun _ => ?_
 have hs2 := May.size hm
 refine goA ?_
 refine ifdA (fun q2 => ?_) (fun q2 => ?_) <;> (try dsimp only at q2)
 ·exfalso; omega
 refine goA ?_
 refine AWP.loop (X := { i : Nat // i ≤ 3 ∧ (i = 3 → e = 0) }) (fun x => [(3, .ptr 6 0), (4, .ptr 7 0), (5, .ptr 8 0), (6, .ptr 9 0), (7, .ptr 10 0), (71, .row 11 1 0 3), (72, AV.int .i64 3), (73, AV.int .i64 x.1)]) (fun x => w4S g hd left r v s R1 hd1 left1 v1 R2 hd2 left2 v2 s2 v3 s3 a b e x.1) (fun x => 3 - x.1) (⟨0, Nat.zero_le _, fun h => by cases h⟩) ?_ fun x => AWP.go (S := sch23) (cfgAqOk _ _) (.of_eq (by kernel_rfl)) ?_
 ·exact Ent.mkA [some 0, some 1, some 2, some 3, some 4, some 5, some 6, some 7, some 8, some 9, some 10, some 11]
 ·obtain ⟨i, hi, he⟩ := x
  have : i = 0 ∨ i = 1 ∨ i = 2 ∨ i = 3 := by omega
  rcases this with rfl | rfl | rfl | rfl
  ·refine goA ?_
   refine AFn.useA [0, 1, 2, 3, 4, 5, 6, 7] (apd1_ok g hd left hR) fun _ => ?_
   refine goA ?_
   refine ⟨⟨1, by decide, fun h => by cases h⟩, ?_, (by decide : 3 - 1 < 3 - 0)⟩
   show Ent _ _ _ _ _ (w4A R1 hd1 left1 r v1)
   exact Ent.mkA [some 0, some 1, some 2, some 3, some 4, some 5, some 6, some 7, some 8, some 9, some 10, some 11, some 12, some 13]
  ·refine goA ?_
   refine AFn.useA [0, 1, 12, 3, 13, 6, 7] (apd2_ok R1 hd1 left1 hB) fun _ => ?_
   refine goA ?_
   refine ⟨⟨2, by decide, fun h => by cases h⟩, ?_, (by decide : 3 - 2 < 3 - 1)⟩
   show Ent _ _ _ _ _ (w4N R2 hd2 left2 r v2 s2 0 0 0)
   exact Ent.mkA [some 0, some 1, some 2, some 3, some 4, some 5, some 6, some 7, some 8, some 9, some 10, some 11, some 12, some 13, some 14, some 15]
  ·refine goA ?_
   refine AFn.useA [0, 1, 14, 6, 8, 9, 10, 12] (apd3_ok R2 0 0 0 h) fun _ => ?_
   refine goA ?_
   refine ifdA (fun q3 => ?_) (fun q3 => ?_) <;> (try dsimp only at q3)
   ·refine goA ?_
    refine And.intro ?_ ?_ <;> (refine goA ?_)
    all_goals
     refine ⟨_, _, Ent.mk' (e' := [(0, .tup [locA a b, AV.int .i64 e])]) (H' := rlOm R2 hd2 left2 v3 s3) [some 0, some 1, some 2, some 3, some 4, some 5, some 12, some 14, some 15] (by kernel_rfl) ?_ ?_, (), rfl, rfl⟩
     ·exact ⟨AVE.refl _, trivial⟩
     ·exact subC
   ·refine goA ?_
    refine ⟨⟨3, Nat.le_refl _, fun _ => q3⟩, ?_, (by decide : 3 - 3 < 3 - 2)⟩
    show Ent _ _ _ _ _ (w4N R2 hd2 left2 r v3 s3 a b e)
    exact Ent.mkA [some 0, some 1, some 2, some 3, some 4, some 5, some 6, some 7, some 8, some 9, some 10, some 11, some 12, some 13, some 14, some 15]
  ·refine goA ?_
   refine And.intro ?_ ?_ <;> (refine goA ?_)
   all_goals
    refine ⟨_, _, Ent.mk' (e' := [(0, .tup [locA a b, AV.int .i64 e])]) (H' := rlOm R2 hd2 left2 v3 s3) [some 0, some 1, some 2, some 3, some 4, some 5, some 12, some 14, some 15] (by kernel_rfl) ?_ ?_, (), rfl, rfl⟩
    ·exact ⟨AVE.refl _, trivial⟩
    ·exact subC
end
end Go.Proofs.YtgfkepebfaiepaaGreatDoor.Ax

namespace Go.Proofs.YtgfkepebfaiepaaGreatDoor.Ax
open Go.RowKit
set_option maxRecDepth 100000
theorem cloneNil_ok : AFn Go.Proofs.Tryz.prog 72 [AV.nilSl] ⟨0, []⟩ (fun _ : Unit => .row 0 5 0 0) (fun _ => ⟨1, [(0, .rowc 40 5 0 (sealF []))]⟩) := by
 refine ACall.fin ?_
 refine ACall.walk (C := cfg 8 0) (cfgOk _ _) [] (fn := Go.Proofs.Tryz.f72) (by kernel_rfl) (by kernel_rfl) rfl (by kernel_rfl) (by kernel_rfl) rfl rfl ?_
 refine goA ?_
 exact ⟨_, _, (HEnt.ent (HEnt.addNil 40 5 (sealF []))).trans (Ent.mk' (e' := [(0, .row 0 5 0 0)]) (H' := ⟨1, [(0, .rowc 40 5 0 (sealF []))]⟩) [some 0] (by kernel_rfl) ⟨AVE.nil _ _, trivial⟩ subC), (), rfl, rfl⟩
theorem risingNil_ok (n : Nat) : AFn Go.Proofs.Tryz.prog 73 [AV.nilSl, AV.int .u32 n] ⟨0, []⟩ (fun _ : Unit => AV.bool true) (fun _ => ⟨0, []⟩) := by
 refine ACall.fin ?_
 refine ACall.walk (C := cfg 36 0) (cfgOk _ _) [] (fn := Go.Proofs.Tryz.f73) (by kernel_rfl) (by kernel_rfl) rfl (by kernel_rfl) (by kernel_rfl) rfl rfl ?_
 refine goA ?_
 refine AWP.loop (X := Unit) (fun x => [(0, AV.nilSl), (8, AV.nilSl), (9, AV.int .i64 0), (10, AV.int .i64 0)]) (fun x => ⟨0, []⟩) (fun x => 0) (()) ?_ fun x => AWP.go (S := []) (cfgOk _ _) (.of_eq (by kernel_rfl)) ?_
 ·exact Ent.mkA []
 ·refine goA ?_
  refine ⟨_, _, Ent.mk' (e' := [(0, AV.bool true)]) (H' := ⟨0, []⟩) [] (by kernel_rfl) ?_ ?_, (), rfl, rfl⟩
  ·exact ⟨AVE.refl _, trivial⟩
  ·trivial
theorem risingRow_ok (n : Nat) : AFn Go.Proofs.Tryz.prog 73 [.row 0 5 0 0, AV.int .u32 n] ⟨1, [(0, .rowc 40 5 0 (sealF []))]⟩ (fun _ : Unit => AV.bool true) (fun _ => ⟨1, [(0, .rowc 40 5 0 (sealF []))]⟩) := by
 refine ACall.fin ?_
 refine ACall.walk (C := cfg 36 1) (cfgOk _ _) [] (fn := Go.Proofs.Tryz.f73) (by kernel_rfl) (by kernel_rfl) rfl (by kernel_rfl) (by kernel_rfl) rfl rfl ?_
 refine goA ?_
 refine AWP.loop (X := Unit) (fun x => [(0, .row 0 5 0 0), (8, .row 0 5 0 0), (9, AV.int .i64 0), (10, AV.int .i64 0)]) (fun x => ⟨1, [(0, .rowc 40 5 0 (sealF []))]⟩) (fun x => 0) (()) ?_ fun x => AWP.go (S := []) (cfgOk _ _) (.of_eq (by kernel_rfl)) ?_
 ·exact Ent.mkA [some 0]
 ·refine goA ?_
  refine ⟨_, _, Ent.mk' (e' := [(0, AV.bool true)]) (H' := ⟨1, [(0, .rowc 40 5 0 (sealF []))]⟩) [some 0] (by kernel_rfl) ?_ ?_, (), rfl, rfl⟩
  ·exact ⟨AVE.refl _, trivial⟩
  ·exact subC
@[reducible] def rlZ (g : RG) (v : VM) : AH := ⟨3, [(0, .sem (fsV v)), (1, .cells 153 [.ptr 0 0, AV.int .i64 g.lim, .row 2 5 0 0, AV.nilPtr, AV.int .u32 g.next, AV.int .u64 g.safe]), (2, .rowc 40 5 0 (sealF []))]⟩
theorem noneZ_ok (g : RG) (v : VM) : AFn Go.Proofs.Tryz.prog 76 [.ptr 1 0] (rlZ g v) (fun _ : Unit => AV.bool false) (fun _ => rlZ g v) := by
 refine ACall.fin ?_
 refine ACall.walk (C := cfg 12 3) (cfgOk _ _) [] (fn := Go.Proofs.Tryz.f76) (by kernel_rfl) (by kernel_rfl) rfl (by kernel_rfl) (by kernel_rfl) rfl rfl ?_
 refine goA ?_
 refine ⟨_, _, Ent.mk' (e' := [(0, AV.bool false)]) (H' := rlZ g v) [some 0, some 1, some 2] (by kernel_rfl) ?_ ?_, (), rfl, rfl⟩
 ·exact ⟨AVE.refl _, trivial⟩
 ·exact subC
theorem lastZ_ok (g : RG) (v : VM) : AFn Go.Proofs.Tryz.prog 20 [.ptr 1 0] (rlZ g v) (fun _ : Unit => AV.int .u64 0) (fun _ => rlZ g v) := by
 refine ACall.fin ?_
 refine ACall.walk (C := cfgRl 29 3) (cfgRlOk _ _) [] (fn := Go.Proofs.Tryz.f20) (by kernel_rfl) (by kernel_rfl) rfl (by kernel_rfl) (by kernel_rfl) rfl rfl ?_
 refine goA ?_
 refine AFn.useA [0, 1, 2] (noneZ_ok g v) fun _ => ?_
 refine goA ?_
 refine AFn.useA [] (segSealNil) fun _ => ?_
 refine goA ?_
 refine AWP.loop (X := Unit) (fun i => [(0, .ptr 1 0), (3, AV.int .u64 0), (17, .row 2 5 0 0), (18, AV.int .i64 0), (19, AV.int .i64 0)]) (fun i => rlZ g v) (fun i => 0) (()) ?_ fun i => AWP.go (S := []) (cfgRlOk _ _) (.of_eq (by kernel_rfl)) ?_
 ·exact Ent.mkA [some 0, some 1, some 2]
 ·refine goA ?_
  refine ⟨_, _, Ent.mk' (e' := [(0, AV.int .u64 0)]) (H' := rlZ g v) [some 0, some 1, some 2] (by kernel_rfl) ?_ ?_, (), rfl, rfl⟩
  ·exact ⟨AVE.refl _, trivial⟩
  ·exact subC
theorem rollNew_ok (lim next : Nat) (h : 4096 ≤ lim ∧ lim ≤ 16777216) (v : VM) : AFn Go.Proofs.Tryz.prog 18 [.ptr 0 0, AV.int .i64 lim, AV.nilSl, slA ⟨0, 0, 0, 0, 0⟩, AV.int .u32 next] (fone v) (fun _ : Unit => .tup [.ptr 1 0, AV.int .i64 0]) (fun _ => rlZ ⟨lim, [], next, 0⟩ v) := by
 obtain ⟨h1, h2⟩ := h
 refine ACall.fin ?_
 refine ACall.walk (C := cfgRl 92 1) (cfgRlOk _ _) [] (fn := Go.Proofs.Tryz.f18) (by kernel_rfl) (by kernel_rfl) rfl (by kernel_rfl) (by kernel_rfl) rfl rfl ?_
 refine goA ?_
 refine AFn.useA [] (cloneNil_ok) fun _ => ?_
 refine goA ?_
 rw [decide_eq_false (show ¬ (lim : Int) < 4096 by omega)]
 refine goA ?_
 rw [decide_eq_false (show ¬ (lim : Int) > 16777216 by omega)]
 refine goA ?_
 refine AFn.useA [] (risingNil_ok next) fun _ => ?_
 refine goA ?_
 refine AFn.useA [2] (risingRow_ok next) fun _ => ?_
 refine goA ?_
 refine AFn.useA [0, 3, 2] (lastZ_ok ⟨lim, [], next, 0⟩ v) fun _ => ?_
 refine goA ?_
 refine ⟨_, _, Ent.mk' (e' := [(0, .tup [.ptr 1 0, AV.int .i64 0])]) (H' := rlZ ⟨lim, [], next, 0⟩ v) [some 0, some 3, some 2] (by kernel_rfl) ?_ ?_, (), rfl, rfl⟩
 ·exact ⟨AVE.refl _, trivial⟩
 ·exact subC
end Go.Proofs.YtgfkepebfaiepaaGreatDoor.Ax
