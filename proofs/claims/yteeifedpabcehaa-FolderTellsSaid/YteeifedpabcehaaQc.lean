/-
  chapter 06: the folder's functions
-/
import Derived.Test.YteeifedpabcehaaFm
import Derived.Test.YteeifedpabcehaaSch06
namespace Go.Proofs.Yteeifedpabcehaa.Ax
open Go.RowKit
set_option maxRecDepth 100000
inductive Deed where
  | mk (x : List UInt8) (n : Nat)
  | mv (a b : List UInt8) (n : Nat)
  | rm (x : List UInt8)
instance : Inhabited Deed := ⟨.rm []⟩
abbrev NM := List (List UInt8 × Nat)
def un (n : Nat) : IV := .v (.int .u64 (n : Nat))
def Deed.iv : Deed → IV
  | .mk x n => .fnc (.func 41) [] [.pp [un n], .pp [.str x]]
  | .mv a b n => .fnc (.func 47) [] [.pp [.str a], .pp [un n], .pp [.str b]]
  | .rm x => .fnc (.func 42) [] [.pp [.str x]]
def Deed.on : Deed → NM → NM
  | .mk x n, m => aput m x n
  | .mv a b n, m => aput (adel m a) b n
  | .rm x, m => adel m x
structure FD where
  safe : NM
  now : NM
  ds : List Deed
  last : Nat
def dF (ds : List Deed) (i : Nat) : List IV := [(ds.getD i default).iv]
@[reducible] def FD.H (f : FD) : AH := ⟨4, [(0, .cells 65 [.mp 1, .mp 2, .row 3 1 0 f.ds.length, AV.int .u64 f.last]), (1, .map none (smap un f.safe)), (2, .map none (smap un f.now)), (3, .rowc 80 1 f.ds.length (dF f.ds))]⟩
def FD.did (f : FD) (D : Deed) : FD := ⟨f.safe, D.on f.now, f.ds ++ [D], f.last⟩
theorem mput_un (l : NM) (x : List UInt8) (n : Nat) : mput (smap un l) (.s x) (.v (.int .u64 (n : Nat))) = smap un (aput l x n) := by
  rw [← mput_smap]
  rfl
theorem mk_ok (m : NM) (x : List UInt8) (n : Nat) : AFn Go.Proofs.Try.prog 41 [.mp 0, .iv (.pp [un n]), .iv (.pp [.str x])] ⟨1, [(0, .map none (smap un m))]⟩ (fun _ : Unit => .tup []) (fun _ => ⟨1, [(0, .map none (smap un (aput m x n)))]⟩) := by
  refine ACall.fin ?_
  refine ACall.walk (C := cfg 7 1) (cfgOk _ _) [] (fn := Go.Proofs.Try.f41) (by kernel_rfl) (by kernel_rfl) rfl (by kernel_rfl) (by kernel_rfl) rfl rfl ?_
  (conv => whnf); repeat ((first | (refine And.intro ?_ ?_; (focus ((repeat' (first | exact trivial | refine And.intro rfl ?_)); done))) | (refine And.intro ?_ ?_; (focus (first | omega | (dsimp -iota only; omega) | (simp -iota; omega) | (simp -iota; done) | decide)))); conv => whnf)
  rw [mput_un]
  refine ⟨_, _, Ent.mk' (e' := [(0, .tup [])]) (H' := ⟨1, [(0, .map none (smap un (aput m x n)))]⟩) [some 0] (by kernel_rfl) ?_ ?_, (), rfl, rfl⟩
  · exact ⟨AVE.refl _, trivial⟩
  · (repeat' first | exact trivial | refine ⟨⟨_, rfl, ChE.refl _⟩, ?_⟩)
theorem rm_ok (m : NM) (x : List UInt8) : AFn Go.Proofs.Try.prog 42 [.mp 0, .iv (.pp [.str x])] ⟨1, [(0, .map none (smap un m))]⟩ (fun _ : Unit => .tup []) (fun _ => ⟨1, [(0, .map none (smap un (adel m x)))]⟩) := by
  refine ACall.fin ?_
  refine ACall.walk (C := cfg 5 1) (cfgOk _ _) [] (fn := Go.Proofs.Try.f42) (by kernel_rfl) (by kernel_rfl) rfl (by kernel_rfl) (by kernel_rfl) rfl rfl ?_
  (conv => whnf); repeat ((first | (refine And.intro ?_ ?_; (focus ((repeat' (first | exact trivial | refine And.intro rfl ?_)); done))) | (refine And.intro ?_ ?_; (focus (first | omega | (dsimp -iota only; omega) | (simp -iota; omega) | (simp -iota; done) | decide)))); conv => whnf)
  rw [mdel_smap]
  refine ⟨_, _, Ent.mk' (e' := [(0, .tup [])]) (H' := ⟨1, [(0, .map none (smap un (adel m x)))]⟩) [some 0] (by kernel_rfl) ?_ ?_, (), rfl, rfl⟩
  · exact ⟨AVE.refl _, trivial⟩
  · (repeat' first | exact trivial | refine ⟨⟨_, rfl, ChE.refl _⟩, ?_⟩)
theorem mv_ok (m : NM) (a b : List UInt8) (n : Nat) : AFn Go.Proofs.Try.prog 47 [.mp 0, .iv (.pp [.str a]), .iv (.pp [un n]), .iv (.pp [.str b])] ⟨1, [(0, .map none (smap un m))]⟩ (fun _ : Unit => .tup []) (fun _ => ⟨1, [(0, .map none (smap un (aput (adel m a) b n)))]⟩) := by
  refine ACall.fin ?_
  refine ACall.walk (C := cfg 10 1) (cfgOk _ _) [] (fn := Go.Proofs.Try.f47) (by kernel_rfl) (by kernel_rfl) rfl (by kernel_rfl) (by kernel_rfl) rfl rfl ?_
  (conv => whnf); repeat ((first | (refine And.intro ?_ ?_; (focus ((repeat' (first | exact trivial | refine And.intro rfl ?_)); done))) | (refine And.intro ?_ ?_; (focus (first | omega | (dsimp -iota only; omega) | (simp -iota; omega) | (simp -iota; done) | decide)))); conv => whnf)
  rw [mdel_smap]
  (conv => whnf); repeat ((first | (refine And.intro ?_ ?_; (focus ((repeat' (first | exact trivial | refine And.intro rfl ?_)); done))) | (refine And.intro ?_ ?_; (focus (first | omega | (dsimp -iota only; omega) | (simp -iota; omega) | (simp -iota; done) | decide)))); conv => whnf)
  rw [mput_un]
  refine ⟨_, _, Ent.mk' (e' := [(0, .tup [])]) (H' := ⟨1, [(0, .map none (smap un (aput (adel m a) b n)))]⟩) [some 0] (by kernel_rfl) ?_ ?_, (), rfl, rfl⟩
  · exact ⟨AVE.refl _, trivial⟩
  · (repeat' first | exact trivial | refine ⟨⟨_, rfl, ChE.refl _⟩, ?_⟩)
theorem dF_push {e : Nat} {l : List Deed} {p : Deed} {g : Nat → List IV} (hg : g 0 = [p.iv]) : ChE (.rowc e 1 (l.length + 1) fun j => if j < l.length then dF l j else g (j - l.length)) (.rowc e 1 (l ++ [p]).length (dF (l ++ [p]))) := by
  refine ChE.row (by simp) fun j hj => ?_
  by_cases h : j < l.length
  · simp only [if_pos h]
    unfold dF
    simp [List.getD, List.getElem?_append_left, h]
  · have : j = l.length := by simp at hj; omega
    subst this
    simp only [if_neg h, Nat.sub_self]
    rw [hg]
    simp [dF]
theorem mclone_ok (m : List (MK × IV)) : AFn Go.Proofs.Try.prog 33 [.mp 0] ⟨1, [(0, .map none m)]⟩ (fun _ : Unit => .mp 1) (fun _ => ⟨2, [(0, .map none m), (1, .map none m)]⟩) :=
  ⟨⟨_, Try.func33, by kernel_rfl, by kernel_rfl⟩, fun ρ ι w cargs hG hS hr => by
    simp only [AV.Rs, AV.R] at hr
    obtain ⟨u, us, rfl, ⟨hv, b, g1, g2, rfl⟩, rfl⟩ := hr
    obtain ⟨hv', q1, b', es, clock, k1, k2, k3, k4⟩ := hS.hv (k := 0) (c := .map none m) rfl
    rw [g1] at q1; injection q1 with q1; subst q1
    rw [g2] at k1; injection k1 with k1; subst k1
    have hC := AnyW.maps_Clone (P := Go.Proofs.Try.prog) Try.mclone b es clock w k3
    refine Calls.mono hC fun e w' ⟨he, hw⟩ => ?_
    subst he hw
    obtain ⟨s1, s2⟩ := hS.alloc (.map es clock) 0 (.map none m) ⟨w.heap.size, es, clock, rfl, fun _ => Iff.rfl, heap_alloc_new w _, k4⟩
    exact ⟨.mp 1, _, _, ι, ⟨(), rfl, rfl⟩, by simp only [AV.R]; exact ⟨_, _, Rho.upd_same _ _ _, rfl, rfl⟩, s1, s2⟩⟩
theorem dclone_ok (n : Nat) (hn : n ≤ 1000) (g : Nat → List IV) : AFn Go.Proofs.Try.prog 39 [.row 0 1 0 n] ⟨1, [(0, .rowc 80 1 n g)]⟩ (fun _ : Unit => .row 1 1 0 n) (fun _ => ⟨2, [(0, .rowc 80 1 n g), (1, .rowc 80 1 n g)]⟩) := by
  refine ACall.fin ?_
  refine ACall.walk (C := cfg 8 1) (cfgOk _ _) [] (fn := Go.Proofs.Try.f39) (by kernel_rfl) (by kernel_rfl) rfl (by kernel_rfl) (by kernel_rfl) rfl rfl ?_
  cases n with
  | zero =>
    (conv => whnf); repeat ((first | (refine And.intro ?_ ?_; (focus ((repeat' (first | exact trivial | refine And.intro rfl ?_)); done))) | (refine And.intro ?_ ?_; (focus (first | omega | (dsimp -iota only; omega) | (simp -iota; omega) | (simp -iota; done) | decide)))); conv => whnf)
    refine And.intro ?_ ?_ <;> ((conv => whnf); repeat ((first | (refine And.intro ?_ ?_; (focus ((repeat' (first | exact trivial | refine And.intro rfl ?_)); done))) | (refine And.intro ?_ ?_; (focus (first | omega | (dsimp -iota only; omega) | (simp -iota; omega) | (simp -iota; done) | decide)))); conv => whnf))
    · refine ⟨_, _, Ent.mk' (e' := [(0, .row 1 1 0 0)]) (H' := ⟨2, [(0, .rowc 80 1 0 g), (1, .rowc 80 1 0 g)]⟩) [some 0, none] (by kernel_rfl) ?_ ?_, (), rfl, rfl⟩
      · exact ⟨AVE.nil _ _, trivial⟩
      · exact ⟨⟨_, rfl, ChE.refl _⟩, trivial, trivial⟩
    · refine ⟨_, _, Ent.mk' (e' := [(0, .row 1 1 0 0)]) (H' := ⟨2, [(0, .rowc 80 1 0 g), (1, .rowc 80 1 0 g)]⟩) [some 0, some 2] (by kernel_rfl) ?_ ?_, (), rfl, rfl⟩
      · exact ⟨AVE.refl _, trivial⟩
      · exact ⟨⟨_, rfl, ChE.refl _⟩, ⟨_, rfl, ChE.row (Nat.zero_le _) fun i hi => absurd hi (Nat.not_lt_zero _)⟩, trivial⟩
  | succ n =>
    (conv => whnf); repeat ((first | (refine And.intro ?_ ?_; (focus ((repeat' (first | exact trivial | refine And.intro rfl ?_)); done))) | (refine And.intro ?_ ?_; (focus (first | omega | (dsimp -iota only; omega) | (simp -iota; omega) | (simp -iota; done) | decide)))); conv => whnf)
    refine ⟨_, _, Ent.mk' (e' := [(0, .row 1 1 0 (n + 1))]) (H' := ⟨2, [(0, .rowc 80 1 (n + 1) g), (1, .rowc 80 1 (n + 1) g)]⟩) [some 0, some 2] (by kernel_rfl) ?_ ?_, (), rfl, rfl⟩
    · exact ⟨AVE.len (Nat.zero_add _), trivial⟩
    · exact ⟨⟨_, rfl, ChE.refl _⟩, ⟨_, rfl, ChE.row (by omega) fun i hi => by simp⟩, trivial⟩
section
variable (f : FD)
theorem new_ok : AFn Go.Proofs.Try.prog 7 [] ⟨0, []⟩ (fun _ : Unit => .ptr 0 0) (fun _ => one (FD.H ⟨[], [], [], 0⟩)) := by
  refine ACall.fin ?_
  refine ACall.walk (C := cfg 5 0) (cfgOk _ _) [] (fn := Go.Proofs.Try.f7) (by kernel_rfl) (by kernel_rfl) rfl (by kernel_rfl) (by kernel_rfl) rfl rfl ?_
  (conv => whnf); repeat ((first | (refine And.intro ?_ ?_; (focus ((repeat' (first | exact trivial | refine And.intro rfl ?_)); done))) | (refine And.intro ?_ ?_; (focus (first | omega | (dsimp -iota only; omega) | (simp -iota; omega) | (simp -iota; done) | decide)))); conv => whnf)
  refine ⟨_, _, Ent.shutAt (r2 := .ptr 0 0) [some 2, some 0, some 1, none] (FD.H ⟨[], [], [], 0⟩) rfl (by kernel_rfl) (AVE.of_eq ?_) ?_ (by kernel_rfl) (by kernel_rfl) (by repeat' first | exact trivial | refine ⟨rfl, ?_⟩) rfl, (), ?_, ?_⟩
  all_goals first | rfl | exact ⟨⟨_, rfl, ChE.cells ⟨AVE.refl _, AVE.refl _, AVE.nil _ _, AVE.refl _, rfl⟩⟩, ⟨_, rfl, ChE.refl _⟩, ⟨_, rfl, ChE.refl _⟩, trivial, trivial⟩
theorem none_in : AFn Go.Proofs.Try.prog 27 [.ptr 0 0] f.H (fun _ : Unit => AV.bool false) (fun _ => f.H) := by
  refine ACall.walk (C := cfg 12 4) (cfgOk _ _) [] (fn := Go.Proofs.Try.f27) (by kernel_rfl) (by kernel_rfl) rfl (by kernel_rfl) (by kernel_rfl) rfl rfl ?_
  conv => whnf
  exact ⟨(), rfl, rfl⟩
theorem loose_in : AFn Go.Proofs.Try.prog 14 [.ptr 0 0] f.H (fun _ : Unit => AV.int .i64 f.ds.length) (fun _ => f.H) := by
  refine ACall.walk (C := cfg 10 4) (cfgOk _ _) [] (fn := Go.Proofs.Try.f14) (by kernel_rfl) (by kernel_rfl) rfl (by kernel_rfl) (by kernel_rfl) rfl rfl ?_
  conv => whnf
  refine AFn.use [0, 1, 2, 3] (none_in f) (by kernel_rfl) rfl (by repeat' first | exact trivial | refine ⟨rfl, ?_⟩) fun _ => ?_
  conv => whnf
  exact ⟨(), rfl, rfl⟩
theorem loose_ok : AFn Go.Proofs.Try.prog 14 [.ptr 0 0] (one f.H) (fun _ : Unit => AV.int .i64 f.ds.length) (fun _ => one f.H) := AFn.shut (loose_in f) rfl rfl (fun _ => ⟨by kernel_rfl, by kernel_rfl⟩) (fun _ => (by repeat' first | exact trivial | refine ⟨rfl, ?_⟩)) (fun _ => rfl)
def FD.findN (f : FD) (x : List UInt8) : Nat := (afind f.now x).getD 0
def FD.findB (f : FD) (x : List UInt8) : Bool := (afind f.now x).isSome
theorem find_in (x : List UInt8) : AFn Go.Proofs.Try.prog 8 [.ptr 0 0, .str x] f.H (fun _ : Unit => .tup [AV.int .u64 (f.findN x), AV.bool (f.findB x)]) (fun _ => f.H) := by
  refine ACall.fin ?_
  refine ACall.walk (C := cfg 21 4) (cfgOk _ _) [] (fn := Go.Proofs.Try.f8) (by kernel_rfl) (by kernel_rfl) rfl (by kernel_rfl) (by kernel_rfl) rfl rfl ?_
  (conv => whnf); repeat ((first | (refine And.intro ?_ ?_; (focus ((repeat' (first | exact trivial | refine And.intro rfl ?_)); done))) | (refine And.intro ?_ ?_; (focus (first | omega | (dsimp -iota only; omega) | (simp -iota; omega) | (simp -iota; done) | decide)))); conv => whnf)
  refine AFn.use [0, 1, 2, 3] (none_in f) (by kernel_rfl) rfl (by repeat' first | exact trivial | refine ⟨rfl, ?_⟩) fun _ => ?_
  (conv => whnf); repeat ((first | (refine And.intro ?_ ?_; (focus ((repeat' (first | exact trivial | refine And.intro rfl ?_)); done))) | (refine And.intro ?_ ?_; (focus (first | omega | (dsimp -iota only; omega) | (simp -iota; omega) | (simp -iota; done) | decide)))); conv => whnf)
  rw [mfind_smap]
  refine ⟨fun y hy => ?_, fun hy => ?_⟩
  · obtain ⟨z, hz, hz2⟩ := Option.map_eq_some_iff.1 hy
    obtain ⟨p, hp, rfl⟩ := Option.map_eq_some_iff.1 hz
    subst hz2
    have e1 : f.findN x = p := by simp [FD.findN, hp]
    have e2 : f.findB x = true := by simp [FD.findB, hp]
    rw [e1, e2]
    (conv => whnf); repeat ((first | (refine And.intro ?_ ?_; (focus ((repeat' (first | exact trivial | refine And.intro rfl ?_)); done))) | (refine And.intro ?_ ?_; (focus (first | omega | (dsimp -iota only; omega) | (simp -iota; omega) | (simp -iota; done) | decide)))); conv => whnf)
    refine ⟨_, _, Ent.mk' (e' := [(0, .tup [AV.int .u64 p, AV.bool true])]) (H' := f.H) [some 0, some 1, some 2, some 3] (by kernel_rfl) ?_ ?_, (), rfl, rfl⟩
    · exact ⟨AVE.refl _, trivial⟩
    · (repeat' first | exact trivial | refine ⟨⟨_, rfl, ChE.refl _⟩, ?_⟩)
  · have hy := Option.map_eq_none_iff.1 (Option.map_eq_none_iff.1 hy)
    have e1 : f.findN x = 0 := by simp [FD.findN, hy]
    have e2 : f.findB x = false := by simp [FD.findB, hy]
    rw [e1, e2]
    (conv => whnf); repeat ((first | (refine And.intro ?_ ?_; (focus ((repeat' (first | exact trivial | refine And.intro rfl ?_)); done))) | (refine And.intro ?_ ?_; (focus (first | omega | (dsimp -iota only; omega) | (simp -iota; omega) | (simp -iota; done) | decide)))); conv => whnf)
    refine ⟨_, _, Ent.mk' (e' := [(0, .tup [AV.int .u64 0, AV.bool false])]) (H' := f.H) [some 0, some 1, some 2, some 3] (by kernel_rfl) ?_ ?_, (), rfl, rfl⟩
    · exact ⟨AVE.refl _, trivial⟩
    · (repeat' first | exact trivial | refine ⟨⟨_, rfl, ChE.refl _⟩, ?_⟩)
theorem find_ok (x : List UInt8) : AFn Go.Proofs.Try.prog 8 [.ptr 0 0, .str x] (one f.H) (fun _ : Unit => .tup [AV.int .u64 (f.findN x), AV.bool (f.findB x)]) (fun _ => one f.H) := AFn.shut (find_in f x) rfl rfl (fun _ => ⟨by kernel_rfl, by kernel_rfl⟩) (fun _ => (by repeat' first | exact trivial | refine ⟨rfl, ?_⟩)) (fun _ => rfl)
theorem do_ok (D : Deed) (hf : f.ds.length ≤ 1000) : AFn Go.Proofs.Try.prog 40 [.ptr 0 0, .iv D.iv] (one f.H) (fun _ : Unit => .tup []) (fun _ => one (f.did D).H) := by
  refine ACall.fin ?_
  refine ACall.walkE (C := cfg 20 1) (cfgOk _ _) [] (fn := Go.Proofs.Try.f40) (by kernel_rfl) (by kernel_rfl) rfl (by kernel_rfl) (by kernel_rfl) rfl rfl (H1 := f.H) (fun _ _ => (HEnt.openOne (f.H) rfl rfl).ent) fun hlen hheap => ?_
  cases D with
  | mk x n =>
    (conv => whnf); repeat ((first | (refine And.intro ?_ ?_; (focus ((repeat' (first | exact trivial | refine And.intro rfl ?_)); done))) | (refine And.intro ?_ ?_; (focus (first | omega | (dsimp -iota only; omega) | (simp -iota; omega) | (simp -iota; done) | decide)))); conv => whnf)
    refine AFn.use [2] (mk_ok f.now x n) (by kernel_rfl) rfl (by repeat' first | exact trivial | refine ⟨rfl, ?_⟩) fun _ => ?_
    (conv => whnf); repeat ((first | (refine And.intro ?_ ?_; (focus ((repeat' (first | exact trivial | refine And.intro rfl ?_)); done))) | (refine And.intro ?_ ?_; (focus (first | omega | (dsimp -iota only; omega) | (simp -iota; omega) | (simp -iota; done) | decide)))); conv => whnf)
    refine ⟨_, _, Ent.shutAt (r2 := .tup []) [some 0, some 1, some 2, some 5] (FD.H (f.did (.mk x n))) rfl (by kernel_rfl) (AVE.of_eq ?_) ?_ (by kernel_rfl) (by kernel_rfl) (by repeat' first | exact trivial | refine ⟨rfl, ?_⟩) rfl, (), ?_, ?_⟩
    all_goals first | rfl | exact ⟨⟨_, rfl, ChE.cells ⟨AVE.refl _, AVE.refl _, AVE.len (by simp [FD.did]), AVE.refl _, rfl⟩⟩, ⟨_, rfl, ChE.refl _⟩, ⟨_, rfl, ChE.refl _⟩, ⟨_, rfl, dF_push (p := .mk x n) rfl⟩, trivial⟩ | (repeat' first | exact trivial | refine ⟨⟨_, rfl, ChE.refl _⟩, ?_⟩)
  | mv a b n =>
    (conv => whnf); repeat ((first | (refine And.intro ?_ ?_; (focus ((repeat' (first | exact trivial | refine And.intro rfl ?_)); done))) | (refine And.intro ?_ ?_; (focus (first | omega | (dsimp -iota only; omega) | (simp -iota; omega) | (simp -iota; done) | decide)))); conv => whnf)
    refine AFn.use [2] (mv_ok f.now a b n) (by kernel_rfl) rfl (by repeat' first | exact trivial | refine ⟨rfl, ?_⟩) fun _ => ?_
    (conv => whnf); repeat ((first | (refine And.intro ?_ ?_; (focus ((repeat' (first | exact trivial | refine And.intro rfl ?_)); done))) | (refine And.intro ?_ ?_; (focus (first | omega | (dsimp -iota only; omega) | (simp -iota; omega) | (simp -iota; done) | decide)))); conv => whnf)
    refine ⟨_, _, Ent.shutAt (r2 := .tup []) [some 0, some 1, some 2, some 5] (FD.H (f.did (.mv a b n))) rfl (by kernel_rfl) (AVE.of_eq ?_) ?_ (by kernel_rfl) (by kernel_rfl) (by repeat' first | exact trivial | refine ⟨rfl, ?_⟩) rfl, (), ?_, ?_⟩
    all_goals first | rfl | exact ⟨⟨_, rfl, ChE.cells ⟨AVE.refl _, AVE.refl _, AVE.len (by simp [FD.did]), AVE.refl _, rfl⟩⟩, ⟨_, rfl, ChE.refl _⟩, ⟨_, rfl, ChE.refl _⟩, ⟨_, rfl, dF_push (p := .mv a b n) rfl⟩, trivial⟩ | (repeat' first | exact trivial | refine ⟨⟨_, rfl, ChE.refl _⟩, ?_⟩)
  | rm x =>
    (conv => whnf); repeat ((first | (refine And.intro ?_ ?_; (focus ((repeat' (first | exact trivial | refine And.intro rfl ?_)); done))) | (refine And.intro ?_ ?_; (focus (first | omega | (dsimp -iota only; omega) | (simp -iota; omega) | (simp -iota; done) | decide)))); conv => whnf)
    refine AFn.use [2] (rm_ok f.now x) (by kernel_rfl) rfl (by repeat' first | exact trivial | refine ⟨rfl, ?_⟩) fun _ => ?_
    (conv => whnf); repeat ((first | (refine And.intro ?_ ?_; (focus ((repeat' (first | exact trivial | refine And.intro rfl ?_)); done))) | (refine And.intro ?_ ?_; (focus (first | omega | (dsimp -iota only; omega) | (simp -iota; omega) | (simp -iota; done) | decide)))); conv => whnf)
    refine ⟨_, _, Ent.shutAt (r2 := .tup []) [some 0, some 1, some 2, some 5] (FD.H (f.did (.rm x))) rfl (by kernel_rfl) (AVE.of_eq ?_) ?_ (by kernel_rfl) (by kernel_rfl) (by repeat' first | exact trivial | refine ⟨rfl, ?_⟩) rfl, (), ?_, ?_⟩
    all_goals first | rfl | exact ⟨⟨_, rfl, ChE.cells ⟨AVE.refl _, AVE.refl _, AVE.len (by simp [FD.did]), AVE.refl _, rfl⟩⟩, ⟨_, rfl, ChE.refl _⟩, ⟨_, rfl, ChE.refl _⟩, ⟨_, rfl, dF_push (p := .rm x) rfl⟩, trivial⟩ | (repeat' first | exact trivial | refine ⟨⟨_, rfl, ChE.refl _⟩, ?_⟩)
def FD.synced (f : FD) : FD := ⟨f.now, f.now, [], f.last⟩
theorem sync_ok : AFn Go.Proofs.Try.prog 26 [.ptr 0 0] (one f.H) (fun _ : Unit => AV.int .i64 0) (fun _ => one f.synced.H) := by
  refine ACall.fin ?_
  refine ACall.walkE (C := cfg 16 1) (cfgOk _ _) [] (fn := Go.Proofs.Try.f26) (by kernel_rfl) (by kernel_rfl) rfl (by kernel_rfl) (by kernel_rfl) rfl rfl (H1 := f.H) (fun _ _ => (HEnt.openOne (f.H) rfl rfl).ent) fun hlen hheap => ?_
  (conv => whnf); repeat ((first | (refine And.intro ?_ ?_; (focus ((repeat' (first | exact trivial | refine And.intro rfl ?_)); done))) | (refine And.intro ?_ ?_; (focus (first | omega | (dsimp -iota only; omega) | (simp -iota; omega) | (simp -iota; done) | decide)))); conv => whnf)
  refine AFn.use [0, 1, 2, 3] (none_in f) (by kernel_rfl) rfl (by repeat' first | exact trivial | refine ⟨rfl, ?_⟩) fun _ => ?_
  (conv => whnf); repeat ((first | (refine And.intro ?_ ?_; (focus ((repeat' (first | exact trivial | refine And.intro rfl ?_)); done))) | (refine And.intro ?_ ?_; (focus (first | omega | (dsimp -iota only; omega) | (simp -iota; omega) | (simp -iota; done) | decide)))); conv => whnf)
  refine AFn.use [2] (mclone_ok (smap un f.now)) (by kernel_rfl) rfl (by repeat' first | exact trivial | refine ⟨rfl, ?_⟩) fun _ => ?_
  (conv => whnf); repeat ((first | (refine And.intro ?_ ?_; (focus ((repeat' (first | exact trivial | refine And.intro rfl ?_)); done))) | (refine And.intro ?_ ?_; (focus (first | omega | (dsimp -iota only; omega) | (simp -iota; omega) | (simp -iota; done) | decide)))); conv => whnf)
  refine ⟨_, _, Ent.shutAt (r2 := AV.int .i64 0) [some 0, some 4, some 2, none] (FD.H f.synced) rfl (by kernel_rfl) (AVE.of_eq ?_) ?_ (by kernel_rfl) (by kernel_rfl) (by repeat' first | exact trivial | refine ⟨rfl, ?_⟩) rfl, (), ?_, ?_⟩
  all_goals first | rfl | exact ⟨⟨_, rfl, ChE.cells ⟨AVE.refl _, AVE.refl _, AVE.nil _ _, AVE.refl _, rfl⟩⟩, ⟨_, rfl, ChE.refl _⟩, ⟨_, rfl, ChE.refl _⟩, trivial, trivial⟩
end
end Go.Proofs.Yteeifedpabcehaa.Ax

namespace Go.Proofs.Yteeifedpabcehaa.Ax
open Go.RowKit
set_option maxRecDepth 100000
section
variable (f : FD)
def FD.createE (f : FD) (x : List UInt8) : Int := bif !mayB x then 1 else bif (afind f.now x).isSome then 9 else bif decide (256 ≤ f.now.length) then 7 else 0
def FD.createN (f : FD) (x : List UInt8) : Nat := if f.createE x = 0 then f.last + 1 else 0
def FD.create (f : FD) (x : List UInt8) : FD := if f.createE x = 0 then FD.did ⟨f.safe, f.now, f.ds, f.last + 1⟩ (.mk x (f.last + 1)) else f
theorem create_no {x : List UInt8} (h : f.createE x ≠ 0) : f.createN x = 0 ∧ f.create x = f := ⟨if_neg h, if_neg h⟩
theorem create_ok (hl : f.ds.length ≤ 1000) (hla : f.last ≤ 1000) (x : List UInt8) : AFn Go.Proofs.Try.prog 19 [.ptr 0 0, .str x] (one f.H) (fun _ : Unit => .tup [AV.int .u64 (f.createN x), AV.int .i64 (f.createE x)]) (fun _ => one (f.create x).H) := by
  have hlm : (smap un f.now).length = f.now.length := smap_length _ _
  refine ACall.fin ?_
  refine ACall.walkE (C := cfg 48 1) (cfgOk _ _) sch19 (fn := Go.Proofs.Try.f19) (by kernel_rfl) (by kernel_rfl) rfl (by kernel_rfl) (by kernel_rfl) rfl rfl (H1 := f.H) (fun _ _ => (HEnt.openOne (f.H) rfl rfl).ent) fun hlen hheap => ?_
  (conv => whnf); repeat ((first | (refine And.intro ?_ ?_; (focus ((repeat' (first | exact trivial | refine And.intro rfl ?_)); done))) | (refine And.intro ?_ ?_; (focus (first | omega | (dsimp -iota only; omega) | (simp -iota; omega) | (simp -iota; done) | decide)))); conv => whnf)
  refine AFn.use [0, 1, 2, 3] (none_in f) (by kernel_rfl) rfl (by repeat' first | exact trivial | refine ⟨rfl, ?_⟩) fun _ => ?_
  (conv => whnf); repeat ((first | (refine And.intro ?_ ?_; (focus ((repeat' (first | exact trivial | refine And.intro rfl ?_)); done))) | (refine And.intro ?_ ?_; (focus (first | omega | (dsimp -iota only; omega) | (simp -iota; omega) | (simp -iota; done) | decide)))); conv => whnf)
  rw [mfind_smap]
  refine ⟨fun y hy => ?_, fun hy => ?_⟩
  · obtain ⟨z, hz, hz2⟩ := Option.map_eq_some_iff.1 hy
    obtain ⟨p, hp, rfl⟩ := Option.map_eq_some_iff.1 hz
    subst hz2
    (conv => whnf); repeat ((first | (refine And.intro ?_ ?_; (focus ((repeat' (first | exact trivial | refine And.intro rfl ?_)); done))) | (refine And.intro ?_ ?_; (focus (first | omega | (dsimp -iota only; omega) | (simp -iota; omega) | (simp -iota; done) | decide)))); conv => whnf)
    refine AFn.use [] (may_ok x) (by kernel_rfl) rfl (by repeat' first | exact trivial | refine ⟨rfl, ?_⟩) fun _ => ?_
    (conv => whnf); repeat ((first | (refine And.intro ?_ ?_; (focus ((repeat' (first | exact trivial | refine And.intro rfl ?_)); done))) | (refine And.intro ?_ ?_; (focus (first | omega | (dsimp -iota only; omega) | (simp -iota; omega) | (simp -iota; done) | decide)))); conv => whnf)
    cases hk : mayB x with
    | false =>
      have ha : f.createE x = 1 := by simp [FD.createE, hk]
      obtain ⟨e1, e2⟩ := create_no f (x := x) (by rw [ha]; decide)
      rw [e1, e2, ha]
      (conv => whnf); repeat ((first | (refine And.intro ?_ ?_; (focus ((repeat' (first | exact trivial | refine And.intro rfl ?_)); done))) | (refine And.intro ?_ ?_; (focus (first | omega | (dsimp -iota only; omega) | (simp -iota; omega) | (simp -iota; done) | decide)))); conv => whnf)
      refine ⟨_, _, Ent.shutAt (r2 := .tup [AV.int .u64 0, AV.int .i64 1]) [some 0, some 1, some 2, some 3] (f.H) rfl (by kernel_rfl) (AVE.of_eq ?_) ?_ (by kernel_rfl) (by kernel_rfl) (by repeat' first | exact trivial | refine ⟨rfl, ?_⟩) rfl, (), ?_, ?_⟩
      all_goals first | rfl | (repeat' first | exact trivial | refine ⟨⟨_, rfl, ChE.refl _⟩, ?_⟩)
    | true =>
      have ha : f.createE x = 9 := by simp [FD.createE, hk, hp]
      obtain ⟨e1, e2⟩ := create_no f (x := x) (by rw [ha]; decide)
      rw [e1, e2, ha]
      (conv => whnf); repeat ((first | (refine And.intro ?_ ?_; (focus ((repeat' (first | exact trivial | refine And.intro rfl ?_)); done))) | (refine And.intro ?_ ?_; (focus (first | omega | (dsimp -iota only; omega) | (simp -iota; omega) | (simp -iota; done) | decide)))); conv => whnf)
      refine ⟨_, _, Ent.shutAt (r2 := .tup [AV.int .u64 0, AV.int .i64 9]) [some 0, some 1, some 2, some 3] (f.H) rfl (by kernel_rfl) (AVE.of_eq ?_) ?_ (by kernel_rfl) (by kernel_rfl) (by repeat' first | exact trivial | refine ⟨rfl, ?_⟩) rfl, (), ?_, ?_⟩
      all_goals first | rfl | (repeat' first | exact trivial | refine ⟨⟨_, rfl, ChE.refl _⟩, ?_⟩)
  · have hy := Option.map_eq_none_iff.1 (Option.map_eq_none_iff.1 hy)
    (conv => whnf); repeat ((first | (refine And.intro ?_ ?_; (focus ((repeat' (first | exact trivial | refine And.intro rfl ?_)); done))) | (refine And.intro ?_ ?_; (focus (first | omega | (dsimp -iota only; omega) | (simp -iota; omega) | (simp -iota; done) | decide)))); conv => whnf)
    refine AFn.use [] (may_ok x) (by kernel_rfl) rfl (by repeat' first | exact trivial | refine ⟨rfl, ?_⟩) fun _ => ?_
    (conv => whnf); repeat ((first | (refine And.intro ?_ ?_; (focus ((repeat' (first | exact trivial | refine And.intro rfl ?_)); done))) | (refine And.intro ?_ ?_; (focus (first | omega | (dsimp -iota only; omega) | (simp -iota; omega) | (simp -iota; done) | decide)))); conv => whnf)
    cases hk : mayB x with
    | false =>
      have ha : f.createE x = 1 := by simp [FD.createE, hk]
      obtain ⟨e1, e2⟩ := create_no f (x := x) (by rw [ha]; decide)
      rw [e1, e2, ha]
      (conv => whnf); repeat ((first | (refine And.intro ?_ ?_; (focus ((repeat' (first | exact trivial | refine And.intro rfl ?_)); done))) | (refine And.intro ?_ ?_; (focus (first | omega | (dsimp -iota only; omega) | (simp -iota; omega) | (simp -iota; done) | decide)))); conv => whnf)
      refine ⟨_, _, Ent.shutAt (r2 := .tup [AV.int .u64 0, AV.int .i64 1]) [some 0, some 1, some 2, some 3] (f.H) rfl (by kernel_rfl) (AVE.of_eq ?_) ?_ (by kernel_rfl) (by kernel_rfl) (by repeat' first | exact trivial | refine ⟨rfl, ?_⟩) rfl, (), ?_, ?_⟩
      all_goals first | rfl | (repeat' first | exact trivial | refine ⟨⟨_, rfl, ChE.refl _⟩, ?_⟩)
    | true =>
      (conv => whnf); repeat ((first | (refine And.intro ?_ ?_; (focus ((repeat' (first | exact trivial | refine And.intro rfl ?_)); done))) | (refine And.intro ?_ ?_; (focus (first | omega | (dsimp -iota only; omega) | (simp -iota; omega) | (simp -iota; done) | decide)))); conv => whnf)
      refine branchB_of (fun g => ?_) (fun g => ?_) <;> (first | replace g := not_t g | replace g := not_f g | skip) <;> (first | replace g := of_decide_eq_true g | replace g := of_decide_eq_false g | skip) <;> (first | replace g := Classical.not_not.1 g | skip) <;> (try dsimp only at g)
      · have ha : f.createE x = 7 := by simp [FD.createE, hk, hy, show 256 ≤ f.now.length from by omega]
        obtain ⟨e1, e2⟩ := create_no f (x := x) (by rw [ha]; decide)
        rw [e1, e2, ha]
        (conv => whnf); repeat ((first | (refine And.intro ?_ ?_; (focus ((repeat' (first | exact trivial | refine And.intro rfl ?_)); done))) | (refine And.intro ?_ ?_; (focus (first | omega | (dsimp -iota only; omega) | (simp -iota; omega) | (simp -iota; done) | decide)))); conv => whnf)
        refine ⟨_, _, Ent.shutAt (r2 := .tup [AV.int .u64 0, AV.int .i64 7]) [some 0, some 1, some 2, some 3] (f.H) rfl (by kernel_rfl) (AVE.of_eq ?_) ?_ (by kernel_rfl) (by kernel_rfl) (by repeat' first | exact trivial | refine ⟨rfl, ?_⟩) rfl, (), ?_, ?_⟩
        all_goals first | rfl | (repeat' first | exact trivial | refine ⟨⟨_, rfl, ChE.refl _⟩, ?_⟩)
      · have ha : f.createE x = 0 := by simp [FD.createE, hk, hy, show ¬ 256 ≤ f.now.length from by omega]
        have e1 : f.createN x = f.last + 1 := if_pos ha
        have e2 : f.create x = FD.did ⟨f.safe, f.now, f.ds, f.last + 1⟩ (.mk x (f.last + 1)) := if_pos ha
        rw [e1, e2, ha]
        (conv => whnf); repeat ((first | (refine And.intro ?_ ?_; (focus ((repeat' (first | exact trivial | refine And.intro rfl ?_)); done))) | (refine And.intro ?_ ?_; (focus (first | omega | (dsimp -iota only; omega) | (simp -iota; omega) | (simp -iota; done) | decide)))); conv => whnf)
        refine ACall.hent (HEnt.close [0, 1, 2, 3] 0 (FD.H ⟨f.safe, f.now, f.ds, f.last + 1⟩) ?_ ?_) ?_
        · kernel_rfl
        · repeat' first | exact trivial | refine ⟨rfl, ?_⟩
        refine AFn.use [0] (do_ok ⟨f.safe, f.now, f.ds, f.last + 1⟩ (.mk x (f.last + 1)) hl) (by kernel_rfl) rfl (by repeat' first | exact trivial | refine ⟨rfl, ?_⟩) fun _ => ?_
        refine ⟨_, HEnt.refl _, ?_⟩
        (conv => whnf); repeat ((first | (refine And.intro ?_ ?_; (focus ((repeat' (first | exact trivial | refine And.intro rfl ?_)); done))) | (refine And.intro ?_ ?_; (focus (first | omega | (dsimp -iota only; omega) | (simp -iota; omega) | (simp -iota; done) | decide)))); conv => whnf)
        refine ⟨_, _, Ent.mk' (e' := [(0, .tup [AV.int .u64 (f.last + 1 : Nat), AV.int .i64 0])]) (H' := one (FD.did ⟨f.safe, f.now, f.ds, f.last + 1⟩ (.mk x (f.last + 1))).H) [some 0] (by kernel_rfl) ?_ ?_, (), rfl, rfl⟩
        · exact ⟨AVE.refl _, trivial⟩
        · (repeat' first | exact trivial | refine ⟨⟨_, rfl, ChE.refl _⟩, ?_⟩)
def FD.remE (f : FD) (x : List UInt8) : Int := bif !mayB x then 1 else bif (afind f.now x).isSome then 0 else 6
def FD.rem (f : FD) (x : List UInt8) : FD := if f.remE x = 0 then f.did (.rm x) else f
theorem remove_ok (hl : f.ds.length ≤ 1000) (x : List UInt8) : AFn Go.Proofs.Try.prog 20 [.ptr 0 0, .str x] (one f.H) (fun _ : Unit => AV.int .i64 (f.remE x)) (fun _ => one (f.rem x).H) := by
  refine ACall.fin ?_
  refine ACall.walkE (C := cfg 28 1) (cfgOk _ _) sch20 (fn := Go.Proofs.Try.f20) (by kernel_rfl) (by kernel_rfl) rfl (by kernel_rfl) (by kernel_rfl) rfl rfl (H1 := f.H) (fun _ _ => (HEnt.openOne (f.H) rfl rfl).ent) fun hlen hheap => ?_
  (conv => whnf); repeat ((first | (refine And.intro ?_ ?_; (focus ((repeat' (first | exact trivial | refine And.intro rfl ?_)); done))) | (refine And.intro ?_ ?_; (focus (first | omega | (dsimp -iota only; omega) | (simp -iota; omega) | (simp -iota; done) | decide)))); conv => whnf)
  refine AFn.use [0, 1, 2, 3] (none_in f) (by kernel_rfl) rfl (by repeat' first | exact trivial | refine ⟨rfl, ?_⟩) fun _ => ?_
  (conv => whnf); repeat ((first | (refine And.intro ?_ ?_; (focus ((repeat' (first | exact trivial | refine And.intro rfl ?_)); done))) | (refine And.intro ?_ ?_; (focus (first | omega | (dsimp -iota only; omega) | (simp -iota; omega) | (simp -iota; done) | decide)))); conv => whnf)
  rw [mfind_smap]
  refine ⟨fun y hy => ?_, fun hy => ?_⟩
  · obtain ⟨z, hz, hz2⟩ := Option.map_eq_some_iff.1 hy
    obtain ⟨p, hp, rfl⟩ := Option.map_eq_some_iff.1 hz
    subst hz2
    (conv => whnf); repeat ((first | (refine And.intro ?_ ?_; (focus ((repeat' (first | exact trivial | refine And.intro rfl ?_)); done))) | (refine And.intro ?_ ?_; (focus (first | omega | (dsimp -iota only; omega) | (simp -iota; omega) | (simp -iota; done) | decide)))); conv => whnf)
    refine AFn.use [] (may_ok x) (by kernel_rfl) rfl (by repeat' first | exact trivial | refine ⟨rfl, ?_⟩) fun _ => ?_
    (conv => whnf); repeat ((first | (refine And.intro ?_ ?_; (focus ((repeat' (first | exact trivial | refine And.intro rfl ?_)); done))) | (refine And.intro ?_ ?_; (focus (first | omega | (dsimp -iota only; omega) | (simp -iota; omega) | (simp -iota; done) | decide)))); conv => whnf)
    cases hk : mayB x with
    | false =>
      have ha : f.remE x = 1 := by simp [FD.remE, hk]
      have e2 : f.rem x = f := if_neg (by rw [ha]; decide)
      rw [e2, ha]
      (conv => whnf); repeat ((first | (refine And.intro ?_ ?_; (focus ((repeat' (first | exact trivial | refine And.intro rfl ?_)); done))) | (refine And.intro ?_ ?_; (focus (first | omega | (dsimp -iota only; omega) | (simp -iota; omega) | (simp -iota; done) | decide)))); conv => whnf)
      refine ⟨_, _, Ent.shutAt (r2 := AV.int .i64 1) [some 0, some 1, some 2, some 3] (f.H) rfl (by kernel_rfl) (AVE.of_eq ?_) ?_ (by kernel_rfl) (by kernel_rfl) (by repeat' first | exact trivial | refine ⟨rfl, ?_⟩) rfl, (), ?_, ?_⟩
      all_goals first | rfl | (repeat' first | exact trivial | refine ⟨⟨_, rfl, ChE.refl _⟩, ?_⟩)
    | true =>
      have ha : f.remE x = 0 := by simp [FD.remE, hk, hp]
      have e2 : f.rem x = f.did (.rm x) := if_pos ha
      rw [e2, ha]
      (conv => whnf); repeat ((first | (refine And.intro ?_ ?_; (focus ((repeat' (first | exact trivial | refine And.intro rfl ?_)); done))) | (refine And.intro ?_ ?_; (focus (first | omega | (dsimp -iota only; omega) | (simp -iota; omega) | (simp -iota; done) | decide)))); conv => whnf)
      refine ACall.hent (HEnt.close [0, 1, 2, 3] 0 f.H ?_ ?_) ?_
      · kernel_rfl
      · repeat' first | exact trivial | refine ⟨rfl, ?_⟩
      refine AFn.use [0] (do_ok f (.rm x) hl) (by kernel_rfl) rfl (by repeat' first | exact trivial | refine ⟨rfl, ?_⟩) fun _ => ?_
      refine ⟨_, HEnt.refl _, ?_⟩
      (conv => whnf); repeat ((first | (refine And.intro ?_ ?_; (focus ((repeat' (first | exact trivial | refine And.intro rfl ?_)); done))) | (refine And.intro ?_ ?_; (focus (first | omega | (dsimp -iota only; omega) | (simp -iota; omega) | (simp -iota; done) | decide)))); conv => whnf)
      refine ⟨_, _, Ent.mk' (e' := [(0, AV.int .i64 0)]) (H' := one (f.did (.rm x)).H) [some 0] (by kernel_rfl) ?_ ?_, (), rfl, rfl⟩
      · exact ⟨AVE.refl _, trivial⟩
      · (repeat' first | exact trivial | refine ⟨⟨_, rfl, ChE.refl _⟩, ?_⟩)
  · have hy := Option.map_eq_none_iff.1 (Option.map_eq_none_iff.1 hy)
    (conv => whnf); repeat ((first | (refine And.intro ?_ ?_; (focus ((repeat' (first | exact trivial | refine And.intro rfl ?_)); done))) | (refine And.intro ?_ ?_; (focus (first | omega | (dsimp -iota only; omega) | (simp -iota; omega) | (simp -iota; done) | decide)))); conv => whnf)
    refine AFn.use [] (may_ok x) (by kernel_rfl) rfl (by repeat' first | exact trivial | refine ⟨rfl, ?_⟩) fun _ => ?_
    (conv => whnf); repeat ((first | (refine And.intro ?_ ?_; (focus ((repeat' (first | exact trivial | refine And.intro rfl ?_)); done))) | (refine And.intro ?_ ?_; (focus (first | omega | (dsimp -iota only; omega) | (simp -iota; omega) | (simp -iota; done) | decide)))); conv => whnf)
    cases hk : mayB x with
    | false =>
      have ha : f.remE x = 1 := by simp [FD.remE, hk]
      have e2 : f.rem x = f := if_neg (by rw [ha]; decide)
      rw [e2, ha]
      (conv => whnf); repeat ((first | (refine And.intro ?_ ?_; (focus ((repeat' (first | exact trivial | refine And.intro rfl ?_)); done))) | (refine And.intro ?_ ?_; (focus (first | omega | (dsimp -iota only; omega) | (simp -iota; omega) | (simp -iota; done) | decide)))); conv => whnf)
      refine ⟨_, _, Ent.shutAt (r2 := AV.int .i64 1) [some 0, some 1, some 2, some 3] (f.H) rfl (by kernel_rfl) (AVE.of_eq ?_) ?_ (by kernel_rfl) (by kernel_rfl) (by repeat' first | exact trivial | refine ⟨rfl, ?_⟩) rfl, (), ?_, ?_⟩
      all_goals first | rfl | (repeat' first | exact trivial | refine ⟨⟨_, rfl, ChE.refl _⟩, ?_⟩)
    | true =>
      have ha : f.remE x = 6 := by simp [FD.remE, hk, hy]
      have e2 : f.rem x = f := if_neg (by rw [ha]; decide)
      rw [e2, ha]
      (conv => whnf); repeat ((first | (refine And.intro ?_ ?_; (focus ((repeat' (first | exact trivial | refine And.intro rfl ?_)); done))) | (refine And.intro ?_ ?_; (focus (first | omega | (dsimp -iota only; omega) | (simp -iota; omega) | (simp -iota; done) | decide)))); conv => whnf)
      refine ⟨_, _, Ent.shutAt (r2 := AV.int .i64 6) [some 0, some 1, some 2, some 3] (f.H) rfl (by kernel_rfl) (AVE.of_eq ?_) ?_ (by kernel_rfl) (by kernel_rfl) (by repeat' first | exact trivial | refine ⟨rfl, ?_⟩) rfl, (), ?_, ?_⟩
      all_goals first | rfl | (repeat' first | exact trivial | refine ⟨⟨_, rfl, ChE.refl _⟩, ?_⟩)
def FD.renE (f : FD) (a b : List UInt8) : Int := bif !(mayB a && mayB b) then 1 else bif (afind f.now a).isSome then 0 else 6
def FD.ren (f : FD) (a b : List UInt8) : FD := if f.renE a b = 0 ∧ a ≠ b then f.did (.mv a b (f.findN a)) else f
theorem rename_ok (hl : f.ds.length ≤ 1000) (a b : List UInt8) : AFn Go.Proofs.Try.prog 28 [.ptr 0 0, .str a, .str b] (one f.H) (fun _ : Unit => AV.int .i64 (f.renE a b)) (fun _ => one (f.ren a b).H) := by
  refine ACall.fin ?_
  refine ACall.walkE (C := cfg 39 1) (cfgOk _ _) sch28 (fn := Go.Proofs.Try.f28) (by kernel_rfl) (by kernel_rfl) rfl (by kernel_rfl) (by kernel_rfl) rfl rfl (H1 := f.H) (fun _ _ => (HEnt.openOne (f.H) rfl rfl).ent) fun hlen hheap => ?_
  (conv => whnf); repeat ((first | (refine And.intro ?_ ?_; (focus ((repeat' (first | exact trivial | refine And.intro rfl ?_)); done))) | (refine And.intro ?_ ?_; (focus (first | omega | (dsimp -iota only; omega) | (simp -iota; omega) | (simp -iota; done) | decide)))); conv => whnf)
  refine AFn.use [0, 1, 2, 3] (none_in f) (by kernel_rfl) rfl (by repeat' first | exact trivial | refine ⟨rfl, ?_⟩) fun _ => ?_
  (conv => whnf); repeat ((first | (refine And.intro ?_ ?_; (focus ((repeat' (first | exact trivial | refine And.intro rfl ?_)); done))) | (refine And.intro ?_ ?_; (focus (first | omega | (dsimp -iota only; omega) | (simp -iota; omega) | (simp -iota; done) | decide)))); conv => whnf)
  rw [mfind_smap]
  refine ⟨fun y hy => ?_, fun hy => ?_⟩
  · obtain ⟨z, hz, hz2⟩ := Option.map_eq_some_iff.1 hy
    obtain ⟨p, hp, rfl⟩ := Option.map_eq_some_iff.1 hz
    subst hz2
    (conv => whnf); repeat ((first | (refine And.intro ?_ ?_; (focus ((repeat' (first | exact trivial | refine And.intro rfl ?_)); done))) | (refine And.intro ?_ ?_; (focus (first | omega | (dsimp -iota only; omega) | (simp -iota; omega) | (simp -iota; done) | decide)))); conv => whnf)
    refine AFn.use [] (may_ok a) (by kernel_rfl) rfl (by repeat' first | exact trivial | refine ⟨rfl, ?_⟩) fun _ => ?_
    (conv => whnf); repeat ((first | (refine And.intro ?_ ?_; (focus ((repeat' (first | exact trivial | refine And.intro rfl ?_)); done))) | (refine And.intro ?_ ?_; (focus (first | omega | (dsimp -iota only; omega) | (simp -iota; omega) | (simp -iota; done) | decide)))); conv => whnf)
    cases hka : mayB a with
    | false =>
      have ha : f.renE a b = 1 := by simp [FD.renE, hka]
      have e2 : f.ren a b = f := if_neg (by rw [ha]; simp)
      rw [e2, ha]
      (conv => whnf); repeat ((first | (refine And.intro ?_ ?_; (focus ((repeat' (first | exact trivial | refine And.intro rfl ?_)); done))) | (refine And.intro ?_ ?_; (focus (first | omega | (dsimp -iota only; omega) | (simp -iota; omega) | (simp -iota; done) | decide)))); conv => whnf)
      refine ⟨_, _, Ent.shutAt (r2 := AV.int .i64 1) [some 0, some 1, some 2, some 3] (f.H) rfl (by kernel_rfl) (AVE.of_eq ?_) ?_ (by kernel_rfl) (by kernel_rfl) (by repeat' first | exact trivial | refine ⟨rfl, ?_⟩) rfl, (), ?_, ?_⟩
      all_goals first | rfl | (repeat' first | exact trivial | refine ⟨⟨_, rfl, ChE.refl _⟩, ?_⟩)
    | true =>
      (conv => whnf); repeat ((first | (refine And.intro ?_ ?_; (focus ((repeat' (first | exact trivial | refine And.intro rfl ?_)); done))) | (refine And.intro ?_ ?_; (focus (first | omega | (dsimp -iota only; omega) | (simp -iota; omega) | (simp -iota; done) | decide)))); conv => whnf)
      refine AFn.use [] (may_ok b) (by kernel_rfl) rfl (by repeat' first | exact trivial | refine ⟨rfl, ?_⟩) fun _ => ?_
      (conv => whnf); repeat ((first | (refine And.intro ?_ ?_; (focus ((repeat' (first | exact trivial | refine And.intro rfl ?_)); done))) | (refine And.intro ?_ ?_; (focus (first | omega | (dsimp -iota only; omega) | (simp -iota; omega) | (simp -iota; done) | decide)))); conv => whnf)
      cases hkb : mayB b with
      | false =>
        have ha : f.renE a b = 1 := by simp [FD.renE, hkb]
        have e2 : f.ren a b = f := if_neg (by rw [ha]; simp)
        rw [e2, ha]
        (conv => whnf); repeat ((first | (refine And.intro ?_ ?_; (focus ((repeat' (first | exact trivial | refine And.intro rfl ?_)); done))) | (refine And.intro ?_ ?_; (focus (first | omega | (dsimp -iota only; omega) | (simp -iota; omega) | (simp -iota; done) | decide)))); conv => whnf)
        refine ⟨_, _, Ent.shutAt (r2 := AV.int .i64 1) [some 0, some 1, some 2, some 3] (f.H) rfl (by kernel_rfl) (AVE.of_eq ?_) ?_ (by kernel_rfl) (by kernel_rfl) (by repeat' first | exact trivial | refine ⟨rfl, ?_⟩) rfl, (), ?_, ?_⟩
        all_goals first | rfl | (repeat' first | exact trivial | refine ⟨⟨_, rfl, ChE.refl _⟩, ?_⟩)
      | true =>
        have ha : f.renE a b = 0 := by simp [FD.renE, hka, hkb, hp]
        have hfn : f.findN a = p := by simp [FD.findN, hp]
        (conv => whnf); repeat ((first | (refine And.intro ?_ ?_; (focus ((repeat' (first | exact trivial | refine And.intro rfl ?_)); done))) | (refine And.intro ?_ ?_; (focus (first | omega | (dsimp -iota only; omega) | (simp -iota; omega) | (simp -iota; done) | decide)))); conv => whnf)
        refine branchB_of (fun g => ?_) (fun g => ?_) <;> (first | replace g := not_t g | replace g := not_f g | skip) <;> (first | replace g := of_decide_eq_true g | replace g := of_decide_eq_false g | skip) <;> (first | replace g := Classical.not_not.1 g | skip) <;> (try dsimp only at g)
        · have e2 : f.ren a b = f := if_neg (by rw [g]; simp)
          rw [e2, ha]
          (conv => whnf); repeat ((first | (refine And.intro ?_ ?_; (focus ((repeat' (first | exact trivial | refine And.intro rfl ?_)); done))) | (refine And.intro ?_ ?_; (focus (first | omega | (dsimp -iota only; omega) | (simp -iota; omega) | (simp -iota; done) | decide)))); conv => whnf)
          refine ⟨_, _, Ent.shutAt (r2 := AV.int .i64 0) [some 0, some 1, some 2, some 3] (f.H) rfl (by kernel_rfl) (AVE.of_eq ?_) ?_ (by kernel_rfl) (by kernel_rfl) (by repeat' first | exact trivial | refine ⟨rfl, ?_⟩) rfl, (), ?_, ?_⟩
          all_goals first | rfl | (repeat' first | exact trivial | refine ⟨⟨_, rfl, ChE.refl _⟩, ?_⟩)
        · have e2 : f.ren a b = f.did (.mv a b p) := by
            unfold FD.ren
            rw [if_pos ⟨ha, g⟩, hfn]
          rw [e2, ha]
          (conv => whnf); repeat ((first | (refine And.intro ?_ ?_; (focus ((repeat' (first | exact trivial | refine And.intro rfl ?_)); done))) | (refine And.intro ?_ ?_; (focus (first | omega | (dsimp -iota only; omega) | (simp -iota; omega) | (simp -iota; done) | decide)))); conv => whnf)
          refine ACall.hent (HEnt.close [0, 1, 2, 3] 0 f.H ?_ ?_) ?_
          · kernel_rfl
          · repeat' first | exact trivial | refine ⟨rfl, ?_⟩
          refine AFn.use [0] (do_ok f (.mv a b p) hl) (by kernel_rfl) rfl (by repeat' first | exact trivial | refine ⟨rfl, ?_⟩) fun _ => ?_
          refine ⟨_, HEnt.refl _, ?_⟩
          (conv => whnf); repeat ((first | (refine And.intro ?_ ?_; (focus ((repeat' (first | exact trivial | refine And.intro rfl ?_)); done))) | (refine And.intro ?_ ?_; (focus (first | omega | (dsimp -iota only; omega) | (simp -iota; omega) | (simp -iota; done) | decide)))); conv => whnf)
          refine ⟨_, _, Ent.mk' (e' := [(0, AV.int .i64 0)]) (H' := one (f.did (.mv a b p)).H) [some 0] (by kernel_rfl) ?_ ?_, (), rfl, rfl⟩
          · exact ⟨AVE.refl _, trivial⟩
          · (repeat' first | exact trivial | refine ⟨⟨_, rfl, ChE.refl _⟩, ?_⟩)
  · have hy := Option.map_eq_none_iff.1 (Option.map_eq_none_iff.1 hy)
    (conv => whnf); repeat ((first | (refine And.intro ?_ ?_; (focus ((repeat' (first | exact trivial | refine And.intro rfl ?_)); done))) | (refine And.intro ?_ ?_; (focus (first | omega | (dsimp -iota only; omega) | (simp -iota; omega) | (simp -iota; done) | decide)))); conv => whnf)
    refine AFn.use [] (may_ok a) (by kernel_rfl) rfl (by repeat' first | exact trivial | refine ⟨rfl, ?_⟩) fun _ => ?_
    (conv => whnf); repeat ((first | (refine And.intro ?_ ?_; (focus ((repeat' (first | exact trivial | refine And.intro rfl ?_)); done))) | (refine And.intro ?_ ?_; (focus (first | omega | (dsimp -iota only; omega) | (simp -iota; omega) | (simp -iota; done) | decide)))); conv => whnf)
    cases hka : mayB a with
    | false =>
      have ha : f.renE a b = 1 := by simp [FD.renE, hka]
      have e2 : f.ren a b = f := if_neg (by rw [ha]; simp)
      rw [e2, ha]
      (conv => whnf); repeat ((first | (refine And.intro ?_ ?_; (focus ((repeat' (first | exact trivial | refine And.intro rfl ?_)); done))) | (refine And.intro ?_ ?_; (focus (first | omega | (dsimp -iota only; omega) | (simp -iota; omega) | (simp -iota; done) | decide)))); conv => whnf)
      refine ⟨_, _, Ent.shutAt (r2 := AV.int .i64 1) [some 0, some 1, some 2, some 3] (f.H) rfl (by kernel_rfl) (AVE.of_eq ?_) ?_ (by kernel_rfl) (by kernel_rfl) (by repeat' first | exact trivial | refine ⟨rfl, ?_⟩) rfl, (), ?_, ?_⟩
      all_goals first | rfl | (repeat' first | exact trivial | refine ⟨⟨_, rfl, ChE.refl _⟩, ?_⟩)
    | true =>
      (conv => whnf); repeat ((first | (refine And.intro ?_ ?_; (focus ((repeat' (first | exact trivial | refine And.intro rfl ?_)); done))) | (refine And.intro ?_ ?_; (focus (first | omega | (dsimp -iota only; omega) | (simp -iota; omega) | (simp -iota; done) | decide)))); conv => whnf)
      refine AFn.use [] (may_ok b) (by kernel_rfl) rfl (by repeat' first | exact trivial | refine ⟨rfl, ?_⟩) fun _ => ?_
      (conv => whnf); repeat ((first | (refine And.intro ?_ ?_; (focus ((repeat' (first | exact trivial | refine And.intro rfl ?_)); done))) | (refine And.intro ?_ ?_; (focus (first | omega | (dsimp -iota only; omega) | (simp -iota; omega) | (simp -iota; done) | decide)))); conv => whnf)
      cases hkb : mayB b with
      | false =>
        have ha : f.renE a b = 1 := by simp [FD.renE, hkb]
        have e2 : f.ren a b = f := if_neg (by rw [ha]; simp)
        rw [e2, ha]
        (conv => whnf); repeat ((first | (refine And.intro ?_ ?_; (focus ((repeat' (first | exact trivial | refine And.intro rfl ?_)); done))) | (refine And.intro ?_ ?_; (focus (first | omega | (dsimp -iota only; omega) | (simp -iota; omega) | (simp -iota; done) | decide)))); conv => whnf)
        refine ⟨_, _, Ent.shutAt (r2 := AV.int .i64 1) [some 0, some 1, some 2, some 3] (f.H) rfl (by kernel_rfl) (AVE.of_eq ?_) ?_ (by kernel_rfl) (by kernel_rfl) (by repeat' first | exact trivial | refine ⟨rfl, ?_⟩) rfl, (), ?_, ?_⟩
        all_goals first | rfl | (repeat' first | exact trivial | refine ⟨⟨_, rfl, ChE.refl _⟩, ?_⟩)
      | true =>
        have ha : f.renE a b = 6 := by simp [FD.renE, hka, hkb, hy]
        have e2 : f.ren a b = f := if_neg (by rw [ha]; simp)
        rw [e2, ha]
        (conv => whnf); repeat ((first | (refine And.intro ?_ ?_; (focus ((repeat' (first | exact trivial | refine And.intro rfl ?_)); done))) | (refine And.intro ?_ ?_; (focus (first | omega | (dsimp -iota only; omega) | (simp -iota; omega) | (simp -iota; done) | decide)))); conv => whnf)
        refine ⟨_, _, Ent.shutAt (r2 := AV.int .i64 6) [some 0, some 1, some 2, some 3] (f.H) rfl (by kernel_rfl) (AVE.of_eq ?_) ?_ (by kernel_rfl) (by kernel_rfl) (by repeat' first | exact trivial | refine ⟨rfl, ?_⟩) rfl, (), ?_, ?_⟩
        all_goals first | rfl | (repeat' first | exact trivial | refine ⟨⟨_, rfl, ChE.refl _⟩, ?_⟩)
end
end Go.Proofs.Yteeifedpabcehaa.Ax

namespace Go.Proofs.Yteeifedpabcehaa.Ax
open Go.RowKit
set_option maxRecDepth 100000
def onAll (m : NM) (l : List Deed) : NM := l.foldl (fun m D => D.on m) m
theorem onAll_snoc (m : NM) (l : List Deed) (D : Deed) : onAll m (l ++ [D]) = D.on (onAll m l) := by simp [onAll]
theorem ds_next {A : List Deed} {i : Nat} (hi : i < A.length) : A.take (i + 1) = A.take i ++ [A.getD i default] := by
  rw [List.take_succ_eq_append_getElem hi]
  simp [List.getD, hi]
section
variable (f : FD)
def FD.keep (f : FD) (k : Int) : Nat := (min (max k 0) (f.ds.length : Int)).toNat
def FD.crash (f : FD) (k : Int) : FD := ⟨onAll f.safe (f.ds.take (f.keep k)), onAll f.safe (f.ds.take (f.keep k)), [], f.last⟩
theorem crash_ok (hl : f.ds.length ≤ 1000) (k : Int) : AFn Go.Proofs.Try.prog 17 [.ptr 0 0, AV.int .i64 k] (one f.H) (fun _ : Unit => AV.int .i64 0) (fun _ => one (f.crash k).H) := by
  refine ACall.fin ?_
  refine ACall.walkE (C := cfg 45 1) (cfgOk _ _) [] (fn := Go.Proofs.Try.f17) (by kernel_rfl) (by kernel_rfl) rfl (by kernel_rfl) (by kernel_rfl) rfl rfl (H1 := f.H) (fun _ _ => (HEnt.openOne (f.H) rfl rfl).ent) fun hlen hheap => ?_
  (conv => whnf); repeat ((first | (refine And.intro ?_ ?_; (focus ((repeat' (first | exact trivial | refine And.intro rfl ?_)); done))) | (refine And.intro ?_ ?_; (focus (first | omega | (dsimp -iota only; omega) | (simp -iota; omega) | (simp -iota; done) | decide)))); conv => whnf)
  refine AFn.use [0, 1, 2, 3] (none_in f) (by kernel_rfl) rfl (by repeat' first | exact trivial | refine ⟨rfl, ?_⟩) fun _ => ?_
  (conv => whnf); repeat ((first | (refine And.intro ?_ ?_; (focus ((repeat' (first | exact trivial | refine And.intro rfl ?_)); done))) | (refine And.intro ?_ ?_; (focus (first | omega | (dsimp -iota only; omega) | (simp -iota; omega) | (simp -iota; done) | decide)))); conv => whnf)
  refine AFn.use [1] (mclone_ok (smap un f.safe)) (by kernel_rfl) rfl (by repeat' first | exact trivial | refine ⟨rfl, ?_⟩) fun _ => ?_
  (conv => whnf); repeat ((first | (refine And.intro ?_ ?_; (focus ((repeat' (first | exact trivial | refine And.intro rfl ?_)); done))) | (refine And.intro ?_ ?_; (focus (first | omega | (dsimp -iota only; omega) | (simp -iota; omega) | (simp -iota; done) | decide)))); conv => whnf)
  have hkk : f.keep k ≤ f.ds.length := by unfold FD.keep; omega
  have hke : (min (max k 0) (f.ds.length : Int)) = (f.keep k : Nat) := by unfold FD.keep; omega
  rw [hke]
  (conv => whnf); repeat ((first | (refine And.intro ?_ ?_; (focus ((repeat' (first | exact trivial | refine And.intro rfl ?_)); done))) | (refine And.intro ?_ ?_; (focus (first | omega | (dsimp -iota only; omega) | (simp -iota; omega) | (simp -iota; done) | decide)))); conv => whnf)
  generalize hkn : f.keep k = n at *
  refine AWP.loop (X := { y : Nat // y ≤ n }) (fun y => [(0, .ptr 0 0), (30, .row 2 1 0 n), (31, AV.int .i64 n), (32, AV.int .i64 y.1)]) (fun y => ⟨4, [(0, .cells 65 [.mp 1, .mp 3, .row 2 1 0 f.ds.length, AV.int .u64 f.last]), (1, .map none (smap un f.safe)), (2, .rowc 80 1 f.ds.length (dF f.ds)), (3, .map none (smap un (onAll f.safe (f.ds.take y.1))))]⟩) (fun y => n - y.1) (⟨0, by omega⟩) ?_ fun y => AWP.go (S := []) (cfgOk _ _) (.of_eq (by kernel_rfl)) ?_
  · refine Ent.mk' [some 0, some 1, some 3, some 4] (by kernel_rfl) ⟨AVE.refl _, AVE.of_eq ?_, AVE.int (by simp), AVE.refl _, trivial⟩ (by (repeat' first | exact trivial | refine ⟨⟨_, rfl, ChE.refl _⟩, ?_⟩))
    show AV.row 3 1 (0 + Int.toNat 0) (((n : Nat) : Int).toNat - Int.toNat 0) = AV.row 3 1 0 n
    simp
  · obtain ⟨i, hi⟩ := y
    have hix : ((i : Nat) : Int).toNat = i := by simp
    (conv => whnf); repeat ((first | (refine And.intro ?_ ?_; (focus ((repeat' (first | exact trivial | refine And.intro rfl ?_)); done))) | (refine And.intro ?_ ?_; (focus (first | omega | (dsimp -iota only; omega) | (simp -iota; omega) | (simp -iota; done) | decide)))); conv => whnf)
    refine branchB_of (fun h => ?_) (fun h => ?_) <;> (first | replace h := not_t h | replace h := not_f h | skip) <;> (first | replace h := of_decide_eq_true h | replace h := of_decide_eq_false h | skip) <;> (first | replace h := Classical.not_not.1 h | skip) <;> (try dsimp only at h)
    · have hnx := ds_next (A := f.ds) (i := i) (by omega)
      (conv => whnf); repeat ((first | (refine And.intro ?_ ?_; (focus ((repeat' (first | exact trivial | refine And.intro rfl ?_)); done))) | (refine And.intro ?_ ?_; (focus (first | omega | (dsimp -iota only; omega) | (simp -iota; omega) | (simp -iota; done) | decide)))); conv => whnf)
      generalize hD : f.ds.getD (0 + ((i : Nat) : Int).toNat) default = D
      rw [hix, Nat.zero_add] at hD
      rw [hD] at hnx
      have hon : onAll f.safe (f.ds.take (i + 1)) = D.on (onAll f.safe (f.ds.take i)) := by rw [hnx, onAll_snoc]
      cases D with
      | mk x m =>
        (conv => whnf); repeat ((first | (refine And.intro ?_ ?_; (focus ((repeat' (first | exact trivial | refine And.intro rfl ?_)); done))) | (refine And.intro ?_ ?_; (focus (first | omega | (dsimp -iota only; omega) | (simp -iota; omega) | (simp -iota; done) | decide)))); conv => whnf)
        refine AFn.use [3] (mk_ok (onAll f.safe (f.ds.take i)) x m) (by kernel_rfl) rfl (by repeat' first | exact trivial | refine ⟨rfl, ?_⟩) fun _ => ?_
        (conv => whnf); repeat ((first | (refine And.intro ?_ ?_; (focus ((repeat' (first | exact trivial | refine And.intro rfl ?_)); done))) | (refine And.intro ?_ ?_; (focus (first | omega | (dsimp -iota only; omega) | (simp -iota; omega) | (simp -iota; done) | decide)))); conv => whnf)
        refine ⟨⟨i + 1, by omega⟩, Ent.mk' [some 0, some 1, some 2, some 3] (by kernel_rfl) (by repeat' first | exact trivial | refine And.intro (AVE.refl _) ?_ | refine And.intro (AVE.int (by first | rfl | omega | (dsimp only; omega) | (simp -iota; omega) | (simp -iota; done))) ?_ | refine And.intro (AVE.bool (by assumption)) ?_ | refine And.intro (AVE.len (by first | rfl | omega | (dsimp only; omega) | (simp -iota; omega) | (simp -iota; done))) ?_) ?_, ?_⟩
        · exact ⟨⟨_, rfl, ChE.refl _⟩, ⟨_, rfl, ChE.refl _⟩, ⟨_, rfl, ChE.refl _⟩, ⟨_, rfl, ChE.of_eq (by rw [hon]; rfl)⟩, trivial⟩
        · show n - (i + 1) < n - i
          omega
      | mv a b m =>
        (conv => whnf); repeat ((first | (refine And.intro ?_ ?_; (focus ((repeat' (first | exact trivial | refine And.intro rfl ?_)); done))) | (refine And.intro ?_ ?_; (focus (first | omega | (dsimp -iota only; omega) | (simp -iota; omega) | (simp -iota; done) | decide)))); conv => whnf)
        refine AFn.use [3] (mv_ok (onAll f.safe (f.ds.take i)) a b m) (by kernel_rfl) rfl (by repeat' first | exact trivial | refine ⟨rfl, ?_⟩) fun _ => ?_
        (conv => whnf); repeat ((first | (refine And.intro ?_ ?_; (focus ((repeat' (first | exact trivial | refine And.intro rfl ?_)); done))) | (refine And.intro ?_ ?_; (focus (first | omega | (dsimp -iota only; omega) | (simp -iota; omega) | (simp -iota; done) | decide)))); conv => whnf)
        refine ⟨⟨i + 1, by omega⟩, Ent.mk' [some 0, some 1, some 2, some 3] (by kernel_rfl) (by repeat' first | exact trivial | refine And.intro (AVE.refl _) ?_ | refine And.intro (AVE.int (by first | rfl | omega | (dsimp only; omega) | (simp -iota; omega) | (simp -iota; done))) ?_ | refine And.intro (AVE.bool (by assumption)) ?_ | refine And.intro (AVE.len (by first | rfl | omega | (dsimp only; omega) | (simp -iota; omega) | (simp -iota; done))) ?_) ?_, ?_⟩
        · exact ⟨⟨_, rfl, ChE.refl _⟩, ⟨_, rfl, ChE.refl _⟩, ⟨_, rfl, ChE.refl _⟩, ⟨_, rfl, ChE.of_eq (by rw [hon]; rfl)⟩, trivial⟩
        · show n - (i + 1) < n - i
          omega
      | rm x =>
        (conv => whnf); repeat ((first | (refine And.intro ?_ ?_; (focus ((repeat' (first | exact trivial | refine And.intro rfl ?_)); done))) | (refine And.intro ?_ ?_; (focus (first | omega | (dsimp -iota only; omega) | (simp -iota; omega) | (simp -iota; done) | decide)))); conv => whnf)
        refine AFn.use [3] (rm_ok (onAll f.safe (f.ds.take i)) x) (by kernel_rfl) rfl (by repeat' first | exact trivial | refine ⟨rfl, ?_⟩) fun _ => ?_
        (conv => whnf); repeat ((first | (refine And.intro ?_ ?_; (focus ((repeat' (first | exact trivial | refine And.intro rfl ?_)); done))) | (refine And.intro ?_ ?_; (focus (first | omega | (dsimp -iota only; omega) | (simp -iota; omega) | (simp -iota; done) | decide)))); conv => whnf)
        refine ⟨⟨i + 1, by omega⟩, Ent.mk' [some 0, some 1, some 2, some 3] (by kernel_rfl) (by repeat' first | exact trivial | refine And.intro (AVE.refl _) ?_ | refine And.intro (AVE.int (by first | rfl | omega | (dsimp only; omega) | (simp -iota; omega) | (simp -iota; done))) ?_ | refine And.intro (AVE.bool (by assumption)) ?_ | refine And.intro (AVE.len (by first | rfl | omega | (dsimp only; omega) | (simp -iota; omega) | (simp -iota; done))) ?_) ?_, ?_⟩
        · exact ⟨⟨_, rfl, ChE.refl _⟩, ⟨_, rfl, ChE.refl _⟩, ⟨_, rfl, ChE.refl _⟩, ⟨_, rfl, ChE.of_eq (by rw [hon]; rfl)⟩, trivial⟩
        · show n - (i + 1) < n - i
          omega
    · have hin : i = n := by omega
      subst hin
      have hcr : f.crash k = FD.synced ⟨f.safe, onAll f.safe (f.ds.take i), f.ds, f.last⟩ := by
        unfold FD.crash FD.synced
        rw [hkn]
      rw [hcr]
      (conv => whnf); repeat ((first | (refine And.intro ?_ ?_; (focus ((repeat' (first | exact trivial | refine And.intro rfl ?_)); done))) | (refine And.intro ?_ ?_; (focus (first | omega | (dsimp -iota only; omega) | (simp -iota; omega) | (simp -iota; done) | decide)))); conv => whnf)
      refine ACall.hent (HEnt.close [0, 1, 3, 2] 0 (FD.H ⟨f.safe, onAll f.safe (f.ds.take i), f.ds, f.last⟩) ?_ ?_) ?_
      · kernel_rfl
      · repeat' first | exact trivial | refine ⟨rfl, ?_⟩
      refine AFn.use [0] (sync_ok ⟨f.safe, onAll f.safe (f.ds.take i), f.ds, f.last⟩) (by kernel_rfl) rfl (by repeat' first | exact trivial | refine ⟨rfl, ?_⟩) fun _ => ?_
      refine ⟨_, HEnt.refl _, ?_⟩
      (conv => whnf); repeat ((first | (refine And.intro ?_ ?_; (focus ((repeat' (first | exact trivial | refine And.intro rfl ?_)); done))) | (refine And.intro ?_ ?_; (focus (first | omega | (dsimp -iota only; omega) | (simp -iota; omega) | (simp -iota; done) | decide)))); conv => whnf)
      refine ⟨_, _, Ent.mk' (e' := [(0, AV.int .i64 0)]) (H' := one (FD.synced ⟨f.safe, onAll f.safe (f.ds.take i), f.ds, f.last⟩).H) [some 0] (by kernel_rfl) ?_ ?_, (), rfl, rfl⟩
      · exact ⟨AVE.refl _, trivial⟩
      · (repeat' first | exact trivial | refine ⟨⟨_, rfl, ChE.refl _⟩, ?_⟩)
noncomputable def cfgC (N b : Nat) : Cfg := { P := Go.Proofs.Try.prog, T := tt, wr := false, N := N, pure := [33, 39], base := b, frz := frzF }
theorem cfgCOk (N b : Nat) : (cfgC N b).Ok := ⟨ttOk, ttBytes, by kernel_rfl⟩
theorem copy_ok (hl : f.ds.length ≤ 1000) : AFn Go.Proofs.Try.prog 16 [.ptr 0 0] (one f.H) (fun _ : Unit => .ptr 1 0) (fun _ => ⟨2, [(0, .sem (Nest f.H)), (1, .sem (Nest f.H))]⟩) := by
  refine ACall.fin ?_
  refine ACall.walkE (C := cfgC 26 1) (cfgCOk _ _) sch16 (fn := Go.Proofs.Try.f16) (by kernel_rfl) (by kernel_rfl) rfl (by kernel_rfl) (by kernel_rfl) rfl rfl (H1 := f.H) (fun _ _ => (HEnt.openOne (f.H) rfl rfl).ent) fun hlen hheap => ?_
  (conv => whnf); repeat ((first | (refine And.intro ?_ ?_; (focus ((repeat' (first | exact trivial | refine And.intro rfl ?_)); done))) | (refine And.intro ?_ ?_; (focus (first | omega | (dsimp -iota only; omega) | (simp -iota; omega) | (simp -iota; done) | decide)))); conv => whnf)
  refine AFn.use [0, 1, 2, 3] (none_in f) (by kernel_rfl) rfl (by repeat' first | exact trivial | refine ⟨rfl, ?_⟩) fun _ => ?_
  (conv => whnf); repeat ((first | (refine And.intro ?_ ?_; (focus ((repeat' (first | exact trivial | refine And.intro rfl ?_)); done))) | (refine And.intro ?_ ?_; (focus (first | omega | (dsimp -iota only; omega) | (simp -iota; omega) | (simp -iota; done) | decide)))); conv => whnf)
  refine AFn.use [1] (mclone_ok (smap un f.safe)) (by kernel_rfl) rfl (by repeat' first | exact trivial | refine ⟨rfl, ?_⟩) fun _ => ?_
  (conv => whnf); repeat ((first | (refine And.intro ?_ ?_; (focus ((repeat' (first | exact trivial | refine And.intro rfl ?_)); done))) | (refine And.intro ?_ ?_; (focus (first | omega | (dsimp -iota only; omega) | (simp -iota; omega) | (simp -iota; done) | decide)))); conv => whnf)
  refine AFn.use [2] (mclone_ok (smap un f.now)) (by kernel_rfl) rfl (by repeat' first | exact trivial | refine ⟨rfl, ?_⟩) fun _ => ?_
  (conv => whnf); repeat ((first | (refine And.intro ?_ ?_; (focus ((repeat' (first | exact trivial | refine And.intro rfl ?_)); done))) | (refine And.intro ?_ ?_; (focus (first | omega | (dsimp -iota only; omega) | (simp -iota; omega) | (simp -iota; done) | decide)))); conv => whnf)
  refine AFn.use [3] (dclone_ok f.ds.length hl (dF f.ds)) (by kernel_rfl) rfl (by repeat' first | exact trivial | refine ⟨rfl, ?_⟩) fun _ => ?_
  (conv => whnf); repeat ((first | (refine And.intro ?_ ?_; (focus ((repeat' (first | exact trivial | refine And.intro rfl ?_)); done))) | (refine And.intro ?_ ?_; (focus (first | omega | (dsimp -iota only; omega) | (simp -iota; omega) | (simp -iota; done) | decide)))); conv => whnf)
  trace_state
  refine ⟨_, _, Ent.trans (HEnt.ent (HEnt.trans (HEnt.close [0, 1, 2, 3] 0 f.H ?_ ?_) (HEnt.close [7, 4, 5, 6] 7 f.H ?_ ?_))) (Ent.mk' (e' := [(0, .ptr 1 0)]) (H' := ⟨2, [(0, .sem (Nest f.H)), (1, .sem (Nest f.H))]⟩) [some 0, some 7] ?_ ?_ ?_), (), rfl, rfl⟩
  · kernel_rfl
  · repeat' first | exact trivial | refine ⟨rfl, ?_⟩
  · kernel_rfl
  · repeat' first | exact trivial | refine ⟨rfl, ?_⟩
  · kernel_rfl
  · exact ⟨AVE.refl _, trivial⟩
  · (repeat' first | exact trivial | refine ⟨⟨_, rfl, ChE.refl _⟩, ?_⟩)
end
end Go.Proofs.Yteeifedpabcehaa.Ax

namespace Go.Proofs.Yteeifedpabcehaa.Ax
open Go.RowKit
set_option maxRecDepth 100000
structure Call where
  w : Int
  s : List UInt8
  t : List UInt8
  k : Int
instance : Inhabited Call := ⟨⟨0, [], [], 0⟩⟩
def callI (c : Call) : List IV := [.v (.int .i64 c.w), .str c.s, .str c.t, .v (.int .i64 c.k)]
section
variable (f : FD)
def isMk (w : Int) : Prop := w = 0 ∨ w = 1 ∨ w = 2
instance (w : Int) : Decidable (isMk w) := by unfold isMk; infer_instance
def FD.does (f : FD) (c : Call) : FD := if isMk c.w then f.create c.s else if c.w = 3 then f.ren c.s c.t else if c.w = 4 then f.rem c.s else if c.w = 5 then f.synced else if c.w = 6 then f.crash c.k else f
def FD.doesN (f : FD) (c : Call) : Nat := if isMk c.w then f.createN c.s else 0
def FD.doesE (f : FD) (c : Call) : Int := if isMk c.w then f.createE c.s else if c.w = 3 then f.renE c.s c.t else if c.w = 4 then f.remE c.s else 0
theorem does_ok (hl : f.ds.length ≤ 1000) (hla : f.last ≤ 1000) (c : Call) : AFn Go.Proofs.Try.prog 9 [.ptr 0 0, .agg [AV.int .i64 c.w, .str c.s, .str c.t, AV.int .i64 c.k]] (one f.H) (fun _ : Unit => .tup [AV.int .u64 (f.doesN c), AV.int .i64 (f.doesE c)]) (fun _ => one (f.does c).H) := by
  have mkc : isMk c.w → f.doesN c = f.createN c.s ∧ f.doesE c = f.createE c.s ∧ f.does c = f.create c.s := fun h => ⟨if_pos h, if_pos h, if_pos h⟩
  refine ACall.fin ?_
  refine ACall.walk (C := cfg 42 1) (cfgOk _ _) [] (fn := Go.Proofs.Try.f9) (by kernel_rfl) (by kernel_rfl) rfl (by kernel_rfl) (by kernel_rfl) rfl rfl ?_
  (conv => whnf); repeat ((first | (refine And.intro ?_ ?_; (focus ((repeat' (first | exact trivial | refine And.intro rfl ?_)); done))) | (refine And.intro ?_ ?_; (focus (first | omega | (dsimp -iota only; omega) | (simp -iota; omega) | (simp -iota; done) | decide)))); conv => whnf)
  refine branchB_of (fun g0 => ?_) (fun g0 => ?_) <;> (first | replace g0 := not_t g0 | replace g0 := not_f g0 | skip) <;> (first | replace g0 := of_decide_eq_true g0 | replace g0 := of_decide_eq_false g0 | skip) <;> (first | replace g0 := Classical.not_not.1 g0 | skip) <;> (try dsimp only at g0)
  · obtain ⟨e1, e2, e3⟩ := mkc (.inl g0)
    rw [e1, e2, e3]
    (conv => whnf); repeat ((first | (refine And.intro ?_ ?_; (focus ((repeat' (first | exact trivial | refine And.intro rfl ?_)); done))) | (refine And.intro ?_ ?_; (focus (first | omega | (dsimp -iota only; omega) | (simp -iota; omega) | (simp -iota; done) | decide)))); conv => whnf)
    refine AFn.use [0] (create_ok f hl hla c.s) (by kernel_rfl) rfl (by repeat' first | exact trivial | refine ⟨rfl, ?_⟩) fun _ => ?_
    (conv => whnf); repeat ((first | (refine And.intro ?_ ?_; (focus ((repeat' (first | exact trivial | refine And.intro rfl ?_)); done))) | (refine And.intro ?_ ?_; (focus (first | omega | (dsimp -iota only; omega) | (simp -iota; omega) | (simp -iota; done) | decide)))); conv => whnf)
    refine ⟨_, _, Ent.mk' (e' := [(0, .tup [AV.int .u64 (f.createN c.s), AV.int .i64 (f.createE c.s)])]) (H' := one (f.create c.s).H) [some 0] (by kernel_rfl) ?_ ?_, (), rfl, rfl⟩
    · exact ⟨AVE.refl _, trivial⟩
    · (repeat' first | exact trivial | refine ⟨⟨_, rfl, ChE.refl _⟩, ?_⟩)
  · (conv => whnf); repeat ((first | (refine And.intro ?_ ?_; (focus ((repeat' (first | exact trivial | refine And.intro rfl ?_)); done))) | (refine And.intro ?_ ?_; (focus (first | omega | (dsimp -iota only; omega) | (simp -iota; omega) | (simp -iota; done) | decide)))); conv => whnf)
    refine branchB_of (fun g1 => ?_) (fun g1 => ?_) <;> (first | replace g1 := not_t g1 | replace g1 := not_f g1 | skip) <;> (first | replace g1 := of_decide_eq_true g1 | replace g1 := of_decide_eq_false g1 | skip) <;> (first | replace g1 := Classical.not_not.1 g1 | skip) <;> (try dsimp only at g1)
    · obtain ⟨e1, e2, e3⟩ := mkc (.inr (.inl g1))
      rw [e1, e2, e3]
      (conv => whnf); repeat ((first | (refine And.intro ?_ ?_; (focus ((repeat' (first | exact trivial | refine And.intro rfl ?_)); done))) | (refine And.intro ?_ ?_; (focus (first | omega | (dsimp -iota only; omega) | (simp -iota; omega) | (simp -iota; done) | decide)))); conv => whnf)
      refine AFn.use [0] (create_ok f hl hla c.s) (by kernel_rfl) rfl (by repeat' first | exact trivial | refine ⟨rfl, ?_⟩) fun _ => ?_
      (conv => whnf); repeat ((first | (refine And.intro ?_ ?_; (focus ((repeat' (first | exact trivial | refine And.intro rfl ?_)); done))) | (refine And.intro ?_ ?_; (focus (first | omega | (dsimp -iota only; omega) | (simp -iota; omega) | (simp -iota; done) | decide)))); conv => whnf)
      refine ⟨_, _, Ent.mk' (e' := [(0, .tup [AV.int .u64 (f.createN c.s), AV.int .i64 (f.createE c.s)])]) (H' := one (f.create c.s).H) [some 0] (by kernel_rfl) ?_ ?_, (), rfl, rfl⟩
      · exact ⟨AVE.refl _, trivial⟩
      · (repeat' first | exact trivial | refine ⟨⟨_, rfl, ChE.refl _⟩, ?_⟩)
    · (conv => whnf); repeat ((first | (refine And.intro ?_ ?_; (focus ((repeat' (first | exact trivial | refine And.intro rfl ?_)); done))) | (refine And.intro ?_ ?_; (focus (first | omega | (dsimp -iota only; omega) | (simp -iota; omega) | (simp -iota; done) | decide)))); conv => whnf)
      refine branchB_of (fun g2 => ?_) (fun g2 => ?_) <;> (first | replace g2 := not_t g2 | replace g2 := not_f g2 | skip) <;> (first | replace g2 := of_decide_eq_true g2 | replace g2 := of_decide_eq_false g2 | skip) <;> (first | replace g2 := Classical.not_not.1 g2 | skip) <;> (try dsimp only at g2)
      · obtain ⟨e1, e2, e3⟩ := mkc (.inr (.inr g2))
        rw [e1, e2, e3]
        (conv => whnf); repeat ((first | (refine And.intro ?_ ?_; (focus ((repeat' (first | exact trivial | refine And.intro rfl ?_)); done))) | (refine And.intro ?_ ?_; (focus (first | omega | (dsimp -iota only; omega) | (simp -iota; omega) | (simp -iota; done) | decide)))); conv => whnf)
        refine AFn.use [0] (create_ok f hl hla c.s) (by kernel_rfl) rfl (by repeat' first | exact trivial | refine ⟨rfl, ?_⟩) fun _ => ?_
        (conv => whnf); repeat ((first | (refine And.intro ?_ ?_; (focus ((repeat' (first | exact trivial | refine And.intro rfl ?_)); done))) | (refine And.intro ?_ ?_; (focus (first | omega | (dsimp -iota only; omega) | (simp -iota; omega) | (simp -iota; done) | decide)))); conv => whnf)
        refine ⟨_, _, Ent.mk' (e' := [(0, .tup [AV.int .u64 (f.createN c.s), AV.int .i64 (f.createE c.s)])]) (H' := one (f.create c.s).H) [some 0] (by kernel_rfl) ?_ ?_, (), rfl, rfl⟩
        · exact ⟨AVE.refl _, trivial⟩
        · (repeat' first | exact trivial | refine ⟨⟨_, rfl, ChE.refl _⟩, ?_⟩)
      · have gm : ¬ isMk c.w := fun h => by rcases h with h | h | h <;> contradiction
        have e1 : f.doesN c = 0 := if_neg gm
        rw [e1]
        (conv => whnf); repeat ((first | (refine And.intro ?_ ?_; (focus ((repeat' (first | exact trivial | refine And.intro rfl ?_)); done))) | (refine And.intro ?_ ?_; (focus (first | omega | (dsimp -iota only; omega) | (simp -iota; omega) | (simp -iota; done) | decide)))); conv => whnf)
        refine branchB_of (fun g3 => ?_) (fun g3 => ?_) <;> (first | replace g3 := not_t g3 | replace g3 := not_f g3 | skip) <;> (first | replace g3 := of_decide_eq_true g3 | replace g3 := of_decide_eq_false g3 | skip) <;> (first | replace g3 := Classical.not_not.1 g3 | skip) <;> (try dsimp only at g3)
        · have e2 : f.doesE c = f.renE c.s c.t := by unfold FD.doesE; rw [if_neg gm, if_pos g3]
          have e3 : f.does c = f.ren c.s c.t := by unfold FD.does; rw [if_neg gm, if_pos g3]
          rw [e2, e3]
          (conv => whnf); repeat ((first | (refine And.intro ?_ ?_; (focus ((repeat' (first | exact trivial | refine And.intro rfl ?_)); done))) | (refine And.intro ?_ ?_; (focus (first | omega | (dsimp -iota only; omega) | (simp -iota; omega) | (simp -iota; done) | decide)))); conv => whnf)
          refine AFn.use [0] (rename_ok f hl c.s c.t) (by kernel_rfl) rfl (by repeat' first | exact trivial | refine ⟨rfl, ?_⟩) fun _ => ?_
          (conv => whnf); repeat ((first | (refine And.intro ?_ ?_; (focus ((repeat' (first | exact trivial | refine And.intro rfl ?_)); done))) | (refine And.intro ?_ ?_; (focus (first | omega | (dsimp -iota only; omega) | (simp -iota; omega) | (simp -iota; done) | decide)))); conv => whnf)
          refine ⟨_, _, Ent.mk' (e' := [(0, .tup [AV.int .u64 0, AV.int .i64 (f.renE c.s c.t)])]) (H' := one (f.ren c.s c.t).H) [some 0] (by kernel_rfl) ?_ ?_, (), rfl, rfl⟩
          · exact ⟨AVE.refl _, trivial⟩
          · (repeat' first | exact trivial | refine ⟨⟨_, rfl, ChE.refl _⟩, ?_⟩)
        · (conv => whnf); repeat ((first | (refine And.intro ?_ ?_; (focus ((repeat' (first | exact trivial | refine And.intro rfl ?_)); done))) | (refine And.intro ?_ ?_; (focus (first | omega | (dsimp -iota only; omega) | (simp -iota; omega) | (simp -iota; done) | decide)))); conv => whnf)
          refine branchB_of (fun g4 => ?_) (fun g4 => ?_) <;> (first | replace g4 := not_t g4 | replace g4 := not_f g4 | skip) <;> (first | replace g4 := of_decide_eq_true g4 | replace g4 := of_decide_eq_false g4 | skip) <;> (first | replace g4 := Classical.not_not.1 g4 | skip) <;> (try dsimp only at g4)
          · have e2 : f.doesE c = f.remE c.s := by unfold FD.doesE; rw [if_neg gm, if_neg g3, if_pos g4]
            have e3 : f.does c = f.rem c.s := by unfold FD.does; rw [if_neg gm, if_neg g3, if_pos g4]
            rw [e2, e3]
            (conv => whnf); repeat ((first | (refine And.intro ?_ ?_; (focus ((repeat' (first | exact trivial | refine And.intro rfl ?_)); done))) | (refine And.intro ?_ ?_; (focus (first | omega | (dsimp -iota only; omega) | (simp -iota; omega) | (simp -iota; done) | decide)))); conv => whnf)
            refine AFn.use [0] (remove_ok f hl c.s) (by kernel_rfl) rfl (by repeat' first | exact trivial | refine ⟨rfl, ?_⟩) fun _ => ?_
            (conv => whnf); repeat ((first | (refine And.intro ?_ ?_; (focus ((repeat' (first | exact trivial | refine And.intro rfl ?_)); done))) | (refine And.intro ?_ ?_; (focus (first | omega | (dsimp -iota only; omega) | (simp -iota; omega) | (simp -iota; done) | decide)))); conv => whnf)
            refine ⟨_, _, Ent.mk' (e' := [(0, .tup [AV.int .u64 0, AV.int .i64 (f.remE c.s)])]) (H' := one (f.rem c.s).H) [some 0] (by kernel_rfl) ?_ ?_, (), rfl, rfl⟩
            · exact ⟨AVE.refl _, trivial⟩
            · (repeat' first | exact trivial | refine ⟨⟨_, rfl, ChE.refl _⟩, ?_⟩)
          · have e2 : f.doesE c = 0 := by unfold FD.doesE; rw [if_neg gm, if_neg g3, if_neg g4]
            rw [e2]
            (conv => whnf); repeat ((first | (refine And.intro ?_ ?_; (focus ((repeat' (first | exact trivial | refine And.intro rfl ?_)); done))) | (refine And.intro ?_ ?_; (focus (first | omega | (dsimp -iota only; omega) | (simp -iota; omega) | (simp -iota; done) | decide)))); conv => whnf)
            refine branchB_of (fun g5 => ?_) (fun g5 => ?_) <;> (first | replace g5 := not_t g5 | replace g5 := not_f g5 | skip) <;> (first | replace g5 := of_decide_eq_true g5 | replace g5 := of_decide_eq_false g5 | skip) <;> (first | replace g5 := Classical.not_not.1 g5 | skip) <;> (try dsimp only at g5)
            · have e3 : f.does c = f.synced := by unfold FD.does; rw [if_neg gm, if_neg g3, if_neg g4, if_pos g5]
              rw [e3]
              (conv => whnf); repeat ((first | (refine And.intro ?_ ?_; (focus ((repeat' (first | exact trivial | refine And.intro rfl ?_)); done))) | (refine And.intro ?_ ?_; (focus (first | omega | (dsimp -iota only; omega) | (simp -iota; omega) | (simp -iota; done) | decide)))); conv => whnf)
              refine AFn.use [0] (sync_ok f) (by kernel_rfl) rfl (by repeat' first | exact trivial | refine ⟨rfl, ?_⟩) fun _ => ?_
              (conv => whnf); repeat ((first | (refine And.intro ?_ ?_; (focus ((repeat' (first | exact trivial | refine And.intro rfl ?_)); done))) | (refine And.intro ?_ ?_; (focus (first | omega | (dsimp -iota only; omega) | (simp -iota; omega) | (simp -iota; done) | decide)))); conv => whnf)
              refine ⟨_, _, Ent.mk' (e' := [(0, .tup [AV.int .u64 0, AV.int .i64 0])]) (H' := one f.synced.H) [some 0] (by kernel_rfl) ?_ ?_, (), rfl, rfl⟩
              · exact ⟨AVE.refl _, trivial⟩
              · (repeat' first | exact trivial | refine ⟨⟨_, rfl, ChE.refl _⟩, ?_⟩)
            · (conv => whnf); repeat ((first | (refine And.intro ?_ ?_; (focus ((repeat' (first | exact trivial | refine And.intro rfl ?_)); done))) | (refine And.intro ?_ ?_; (focus (first | omega | (dsimp -iota only; omega) | (simp -iota; omega) | (simp -iota; done) | decide)))); conv => whnf)
              refine branchB_of (fun g6 => ?_) (fun g6 => ?_) <;> (first | replace g6 := not_t g6 | replace g6 := not_f g6 | skip) <;> (first | replace g6 := of_decide_eq_true g6 | replace g6 := of_decide_eq_false g6 | skip) <;> (first | replace g6 := Classical.not_not.1 g6 | skip) <;> (try dsimp only at g6)
              · have e3 : f.does c = f.crash c.k := by unfold FD.does; rw [if_neg gm, if_neg g3, if_neg g4, if_neg g5, if_pos g6]
                rw [e3]
                (conv => whnf); repeat ((first | (refine And.intro ?_ ?_; (focus ((repeat' (first | exact trivial | refine And.intro rfl ?_)); done))) | (refine And.intro ?_ ?_; (focus (first | omega | (dsimp -iota only; omega) | (simp -iota; omega) | (simp -iota; done) | decide)))); conv => whnf)
                refine AFn.use [0] (crash_ok f hl c.k) (by kernel_rfl) rfl (by repeat' first | exact trivial | refine ⟨rfl, ?_⟩) fun _ => ?_
                (conv => whnf); repeat ((first | (refine And.intro ?_ ?_; (focus ((repeat' (first | exact trivial | refine And.intro rfl ?_)); done))) | (refine And.intro ?_ ?_; (focus (first | omega | (dsimp -iota only; omega) | (simp -iota; omega) | (simp -iota; done) | decide)))); conv => whnf)
                refine ⟨_, _, Ent.mk' (e' := [(0, .tup [AV.int .u64 0, AV.int .i64 0])]) (H' := one (f.crash c.k).H) [some 0] (by kernel_rfl) ?_ ?_, (), rfl, rfl⟩
                · exact ⟨AVE.refl _, trivial⟩
                · (repeat' first | exact trivial | refine ⟨⟨_, rfl, ChE.refl _⟩, ?_⟩)
              · have e3 : f.does c = f := by unfold FD.does; rw [if_neg gm, if_neg g3, if_neg g4, if_neg g5, if_neg g6]
                rw [e3]
                (conv => whnf); repeat ((first | (refine And.intro ?_ ?_; (focus ((repeat' (first | exact trivial | refine And.intro rfl ?_)); done))) | (refine And.intro ?_ ?_; (focus (first | omega | (dsimp -iota only; omega) | (simp -iota; omega) | (simp -iota; done) | decide)))); conv => whnf)
                refine ⟨_, _, Ent.mk' (e' := [(0, .tup [AV.int .u64 0, AV.int .i64 0])]) (H' := one f.H) [some 0] (by kernel_rfl) ?_ ?_, (), rfl, rfl⟩
                · exact ⟨AVE.refl _, trivial⟩
                · (repeat' first | exact trivial | refine ⟨⟨_, rfl, ChE.refl _⟩, ?_⟩)
/-! What holds of all states since the last Sync. -/
structure FD.In (P : NM → Prop) (f : FD) : Prop where
  eq : f.now = onAll f.safe f.ds
  all : ∀ k, k ≤ f.ds.length → P (onAll f.safe (f.ds.take k))
theorem FD.In.now {P : NM → Prop} {f : FD} (h : f.In P) : P f.now := by
  have := h.all f.ds.length (Nat.le_refl _)
  rw [List.take_length, ← h.eq] at this
  exact this
theorem FD.In.did {P Q : NM → Prop} {f : FD} (h : f.In P) (hPQ : ∀ m, P m → Q m) {D : Deed} (hD : ∀ m, P m → Q (D.on m)) (n : Nat) : (FD.did ⟨f.safe, f.now, f.ds, n⟩ D).In Q := by
  refine ⟨?_, fun k hk => ?_⟩
  · show D.on f.now = onAll f.safe (f.ds ++ [D])
    rw [onAll_snoc, h.eq]
  · show Q (onAll f.safe ((f.ds ++ [D]).take k))
    have hk : k ≤ (f.ds ++ [D]).length := hk
    rw [List.length_append] at hk
    by_cases e : k ≤ f.ds.length
    · rw [List.take_append_of_le_length e]
      exact hPQ _ (h.all k e)
    · rw [List.take_of_length_le (by simp at hk ⊢; omega), onAll_snoc]
      have := h.all f.ds.length (Nat.le_refl _)
      rw [List.take_length] at this
      exact hD _ this
theorem FD.In.mono {P Q : NM → Prop} {f : FD} (h : f.In P) (hPQ : ∀ m, P m → Q m) : f.In Q := ⟨h.eq, fun k hk => hPQ _ (h.all k hk)⟩
theorem FD.In.synced {P : NM → Prop} {f : FD} (h : f.In P) : f.synced.In P := ⟨rfl, fun k _ => by show P (onAll f.now (List.take k [])); rw [List.take_nil]; exact h.now⟩
theorem FD.In.crash {P : NM → Prop} {f : FD} (h : f.In P) (k : Int) : (f.crash k).In P := ⟨rfl, fun j _ => by
  show P (onAll (onAll f.safe (f.ds.take (f.keep k))) (List.take j []))
  rw [List.take_nil]
  exact h.all _ (by unfold FD.keep; omega)⟩
/-- What a call does to names. -/
inductive Does (c : Call) : Deed → Prop
  | mk (n : Nat) (h : mayB c.s = true) : Does c (.mk c.s n)
  | mv (n : Nat) (h : mayB c.s = true) (h2 : mayB c.t = true) (h3 : c.s ≠ c.t) : Does c (.mv c.s c.t n)
  | rm (h : mayB c.s = true) : Does c (.rm c.s)
theorem FD.In.does {P Q : NM → Prop} {f : FD} (h : f.In P) {c : Call} (hPQ : ∀ m, P m → Q m) (hD : ∀ D, Does c D → ∀ m, P m → Q (D.on m)) : (f.does c).In Q := by
  unfold FD.does
  split
  · unfold FD.create
    split
    · rename_i h0
      have hm : mayB c.s = true := by
        unfold FD.createE at h0
        cases hb : mayB c.s with
        | true => rfl
        | false => rw [hb] at h0; simp at h0
      exact h.did hPQ (hD _ (.mk _ hm)) _
    · exact h.mono hPQ
  · split
    · unfold FD.ren
      split
      · rename_i h0
        have hm : mayB c.s = true ∧ mayB c.t = true := by
          have h1 := h0.1
          unfold FD.renE at h1
          cases hb : (mayB c.s && mayB c.t) with
          | true => simpa using hb
          | false => rw [hb] at h1; simp at h1
        exact h.did hPQ (hD _ (.mv _ hm.1 hm.2 h0.2)) _
      · exact h.mono hPQ
    · split
      · unfold FD.rem
        split
        · rename_i h0
          have hm : mayB c.s = true := by
            unfold FD.remE at h0
            cases hb : mayB c.s with
            | true => rfl
            | false => rw [hb] at h0; simp at h0
          exact h.did hPQ (hD _ (.rm hm)) _
        · exact h.mono hPQ
      · split
        · exact (h.mono hPQ).synced
        · split
          · exact (h.mono hPQ).crash _
          · exact h.mono hPQ
theorem did_len (D : Deed) (n : Nat) : (FD.did ⟨f.safe, f.now, f.ds, n⟩ D).ds.length = f.ds.length + 1 := by simp [FD.did]
theorem does_sizes (c : Call) : (f.does c).ds.length ≤ f.ds.length + 1 ∧ (f.does c).last ≤ f.last + 1 := by
  unfold FD.does
  split
  · unfold FD.create
    split
    · exact ⟨by rw [did_len]; exact Nat.le_refl _, Nat.le_refl _⟩
    · exact ⟨by omega, by omega⟩
  · split
    · unfold FD.ren
      split
      · exact ⟨by simp [FD.did], by simp [FD.did]⟩
      · exact ⟨by omega, by omega⟩
    · split
      · unfold FD.rem
        split
        · exact ⟨by simp [FD.did], by simp [FD.did]⟩
        · exact ⟨by omega, by omega⟩
      · split
        · exact ⟨by simp [FD.synced], by simp [FD.synced]⟩
        · split
          · exact ⟨by simp [FD.crash], by simp [FD.crash]⟩
          · exact ⟨by omega, by omega⟩
end
end Go.Proofs.Yteeifedpabcehaa.Ax
