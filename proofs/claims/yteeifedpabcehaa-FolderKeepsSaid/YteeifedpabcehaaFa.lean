/-
  Chapter 06: folders: what they hold; deeds.
-/
import Derived.Test.YteeifedpabcehaaFm
import Derived.Test.YteeifedpabcehaaSch06
namespace Go.Proofs.Yteeifedpabcehaa.Ax
open Go.RowKit
set_option maxRecDepth 100000
inductive Deed where
  | mk (x : List UInt8) (n : Nat)
  | mv (a b : List UInt8) (n : Nat)
  | rm (x : List UInt8)
instance : Inhabited Deed := ⟨.rm []⟩
abbrev NM := List (List UInt8 × Nat)
def un (n : Nat) : IV := .v (.int .u64 (n : Nat))
def Deed.iv : Deed → IV
  | .mk x n => .fnc (.func 41) [] [.pp [un n], .pp [.str x]]
  | .mv a b n => .fnc (.func 47) [] [.pp [.str a], .pp [un n], .pp [.str b]]
  | .rm x => .fnc (.func 42) [] [.pp [.str x]]
def Deed.on : Deed → NM → NM
  | .mk x n, m => aput m x n
  | .mv a b n, m => aput (adel m a) b n
  | .rm x, m => adel m x
structure FD where
  safe : NM
  now : NM
  ds : List Deed
  last : Nat
def dF (ds : List Deed) (i : Nat) : List IV := [(ds.getD i default).iv]
@[reducible] def FD.H (f : FD) : AH := ⟨4, [(0, .cells 65 [.mp 1, .mp 2, .row 3 1 0 f.ds.length, AV.int .u64 f.last]), (1, .map none (smap un f.safe)), (2, .map none (smap un f.now)), (3, .rowc 80 1 f.ds.length (dF f.ds))]⟩
def FD.did (f : FD) (D : Deed) : FD := ⟨f.safe, D.on f.now, f.ds ++ [D], f.last⟩
theorem mput_un (l : NM) (x : List UInt8) (n : Nat) : mput (smap un l) (.s x) (.v (.int .u64 (n : Nat))) = smap un (aput l x n) := by
  rw [← mput_smap]
  rfl
theorem mk_ok (m : NM) (x : List UInt8) (n : Nat) : AFn Go.Proofs.Try.prog 41 [.mp 0, .iv (.pp [un n]), .iv (.pp [.str x])] ⟨1, [(0, .map none (smap un m))]⟩ (fun _ : Unit => .tup []) (fun _ => ⟨1, [(0, .map none (smap un (aput m x n)))]⟩) := by
  refine ACall.fin ?_
  refine ACall.walk (C := cfg 7 1) (cfgOk _ _) [] (fn := Go.Proofs.Try.f41) (by kernel_rfl) (by kernel_rfl) rfl (by kernel_rfl) (by kernel_rfl) rfl rfl ?_
  (conv => whnf); repeat ((first | (refine And.intro ?_ ?_; (focus ((repeat' (first | exact trivial | refine And.intro rfl ?_)); done))) | (refine And.intro ?_ ?_; (focus (first | omega | (dsimp -iota only; omega) | (simp -iota; omega) | (simp -iota; done) | decide)))); conv => whnf)
  rw [mput_un]
  refine ⟨_, _, Ent.mk' (e' := [(0, .tup [])]) (H' := ⟨1, [(0, .map none (smap un (aput m x n)))]⟩) [some 0] (by kernel_rfl) ?_ ?_, (), rfl, rfl⟩
  · exact ⟨AVE.refl _, trivial⟩
  · (repeat' first | exact trivial | refine ⟨⟨_, rfl, ChE.refl _⟩, ?_⟩)
theorem rm_ok (m : NM) (x : List UInt8) : AFn Go.Proofs.Try.prog 42 [.mp 0, .iv (.pp [.str x])] ⟨1, [(0, .map none (smap un m))]⟩ (fun _ : Unit => .tup []) (fun _ => ⟨1, [(0, .map none (smap un (adel m x)))]⟩) := by
  refine ACall.fin ?_
  refine ACall.walk (C := cfg 5 1) (cfgOk _ _) [] (fn := Go.Proofs.Try.f42) (by kernel_rfl) (by kernel_rfl) rfl (by kernel_rfl) (by kernel_rfl) rfl rfl ?_
  (conv => whnf); repeat ((first | (refine And.intro ?_ ?_; (focus ((repeat' (first | exact trivial | refine And.intro rfl ?_)); done))) | (refine And.intro ?_ ?_; (focus (first | omega | (dsimp -iota only; omega) | (simp -iota; omega) | (simp -iota; done) | decide)))); conv => whnf)
  rw [mdel_smap]
  refine ⟨_, _, Ent.mk' (e' := [(0, .tup [])]) (H' := ⟨1, [(0, .map none (smap un (adel m x)))]⟩) [some 0] (by kernel_rfl) ?_ ?_, (), rfl, rfl⟩
  · exact ⟨AVE.refl _, trivial⟩
  · (repeat' first | exact trivial | refine ⟨⟨_, rfl, ChE.refl _⟩, ?_⟩)
theorem mv_ok (m : NM) (a b : List UInt8) (n : Nat) : AFn Go.Proofs.Try.prog 47 [.mp 0, .iv (.pp [.str a]), .iv (.pp [un n]), .iv (.pp [.str b])] ⟨1, [(0, .map none (smap un m))]⟩ (fun _ : Unit => .tup []) (fun _ => ⟨1, [(0, .map none (smap un (aput (adel m a) b n)))]⟩) := by
  refine ACall.fin ?_
  refine ACall.walk (C := cfg 10 1) (cfgOk _ _) [] (fn := Go.Proofs.Try.f47) (by kernel_rfl) (by kernel_rfl) rfl (by kernel_rfl) (by kernel_rfl) rfl rfl ?_
  (conv => whnf); repeat ((first | (refine And.intro ?_ ?_; (focus ((repeat' (first | exact trivial | refine And.intro rfl ?_)); done))) | (refine And.intro ?_ ?_; (focus (first | omega | (dsimp -iota only; omega) | (simp -iota; omega) | (simp -iota; done) | decide)))); conv => whnf)
  rw [mdel_smap]
  (conv => whnf); repeat ((first | (refine And.intro ?_ ?_; (focus ((repeat' (first | exact trivial | refine And.intro rfl ?_)); done))) | (refine And.intro ?_ ?_; (focus (first | omega | (dsimp -iota only; omega) | (simp -iota; omega) | (simp -iota; done) | decide)))); conv => whnf)
  rw [mput_un]
  refine ⟨_, _, Ent.mk' (e' := [(0, .tup [])]) (H' := ⟨1, [(0, .map none (smap un (aput (adel m a) b n)))]⟩) [some 0] (by kernel_rfl) ?_ ?_, (), rfl, rfl⟩
  · exact ⟨AVE.refl _, trivial⟩
  · (repeat' first | exact trivial | refine ⟨⟨_, rfl, ChE.refl _⟩, ?_⟩)
theorem dF_push {e : Nat} {l : List Deed} {p : Deed} {g : Nat → List IV} (hg : g 0 = [p.iv]) : ChE (.rowc e 1 (l.length + 1) fun j => if j < l.length then dF l j else g (j - l.length)) (.rowc e 1 (l ++ [p]).length (dF (l ++ [p]))) := by
  refine ChE.row (by simp) fun j hj => ?_
  by_cases h : j < l.length
  · simp only [if_pos h]
    unfold dF
    simp [List.getD, List.getElem?_append_left, h]
  · have : j = l.length := by simp at hj; omega
    subst this
    simp only [if_neg h, Nat.sub_self]
    rw [hg]
    simp [dF]
theorem mclone_ok (m : List (MK × IV)) : AFn Go.Proofs.Try.prog 33 [.mp 0] ⟨1, [(0, .map none m)]⟩ (fun _ : Unit => .mp 1) (fun _ => ⟨2, [(0, .map none m), (1, .map none m)]⟩) :=
  ⟨⟨_, Try.func33, by kernel_rfl, by kernel_rfl⟩, fun ρ ι w cargs hG hS hr => by
    simp only [AV.Rs, AV.R] at hr
    obtain ⟨u, us, rfl, ⟨hv, b, g1, g2, rfl⟩, rfl⟩ := hr
    obtain ⟨hv', q1, b', es, clock, k1, k2, k3, k4⟩ := hS.hv (k := 0) (c := .map none m) rfl
    rw [g1] at q1; injection q1 with q1; subst q1
    rw [g2] at k1; injection k1 with k1; subst k1
    have hC := AnyW.maps_Clone (P := Go.Proofs.Try.prog) Try.mclone b es clock w k3
    refine Calls.mono hC fun e w' ⟨he, hw⟩ => ?_
    subst he hw
    obtain ⟨s1, s2⟩ := hS.alloc (.map es clock) 0 (.map none m) ⟨w.heap.size, es, clock, rfl, fun _ => Iff.rfl, heap_alloc_new w _, k4⟩
    exact ⟨.mp 1, _, _, ι, ⟨(), rfl, rfl⟩, by simp only [AV.R]; exact ⟨_, _, Rho.upd_same _ _ _, rfl, rfl⟩, s1, s2⟩⟩
theorem dclone_ok (n : Nat) (hn : n ≤ 1000) (g : Nat → List IV) : AFn Go.Proofs.Try.prog 39 [.row 0 1 0 n] ⟨1, [(0, .rowc 80 1 n g)]⟩ (fun _ : Unit => .row 1 1 0 n) (fun _ => ⟨2, [(0, .rowc 80 1 n g), (1, .rowc 80 1 n g)]⟩) := by
  refine ACall.fin ?_
  refine ACall.walk (C := cfg 8 1) (cfgOk _ _) [] (fn := Go.Proofs.Try.f39) (by kernel_rfl) (by kernel_rfl) rfl (by kernel_rfl) (by kernel_rfl) rfl rfl ?_
  cases n with
  | zero =>
    (conv => whnf); repeat ((first | (refine And.intro ?_ ?_; (focus ((repeat' (first | exact trivial | refine And.intro rfl ?_)); done))) | (refine And.intro ?_ ?_; (focus (first | omega | (dsimp -iota only; omega) | (simp -iota; omega) | (simp -iota; done) | decide)))); conv => whnf)
    refine And.intro ?_ ?_ <;> ((conv => whnf); repeat ((first | (refine And.intro ?_ ?_; (focus ((repeat' (first | exact trivial | refine And.intro rfl ?_)); done))) | (refine And.intro ?_ ?_; (focus (first | omega | (dsimp -iota only; omega) | (simp -iota; omega) | (simp -iota; done) | decide)))); conv => whnf))
    · refine ⟨_, _, Ent.mk' (e' := [(0, .row 1 1 0 0)]) (H' := ⟨2, [(0, .rowc 80 1 0 g), (1, .rowc 80 1 0 g)]⟩) [some 0, none] (by kernel_rfl) ?_ ?_, (), rfl, rfl⟩
      · exact ⟨AVE.nil _ _, trivial⟩
      · exact ⟨⟨_, rfl, ChE.refl _⟩, trivial, trivial⟩
    · refine ⟨_, _, Ent.mk' (e' := [(0, .row 1 1 0 0)]) (H' := ⟨2, [(0, .rowc 80 1 0 g), (1, .rowc 80 1 0 g)]⟩) [some 0, some 2] (by kernel_rfl) ?_ ?_, (), rfl, rfl⟩
      · exact ⟨AVE.refl _, trivial⟩
      · exact ⟨⟨_, rfl, ChE.refl _⟩, ⟨_, rfl, ChE.row (Nat.zero_le _) fun i hi => absurd hi (Nat.not_lt_zero _)⟩, trivial⟩
  | succ n =>
    (conv => whnf); repeat ((first | (refine And.intro ?_ ?_; (focus ((repeat' (first | exact trivial | refine And.intro rfl ?_)); done))) | (refine And.intro ?_ ?_; (focus (first | omega | (dsimp -iota only; omega) | (simp -iota; omega) | (simp -iota; done) | decide)))); conv => whnf)
    refine ⟨_, _, Ent.mk' (e' := [(0, .row 1 1 0 (n + 1))]) (H' := ⟨2, [(0, .rowc 80 1 (n + 1) g), (1, .rowc 80 1 (n + 1) g)]⟩) [some 0, some 2] (by kernel_rfl) ?_ ?_, (), rfl, rfl⟩
    · exact ⟨AVE.len (Nat.zero_add _), trivial⟩
    · exact ⟨⟨_, rfl, ChE.refl _⟩, ⟨_, rfl, ChE.row (by omega) fun i hi => by simp⟩, trivial⟩
section
variable (f : FD)
theorem new_ok : AFn Go.Proofs.Try.prog 7 [] ⟨0, []⟩ (fun _ : Unit => .ptr 0 0) (fun _ => one (FD.H ⟨[], [], [], 0⟩)) := by
  refine ACall.fin ?_
  refine ACall.walk (C := cfg 5 0) (cfgOk _ _) [] (fn := Go.Proofs.Try.f7) (by kernel_rfl) (by kernel_rfl) rfl (by kernel_rfl) (by kernel_rfl) rfl rfl ?_
  (conv => whnf); repeat ((first | (refine And.intro ?_ ?_; (focus ((repeat' (first | exact trivial | refine And.intro rfl ?_)); done))) | (refine And.intro ?_ ?_; (focus (first | omega | (dsimp -iota only; omega) | (simp -iota; omega) | (simp -iota; done) | decide)))); conv => whnf)
  refine ⟨_, _, Ent.shutAt (r2 := .ptr 0 0) [some 2, some 0, some 1, none] (FD.H ⟨[], [], [], 0⟩) rfl (by kernel_rfl) (AVE.of_eq ?_) ?_ (by kernel_rfl) (by kernel_rfl) (by repeat' first | exact trivial | refine ⟨rfl, ?_⟩) rfl, (), ?_, ?_⟩
  all_goals first | rfl | exact ⟨⟨_, rfl, ChE.cells ⟨AVE.refl _, AVE.refl _, AVE.nil _ _, AVE.refl _, rfl⟩⟩, ⟨_, rfl, ChE.refl _⟩, ⟨_, rfl, ChE.refl _⟩, trivial, trivial⟩
theorem none_in : AFn Go.Proofs.Try.prog 27 [.ptr 0 0] f.H (fun _ : Unit => AV.bool false) (fun _ => f.H) := by
  refine ACall.walk (C := cfg 12 4) (cfgOk _ _) [] (fn := Go.Proofs.Try.f27) (by kernel_rfl) (by kernel_rfl) rfl (by kernel_rfl) (by kernel_rfl) rfl rfl ?_
  conv => whnf
  exact ⟨(), rfl, rfl⟩
theorem loose_in : AFn Go.Proofs.Try.prog 14 [.ptr 0 0] f.H (fun _ : Unit => AV.int .i64 f.ds.length) (fun _ => f.H) := by
  refine ACall.walk (C := cfg 10 4) (cfgOk _ _) [] (fn := Go.Proofs.Try.f14) (by kernel_rfl) (by kernel_rfl) rfl (by kernel_rfl) (by kernel_rfl) rfl rfl ?_
  conv => whnf
  refine AFn.use [0, 1, 2, 3] (none_in f) (by kernel_rfl) rfl (by repeat' first | exact trivial | refine ⟨rfl, ?_⟩) fun _ => ?_
  conv => whnf
  exact ⟨(), rfl, rfl⟩
theorem loose_ok : AFn Go.Proofs.Try.prog 14 [.ptr 0 0] (one f.H) (fun _ : Unit => AV.int .i64 f.ds.length) (fun _ => one f.H) := AFn.shut (loose_in f) rfl rfl (fun _ => ⟨by kernel_rfl, by kernel_rfl⟩) (fun _ => (by repeat' first | exact trivial | refine ⟨rfl, ?_⟩)) (fun _ => rfl)
def FD.findN (f : FD) (x : List UInt8) : Nat := (afind f.now x).getD 0
def FD.findB (f : FD) (x : List UInt8) : Bool := (afind f.now x).isSome
theorem find_in (x : List UInt8) : AFn Go.Proofs.Try.prog 8 [.ptr 0 0, .str x] f.H (fun _ : Unit => .tup [AV.int .u64 (f.findN x), AV.bool (f.findB x)]) (fun _ => f.H) := by
  refine ACall.fin ?_
  refine ACall.walk (C := cfg 21 4) (cfgOk _ _) [] (fn := Go.Proofs.Try.f8) (by kernel_rfl) (by kernel_rfl) rfl (by kernel_rfl) (by kernel_rfl) rfl rfl ?_
  (conv => whnf); repeat ((first | (refine And.intro ?_ ?_; (focus ((repeat' (first | exact trivial | refine And.intro rfl ?_)); done))) | (refine And.intro ?_ ?_; (focus (first | omega | (dsimp -iota only; omega) | (simp -iota; omega) | (simp -iota; done) | decide)))); conv => whnf)
  refine AFn.use [0, 1, 2, 3] (none_in f) (by kernel_rfl) rfl (by repeat' first | exact trivial | refine ⟨rfl, ?_⟩) fun _ => ?_
  (conv => whnf); repeat ((first | (refine And.intro ?_ ?_; (focus ((repeat' (first | exact trivial | refine And.intro rfl ?_)); done))) | (refine And.intro ?_ ?_; (focus (first | omega | (dsimp -iota only; omega) | (simp -iota; omega) | (simp -iota; done) | decide)))); conv => whnf)
  rw [mfind_smap]
  refine ⟨fun y hy => ?_, fun hy => ?_⟩
  · obtain ⟨z, hz, hz2⟩ := Option.map_eq_some_iff.1 hy
    obtain ⟨p, hp, rfl⟩ := Option.map_eq_some_iff.1 hz
    subst hz2
    have e1 : f.findN x = p := by simp [FD.findN, hp]
    have e2 : f.findB x = true := by simp [FD.findB, hp]
    rw [e1, e2]
    (conv => whnf); repeat ((first | (refine And.intro ?_ ?_; (focus ((repeat' (first | exact trivial | refine And.intro rfl ?_)); done))) | (refine And.intro ?_ ?_; (focus (first | omega | (dsimp -iota only; omega) | (simp -iota; omega) | (simp -iota; done) | decide)))); conv => whnf)
    refine ⟨_, _, Ent.mk' (e' := [(0, .tup [AV.int .u64 p, AV.bool true])]) (H' := f.H) [some 0, some 1, some 2, some 3] (by kernel_rfl) ?_ ?_, (), rfl, rfl⟩
    · exact ⟨AVE.refl _, trivial⟩
    · (repeat' first | exact trivial | refine ⟨⟨_, rfl, ChE.refl _⟩, ?_⟩)
  · have hy := Option.map_eq_none_iff.1 (Option.map_eq_none_iff.1 hy)
    have e1 : f.findN x = 0 := by simp [FD.findN, hy]
    have e2 : f.findB x = false := by simp [FD.findB, hy]
    rw [e1, e2]
    (conv => whnf); repeat ((first | (refine And.intro ?_ ?_; (focus ((repeat' (first | exact trivial | refine And.intro rfl ?_)); done))) | (refine And.intro ?_ ?_; (focus (first | omega | (dsimp -iota only; omega) | (simp -iota; omega) | (simp -iota; done) | decide)))); conv => whnf)
    refine ⟨_, _, Ent.mk' (e' := [(0, .tup [AV.int .u64 0, AV.bool false])]) (H' := f.H) [some 0, some 1, some 2, some 3] (by kernel_rfl) ?_ ?_, (), rfl, rfl⟩
    · exact ⟨AVE.refl _, trivial⟩
    · (repeat' first | exact trivial | refine ⟨⟨_, rfl, ChE.refl _⟩, ?_⟩)
theorem find_ok (x : List UInt8) : AFn Go.Proofs.Try.prog 8 [.ptr 0 0, .str x] (one f.H) (fun _ : Unit => .tup [AV.int .u64 (f.findN x), AV.bool (f.findB x)]) (fun _ => one f.H) := AFn.shut (find_in f x) rfl rfl (fun _ => ⟨by kernel_rfl, by kernel_rfl⟩) (fun _ => (by repeat' first | exact trivial | refine ⟨rfl, ?_⟩)) (fun _ => rfl)
theorem do_ok (D : Deed) (hf : f.ds.length ≤ 1000) : AFn Go.Proofs.Try.prog 40 [.ptr 0 0, .iv D.iv] (one f.H) (fun _ : Unit => .tup []) (fun _ => one (f.did D).H) := by
  refine ACall.fin ?_
  refine ACall.walkE (C := cfg 20 1) (cfgOk _ _) [] (fn := Go.Proofs.Try.f40) (by kernel_rfl) (by kernel_rfl) rfl (by kernel_rfl) (by kernel_rfl) rfl rfl (H1 := f.H) (fun _ _ => (HEnt.openOne (f.H) rfl rfl).ent) fun hlen hheap => ?_
  cases D with
  | mk x n =>
    (conv => whnf); repeat ((first | (refine And.intro ?_ ?_; (focus ((repeat' (first | exact trivial | refine And.intro rfl ?_)); done))) | (refine And.intro ?_ ?_; (focus (first | omega | (dsimp -iota only; omega) | (simp -iota; omega) | (simp -iota; done) | decide)))); conv => whnf)
    refine AFn.use [2] (mk_ok f.now x n) (by kernel_rfl) rfl (by repeat' first | exact trivial | refine ⟨rfl, ?_⟩) fun _ => ?_
    (conv => whnf); repeat ((first | (refine And.intro ?_ ?_; (focus ((repeat' (first | exact trivial | refine And.intro rfl ?_)); done))) | (refine And.intro ?_ ?_; (focus (first | omega | (dsimp -iota only; omega) | (simp -iota; omega) | (simp -iota; done) | decide)))); conv => whnf)
    refine ⟨_, _, Ent.shutAt (r2 := .tup []) [some 0, some 1, some 2, some 5] (FD.H (f.did (.mk x n))) rfl (by kernel_rfl) (AVE.of_eq ?_) ?_ (by kernel_rfl) (by kernel_rfl) (by repeat' first | exact trivial | refine ⟨rfl, ?_⟩) rfl, (), ?_, ?_⟩
    all_goals first | rfl | exact ⟨⟨_, rfl, ChE.cells ⟨AVE.refl _, AVE.refl _, AVE.len (by simp [FD.did]), AVE.refl _, rfl⟩⟩, ⟨_, rfl, ChE.refl _⟩, ⟨_, rfl, ChE.refl _⟩, ⟨_, rfl, dF_push (p := .mk x n) rfl⟩, trivial⟩ | (repeat' first | exact trivial | refine ⟨⟨_, rfl, ChE.refl _⟩, ?_⟩)
  | mv a b n =>
    (conv => whnf); repeat ((first | (refine And.intro ?_ ?_; (focus ((repeat' (first | exact trivial | refine And.intro rfl ?_)); done))) | (refine And.intro ?_ ?_; (focus (first | omega | (dsimp -iota only; omega) | (simp -iota; omega) | (simp -iota; done) | decide)))); conv => whnf)
    refine AFn.use [2] (mv_ok f.now a b n) (by kernel_rfl) rfl (by repeat' first | exact trivial | refine ⟨rfl, ?_⟩) fun _ => ?_
    (conv => whnf); repeat ((first | (refine And.intro ?_ ?_; (focus ((repeat' (first | exact trivial | refine And.intro rfl ?_)); done))) | (refine And.intro ?_ ?_; (focus (first | omega | (dsimp -iota only; omega) | (simp -iota; omega) | (simp -iota; done) | decide)))); conv => whnf)
    refine ⟨_, _, Ent.shutAt (r2 := .tup []) [some 0, some 1, some 2, some 5] (FD.H (f.did (.mv a b n))) rfl (by kernel_rfl) (AVE.of_eq ?_) ?_ (by kernel_rfl) (by kernel_rfl) (by repeat' first | exact trivial | refine ⟨rfl, ?_⟩) rfl, (), ?_, ?_⟩
    all_goals first | rfl | exact ⟨⟨_, rfl, ChE.cells ⟨AVE.refl _, AVE.refl _, AVE.len (by simp [FD.did]), AVE.refl _, rfl⟩⟩, ⟨_, rfl, ChE.refl _⟩, ⟨_, rfl, ChE.refl _⟩, ⟨_, rfl, dF_push (p := .mv a b n) rfl⟩, trivial⟩ | (repeat' first | exact trivial | refine ⟨⟨_, rfl, ChE.refl _⟩, ?_⟩)
  | rm x =>
    (conv => whnf); repeat ((first | (refine And.intro ?_ ?_; (focus ((repeat' (first | exact trivial | refine And.intro rfl ?_)); done))) | (refine And.intro ?_ ?_; (focus (first | omega | (dsimp -iota only; omega) | (simp -iota; omega) | (simp -iota; done) | decide)))); conv => whnf)
    refine AFn.use [2] (rm_ok f.now x) (by kernel_rfl) rfl (by repeat' first | exact trivial | refine ⟨rfl, ?_⟩) fun _ => ?_
    (conv => whnf); repeat ((first | (refine And.intro ?_ ?_; (focus ((repeat' (first | exact trivial | refine And.intro rfl ?_)); done))) | (refine And.intro ?_ ?_; (focus (first | omega | (dsimp -iota only; omega) | (simp -iota; omega) | (simp -iota; done) | decide)))); conv => whnf)
    refine ⟨_, _, Ent.shutAt (r2 := .tup []) [some 0, some 1, some 2, some 5] (FD.H (f.did (.rm x))) rfl (by kernel_rfl) (AVE.of_eq ?_) ?_ (by kernel_rfl) (by kernel_rfl) (by repeat' first | exact trivial | refine ⟨rfl, ?_⟩) rfl, (), ?_, ?_⟩
    all_goals first | rfl | exact ⟨⟨_, rfl, ChE.cells ⟨AVE.refl _, AVE.refl _, AVE.len (by simp [FD.did]), AVE.refl _, rfl⟩⟩, ⟨_, rfl, ChE.refl _⟩, ⟨_, rfl, ChE.refl _⟩, ⟨_, rfl, dF_push (p := .rm x) rfl⟩, trivial⟩ | (repeat' first | exact trivial | refine ⟨⟨_, rfl, ChE.refl _⟩, ?_⟩)
def FD.synced (f : FD) : FD := ⟨f.now, f.now, [], f.last⟩
theorem sync_ok : AFn Go.Proofs.Try.prog 26 [.ptr 0 0] (one f.H) (fun _ : Unit => AV.int .i64 0) (fun _ => one f.synced.H) := by
  refine ACall.fin ?_
  refine ACall.walkE (C := cfg 16 1) (cfgOk _ _) [] (fn := Go.Proofs.Try.f26) (by kernel_rfl) (by kernel_rfl) rfl (by kernel_rfl) (by kernel_rfl) rfl rfl (H1 := f.H) (fun _ _ => (HEnt.openOne (f.H) rfl rfl).ent) fun hlen hheap => ?_
  (conv => whnf); repeat ((first | (refine And.intro ?_ ?_; (focus ((repeat' (first | exact trivial | refine And.intro rfl ?_)); done))) | (refine And.intro ?_ ?_; (focus (first | omega | (dsimp -iota only; omega) | (simp -iota; omega) | (simp -iota; done) | decide)))); conv => whnf)
  refine AFn.use [0, 1, 2, 3] (none_in f) (by kernel_rfl) rfl (by repeat' first | exact trivial | refine ⟨rfl, ?_⟩) fun _ => ?_
  (conv => whnf); repeat ((first | (refine And.intro ?_ ?_; (focus ((repeat' (first | exact trivial | refine And.intro rfl ?_)); done))) | (refine And.intro ?_ ?_; (focus (first | omega | (dsimp -iota only; omega) | (simp -iota; omega) | (simp -iota; done) | decide)))); conv => whnf)
  refine AFn.use [2] (mclone_ok (smap un f.now)) (by kernel_rfl) rfl (by repeat' first | exact trivial | refine ⟨rfl, ?_⟩) fun _ => ?_
  (conv => whnf); repeat ((first | (refine And.intro ?_ ?_; (focus ((repeat' (first | exact trivial | refine And.intro rfl ?_)); done))) | (refine And.intro ?_ ?_; (focus (first | omega | (dsimp -iota only; omega) | (simp -iota; omega) | (simp -iota; done) | decide)))); conv => whnf)
  refine ⟨_, _, Ent.shutAt (r2 := AV.int .i64 0) [some 0, some 4, some 2, none] (FD.H f.synced) rfl (by kernel_rfl) (AVE.of_eq ?_) ?_ (by kernel_rfl) (by kernel_rfl) (by repeat' first | exact trivial | refine ⟨rfl, ?_⟩) rfl, (), ?_, ?_⟩
  all_goals first | rfl | exact ⟨⟨_, rfl, ChE.cells ⟨AVE.refl _, AVE.refl _, AVE.nil _ _, AVE.refl _, rfl⟩⟩, ⟨_, rfl, ChE.refl _⟩, ⟨_, rfl, ChE.refl _⟩, trivial, trivial⟩
end
end Go.Proofs.Yteeifedpabcehaa.Ax
