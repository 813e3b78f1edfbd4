/-
  Files.
-/
import Derived.Test.YtgfkepebfaiepaaGreatDoorQm
import Derived.Test.YtgfkepebfaiepaaGreatDoorQt
import Derived.Test.YtgfkepebfaiepaaGreatDoorQz
namespace Go.Proofs.YtgfkepebfaiepaaGreatDoor.Ax
open Go.RowKit
set_option maxRecDepth 100000
inductive Dd where
 | add (l : List UInt8)
 | cut (n : Nat)
def Dd.iv : Dd → IV
 | .add l => .ifc 317 (.bs l)
 | .cut n => .ifc 269 (.v (.int .i64 n))
def Dd.units : Dd → Nat
 | .add l => l.length
 | .cut _ => 1
def Dd.does (d : Dd) (b : List UInt8) (n : Nat) : List UInt8 := match d with
 | .add l => b ++ l.take n
 | .cut c => if n = 0 then b else b.take c
structure FI where
 safe : List UInt8
 now : List UInt8
 ds : List Dd
def ddF (l : List Dd) (i : Nat) : List IV := [(l.getD i (.cut 0)).iv]
def FI.H (f : FI) : AH := ⟨2, [(0, .cells 230 [.iv (.bs f.safe), .iv (.bs f.now), .row 1 1 0 f.ds.length]), (1, .rowc 256 1 f.ds.length (ddF f.ds))]⟩
theorem fi_root : Root FI.H := fun _ => ⟨_, _, List.mem_cons_self ..⟩
theorem bclone_ok (l : List UInt8) (hl : l.length ≤ 140737488355328) : AFn Go.Proofs.Tryz.prog 171 [.iv (.bs l)] ⟨0, []⟩ (fun _ : Unit => .iv (.bs l)) (fun _ => ⟨0, []⟩) := by
 refine ACall.fin ?_
 refine ACall.walk (C := cfg 8 0) (cfgOk _ _) [] (fn := Go.Proofs.Tryz.f171) (by kernel_rfl) (by kernel_rfl) rfl (by kernel_rfl) (by kernel_rfl) rfl rfl ?_
 conv => whnf
 cases l with
 | nil =>
   conv => whnf
   refine ⟨?_, ?_⟩
   ·conv => whnf
    exact ⟨AV.iv (IV.bs []), ⟨0, []⟩, Ent.mk' [] (by kernel_rfl) ⟨AVE.nilBs, trivial⟩ trivial, (), rfl, rfl⟩
   ·conv => whnf
    refine And.intro (by first | omega | (simp -iota; omega) | (simp -iota; done) | decide) ?_
    conv => whnf
    refine And.intro (by first | omega | (simp -iota; omega) | (simp -iota; done) | decide) ?_
    conv => whnf
    exact ⟨.iv (.bs []), ⟨0, []⟩, (Ent.freeze 1 _ rfl rfl (e' := [(0, .iv (.bs []))]) ⟨AVF.bs (by simp) (by simp), trivial⟩).trans (Ent.mk' [] (by kernel_rfl) ⟨AVE.refl _, trivial⟩ trivial), (), rfl, rfl⟩
 | cons x xs =>
   conv => whnf
   refine And.intro (by first | omega | (simp -iota; omega) | (simp -iota; done) | decide) ?_
   conv => whnf
   refine And.intro (by first | omega | (simp -iota; omega) | (simp -iota; done) | decide) ?_
   conv => whnf
   exact ⟨.iv (.bs (x :: xs)), ⟨0, []⟩, (Ent.freeze 1 _ rfl rfl (e' := [(0, .iv (.bs (x :: xs)))]) ⟨AVF.bs (by simp) (by simp), trivial⟩).trans (Ent.mk' [] (by kernel_rfl) ⟨AVE.refl _, trivial⟩ trivial), (), rfl, rfl⟩
theorem bcloneR_ok (l : List UInt8) (hl : l.length ≤ 140737488355328) : AFn Go.Proofs.Tryz.prog 171 [.iv (.bs l)] ⟨0, []⟩ (fun _ : Unit => .row 0 1 0 l.length) (fun _ => ⟨1, [(0, .brow 5 l)]⟩) := by
 refine ACall.fin ?_
 refine ACall.walk (C := cfg 8 0) (cfgOk _ _) [] (fn := Go.Proofs.Tryz.f171) (by kernel_rfl) (by kernel_rfl) rfl (by kernel_rfl) (by kernel_rfl) rfl rfl ?_
 conv => whnf
 cases l with
 | nil =>
   conv => whnf
   refine ⟨?_, ?_⟩
   ·conv => whnf
    refine ⟨_, _, Ent.mk' (e' := [(0, .row 0 1 0 0)]) (H' := ⟨1, [(0, .brow 5 [])]⟩) [none] (by kernel_rfl) ?_ ?_, (), rfl, rfl⟩
    ·exact ⟨AVE.nil _ _, trivial⟩
    ·exact ⟨trivial, trivial⟩
   ·refine goA ?_
    refine ⟨_, _, Ent.mk' (e' := [(0, .row 0 1 0 0)]) (H' := ⟨1, [(0, .brow 5 [])]⟩) [some 1] (by kernel_rfl) ?_ ?_, (), rfl, rfl⟩
    ·exact ⟨AVE.refl _, trivial⟩
    ·exact subC
 | cons x xs =>
   refine goA ?_
   refine ⟨_, _, Ent.mk' (e' := [(0, .row 0 1 0 (x :: xs).length)]) (H' := ⟨1, [(0, .brow 5 (x :: xs))]⟩) [some 1] (by kernel_rfl) ?_ ?_, (), rfl, rfl⟩
   ·exact ⟨AVE.len (by simp), trivial⟩
   ·exact subC
theorem addU_ok (l : List UInt8) : AFn Go.Proofs.Tryz.prog 357 [.iv (.bs l)] ⟨0, []⟩ (fun _ : Unit => AV.int .i64 l.length) (fun _ => ⟨0, []⟩) := by
 refine ACall.walk (C := cfg 5 0) (cfgOk _ _) [] (fn := Go.Proofs.Tryz.f357) (by kernel_rfl) (by kernel_rfl) rfl (by kernel_rfl) (by kernel_rfl) rfl rfl ?_
 conv => whnf
 exact ⟨(), rfl, rfl⟩
theorem addD_ok (a b : List UInt8) (n : Nat) (hn : n ≤ a.length) (hb : b.length + a.length ≤ 100000000) : AFn Go.Proofs.Tryz.prog 356 [.iv (.bs a), .row 0 1 0 b.length, AV.int .i64 n] ⟨1, [(0, .brow 5 b)]⟩ (fun _ : Unit => .row 1 1 0 ((Dd.add a).does b n).length) (fun _ => ⟨2, [(1, .brow 5 ((Dd.add a).does b n))]⟩) := by
 refine ACall.fin ?_
 refine ACall.walk (C := cfg 12 1) (cfgOk _ _) [] (fn := Go.Proofs.Tryz.f356) (by kernel_rfl) (by kernel_rfl) rfl (by kernel_rfl) (by kernel_rfl) rfl rfl ?_
 refine goA ?_
 have e : List.take b.length b ++ List.take ((n : Int).toNat - Int.toNat 0) (List.drop (Int.toNat 0) a) = (Dd.add a).does b n := by simp [Dd.does]
 rw [e]
 refine ⟨_, _, Ent.mk' (e' := [(0, .row 1 1 0 ((Dd.add a).does b n).length)]) (H' := ⟨2, [(1, .brow 5 ((Dd.add a).does b n))]⟩) [some 0, some 1] (by kernel_rfl) ?_ ?_, (), rfl, rfl⟩
 ·exact ⟨AVE.len (by rw [← e]; simp), trivial⟩
 ·exact subC
theorem addF_ok (a b : List UInt8) (n : Nat) (hn : n ≤ a.length) (hb : b.length + a.length ≤ 100000000) : AFn Go.Proofs.Tryz.prog 356 [.iv (.bs a), .row 0 1 0 b.length, AV.int .i64 n] ⟨1, [(0, .brow 5 b)]⟩ (fun _ : Unit => .iv (.bs ((Dd.add a).does b n))) (fun _ => ⟨1, []⟩) :=
 ACall.fin ((addD_ok a b n hn hb).mono (fun _ _ ⟨_, e1, e2⟩ => by
  subst e1 e2
  exact ⟨_, _, (Ent.freeze 1 _ rfl rfl (e' := [(0, .iv (.bs ((Dd.add a).does b n)))]) ⟨AVF.bs (by simp) (by simp), trivial⟩).trans (Ent.mk' (H' := ⟨1, []⟩) [some 0] (by kernel_rfl) ⟨AVE.refl _, trivial⟩ trivial), (), rfl, rfl⟩) fun _ _ h => h)
section
variable (f : FI)
theorem size_in : AFn Go.Proofs.Tryz.prog 80 [.ptr 0 0] f.H (fun _ : Unit => AV.int .i64 f.now.length) (fun _ => f.H) := by
 refine ACall.walk (C := cfg 10 2) (cfgOk _ _) [] (fn := Go.Proofs.Tryz.f80) (by kernel_rfl) (by kernel_rfl) rfl (by kernel_rfl) (by kernel_rfl) rfl rfl ?_
 conv => whnf
 exact ⟨(), rfl, rfl⟩
theorem size_ok : AFn Go.Proofs.Tryz.prog 80 [.ptr 0 0] (one f.H) (fun _ : Unit => AV.int .i64 f.now.length) (fun _ => one f.H) := AFn.shut (size_in f) rfl rfl (fun _ => ⟨by kernel_rfl, by kernel_rfl⟩) (fun _ => (by repeat' first | exact trivial | refine ⟨rfl, ?_⟩)) (fun _ => rfl)
theorem rest_ok (b : List UInt8) (hb : b.length ≤ 140737488355328) : AFn Go.Proofs.Tryz.prog 172 [.ptr 0 0, .iv (.bs b)] (one f.H) (fun _ : Unit => .tup []) (fun _ => one (FI.H ⟨b, b, []⟩)) := by
 refine ACall.fin ?_
 refine ACall.walkE (C := cfg 16 1) (cfgOk _ _) [] (fn := Go.Proofs.Tryz.f172) (by kernel_rfl) (by kernel_rfl) rfl (by kernel_rfl) (by kernel_rfl) rfl rfl (H1 := f.H) (fun _ _ => (HEnt.openOne (f.H) rfl rfl).ent) fun hlen hheap => ?_
 refine goA ?_
 refine AFn.useA [] (bclone_ok b hb) fun _ => ?_
 refine goA ?_
 refine ⟨_, _, Ent.shutAt (r2 := .tup []) [some 0, some 1] (FI.H ⟨b, b, []⟩) rfl (by kernel_rfl) (AVE.of_eq ?_) ?_ (by kernel_rfl) (by kernel_rfl) (by repeat' first | exact trivial | refine ⟨rfl, ?_⟩) rfl, (), ?_, ?_⟩
 all_goals first | rfl | exact ⟨⟨_, rfl, ChE.cells ⟨AVE.refl _, AVE.refl _, AVE.nil _ _, rfl⟩⟩, ⟨_, rfl, ChE.row (Nat.zero_le _) fun i hi => absurd hi (Nat.not_lt_zero _)⟩, trivial⟩
theorem fsync_ok (hb : f.now.length ≤ 140737488355328) : AFn Go.Proofs.Tryz.prog 180 [.ptr 0 0] (one f.H) (fun _ : Unit => AV.int .i64 0) (fun _ => one (FI.H ⟨f.now, f.now, []⟩)) := by
 refine ACall.fin ?_
 refine ACall.walkE (C := cfg 11 1) (cfgOk _ _) [] (fn := Go.Proofs.Tryz.f180) (by kernel_rfl) (by kernel_rfl) rfl (by kernel_rfl) (by kernel_rfl) rfl rfl (H1 := f.H) (fun _ _ => (HEnt.openOne (f.H) rfl rfl).ent) fun hlen hheap => ?_
 refine goA ?_
 refine ACall.hent (HEnt.close [0, 1] 0 f.H (by kernel_rfl) (by repeat' first | exact trivial | refine ⟨rfl, ?_⟩)) ?_
 refine AFn.useA [0] (rest_ok f f.now hb) fun _ => ?_
 refine ⟨_, HEnt.refl _, ?_⟩
 refine goA ?_
 refine ⟨_, _, Ent.mk' (e' := [(0, AV.int .i64 0)]) (H' := one (FI.H ⟨f.now, f.now, []⟩)) [some 0] (by kernel_rfl) ?_ ?_, (), rfl, rfl⟩
 ·exact ⟨AVE.refl _, trivial⟩
 ·exact subC
theorem ddF_push {e : Nat} {l : List Dd} {p : Dd} {g : Nat → List IV} (hg : g 0 = [p.iv]) : ChE (.rowc e 1 (l.length + 1) fun j => if j < l.length then ddF l j else g (j - l.length)) (.rowc e 1 (l ++ [p]).length (ddF (l ++ [p]))) := by
 refine ChE.row (by simp) fun j hj => ?_
 by_cases h : j < l.length
 ·simp only [if_pos h]
  unfold ddF
  simp [List.getD, List.getElem?_append_left, h]
 ·have : j = l.length := by simp at hj; omega
  subst this
  simp only [if_neg h, Nat.sub_self]
  rw [hg]
  simp [ddF]
def FI.did (f : FI) (d : Dd) : FI := ⟨f.safe, d.does f.now d.units, f.ds ++ [d]⟩
theorem done_add (a : List UInt8) (hb : f.now.length + a.length ≤ 100000000) (hl : f.ds.length ≤ 100000) : AFn Go.Proofs.Tryz.prog 188 [.ptr 0 0, .iv (Dd.add a).iv] (one f.H) (fun _ : Unit => .tup []) (fun _ => one (f.did (.add a)).H) := by
 refine ACall.fin ?_
 refine ACall.walkE (C := cfg 29 1) (cfgOk _ _) sch188 (fn := Go.Proofs.Tryz.f188) (by kernel_rfl) (by kernel_rfl) rfl (by kernel_rfl) (by kernel_rfl) rfl rfl (H1 := f.H) (fun _ _ => (HEnt.openOne (f.H) rfl rfl).ent) fun hlen hheap => ?_
 refine goA ?_
 repeat' (first | (refine And.intro ?_ ?_ <;> (refine goA ?_)) | (refine AFn.useA [] (bcloneR_ok f.now (by omega)) fun _ => ?_; (refine goA ?_)) | (refine AFn.useA [] (addU_ok a) fun _ => ?_; (refine goA ?_)))
 all_goals
  refine AFn.useA [2] (addF_ok a f.now a.length (Nat.le_refl _) (by omega)) fun _ => ?_
  refine goA ?_
  refine ⟨_, _, Ent.shutAt (r2 := .tup []) [some 0, some 4] (FI.H (f.did (.add a))) rfl (by kernel_rfl) (AVE.of_eq ?_) ?_ (by kernel_rfl) (by kernel_rfl) (by repeat' first | exact trivial | refine ⟨rfl, ?_⟩) rfl, (), ?_, ?_⟩
  all_goals first | rfl | exact ⟨⟨_, rfl, ChE.cells ⟨AVE.refl _, AVE.refl _, AVE.len (by simp [FI.did]), rfl⟩⟩, ⟨_, rfl, ddF_push rfl⟩, trivial⟩
end
end Go.Proofs.YtgfkepebfaiepaaGreatDoor.Ax

namespace Go.Proofs.YtgfkepebfaiepaaGreatDoor.Ax
open Go.RowKit
set_option maxRecDepth 100000
theorem AVE.tupE {xs ys : List AV} (h : cellsE xs ys) : AVE (.tup xs) (.tup ys) := ⟨fun ρ ι v hr => by
 simp only [AV.R] at hr ⊢
 obtain ⟨vs, e, r⟩ := hr
 exact ⟨vs, e, argsE_run h r⟩⟩
section
variable (f : FI)
def FI.app (f : FI) (b : List UInt8) : FI := if b = [] then f else f.did (.add b)
theorem fapp_ok (b : List UInt8) (hb : f.now.length + b.length ≤ 100000000) (hl : f.ds.length ≤ 100000) : AFn Go.Proofs.Tryz.prog 185 [.ptr 0 0, .iv (.bs b)] (one f.H) (fun _ : Unit => AV.int .i64 0) (fun _ => one (f.app b).H) := by
 refine ACall.fin ?_
 refine ACall.walk (C := cfg 15 1) (cfgOk _ _) [] (fn := Go.Proofs.Tryz.f185) (by kernel_rfl) (by kernel_rfl) rfl (by kernel_rfl) (by kernel_rfl) rfl rfl ?_
 cases b with
 | nil =>
   refine goA ?_
   refine ⟨_, _, Ent.mk' (e' := [(0, AV.int .i64 0)]) (H' := one f.H) [some 0] (by kernel_rfl) ?_ ?_, (), rfl, rfl⟩
   ·exact ⟨AVE.refl _, trivial⟩
   ·exact subC
 | cons x xs =>
   have e : f.app (x :: xs) = f.did (.add (x :: xs)) := if_neg (by simp)
   rw [e]
   refine goA ?_
   refine ifdA (fun g => ?_) (fun g => ?_) <;> (try dsimp only at g)
   ·refine goA ?_
    refine AFn.useA [] (bclone_ok (x :: xs) (by omega)) fun _ => ?_
    refine goA ?_
    refine AFn.useA [0] (done_add f (x :: xs) hb hl) fun _ => ?_
    refine goA ?_
    refine ⟨_, _, Ent.mk' (e' := [(0, AV.int .i64 0)]) (H' := one (f.did (.add (x :: xs))).H) [some 0] (by kernel_rfl) ?_ ?_, (), rfl, rfl⟩
    ·exact ⟨AVE.refl _, trivial⟩
    ·exact subC
   ·exfalso
    simp at g
def FI.cut (f : FI) (n : Int) : FI := if 0 ≤ n ∧ n < (f.now.length : Int) then f.did (.cut n.toNat) else f
def FI.readE (f : FI) (at' n : Int) : Int := if at' < 0 ∨ n < 0 then 1 else if (f.now.length : Int) < at' ∨ (f.now.length : Int) - at' < n then 4 else 0
def FI.read (f : FI) (at' n : Int) : List UInt8 := if f.readE at' n = 0 then (f.now.drop at'.toNat).take n.toNat else []
theorem bcloneN_ok : AFn Go.Proofs.Tryz.prog 171 [.iv (.v (.slice none 0 0))] ⟨0, []⟩ (fun _ : Unit => .iv (.v (.slice none 0 0))) (fun _ => ⟨0, []⟩) := by
 refine ACall.walk (C := cfg 8 0) (cfgOk _ _) [] (fn := Go.Proofs.Tryz.f171) (by kernel_rfl) (by kernel_rfl) rfl (by kernel_rfl) (by kernel_rfl) rfl rfl ?_
 conv => whnf
 exact ⟨(), rfl, rfl⟩
theorem fnew_ok : AFn Go.Proofs.Tryz.prog 207 [.iv (.v (.slice none 0 0))] ⟨0, []⟩ (fun _ : Unit => .ptr 0 0) (fun _ => one (FI.H ⟨[], [], []⟩)) := by
 refine ACall.fin ?_
 refine ACall.walk (C := cfg 9 0) (cfgOk _ _) [] (fn := Go.Proofs.Tryz.f207) (by kernel_rfl) (by kernel_rfl) rfl (by kernel_rfl) (by kernel_rfl) rfl rfl ?_
 refine goA ?_
 refine AFn.useA [] (bcloneN_ok) fun _ => ?_
 refine goA ?_
 refine AFn.useA [] (bcloneN_ok) fun _ => ?_
 refine goA ?_
 refine ⟨_, _, Ent.shutAt (r2 := .ptr 0 0) [some 0, none] (FI.H ⟨[], [], []⟩) rfl (by kernel_rfl) (AVE.of_eq ?_) ?_ (by kernel_rfl) (by kernel_rfl) (by repeat' first | exact trivial | refine ⟨rfl, ?_⟩) rfl, (), ?_, ?_⟩
 all_goals first | rfl | exact ⟨⟨_, rfl, ChE.cells ⟨AVE.nilBs, AVE.nilBs, AVE.nil _ _, rfl⟩⟩, trivial, trivial⟩
def fl (l : List Dd) : Nat := (l.map Dd.units).sum
end
end Go.Proofs.YtgfkepebfaiepaaGreatDoor.Ax

namespace Go.Proofs.YtgfkepebfaiepaaGreatDoor.Ax
open Go.RowKit
set_option maxRecDepth 100000
section
variable (f : FI)
end
end Go.Proofs.YtgfkepebfaiepaaGreatDoor.Ax

namespace Go.Proofs.YtgfkepebfaiepaaGreatDoor.Ax
open Go.RowKit
set_option maxRecDepth 100000
def crS (K : Nat) (s : Nat × List UInt8) (d : Dd) : Nat × List UInt8 := (s.1 + min d.units (K - s.1), d.does s.2 (min d.units (K - s.1)))
def crB (K : Nat) (s : List UInt8) (l : List Dd) : Nat × List UInt8 := l.foldl (crS K) (0, s)
def full (s : List UInt8) (l : List Dd) : List UInt8 := l.foldl (fun b d => d.does b d.units) s
theorem does_len (d : Dd) (b : List UInt8) (n : Nat) : (d.does b n).length ≤ b.length + d.units := by
 cases d with
 | add a => simp [Dd.does, Dd.units]; omega
 | cut c => simp only [Dd.does]; split <;> simp <;> omega
theorem cr_len (K : Nat) : ∀ (l : List Dd) (s : Nat × List UInt8), (l.foldl (crS K) s).2.length ≤ s.2.length + fl l
 | [], _ => by simp [fl]
 | d :: l, s => by
   have h1 := cr_len K l (crS K s d)
   have h2 := does_len d s.2 (min d.units (K - s.1))
   simp only [fl, List.map_cons, List.sum_cons] at h1 ⊢
   simp only [List.foldl_cons]
   simp only [crS] at h1 ⊢
   omega
def FI.Vd (f : FI) : Prop := ∀ i c, i < f.ds.length → f.ds.getD i (.cut 0) = .cut c → c ≤ (full f.safe (f.ds.take i)).length
def FI.crash (f : FI) (K : Nat) : FI := ⟨(crB K f.safe f.ds).2, (crB K f.safe f.ds).2, []⟩
theorem ACall.freezeB {P : Program} {F : FuncId} {args : List AV} {H : AH} {K QP : AV → AH → Prop} (h : Nat) {e : TypeId} {l : List UInt8} (hc : H.get h = some (.brow e l)) (args0 : List AV) (ha : argsF h (.brow e l) args args0) (hcall : ACall P F args0 (H.del h) K QP) : ACall P F args H K QP :=
 ⟨hcall.fn, fun ρ ι w cargs hG hS hr => by
  have key : ∃ ι', Imm.le ι ι' ∧ SR ρ ι' (H.del h) w ∧ Went ρ ι H w ρ ι' (H.del h) w ∧ Fr ρ ι' h (.brow e l) := by
   obtain ⟨hv, hhr, hR⟩ := hS.hv hc
   rcases hR with ⟨h1, _, _⟩ | ⟨b, arr, fr, h1, h2, h3, h4, h5, h6, h7⟩
   ·exact ⟨ι, Imm.le.refl _, (hS.drop h).1, (hS.drop h).2, fun hv' b g1 g2 => by rw [hhr] at g1; injection g1 with g1; rw [← g1, h1] at g2; cases g2⟩
   ·obtain ⟨q1, q2, q3⟩ := hS.freeze hc hhr ((h2 b).2 rfl) (fun o => if o < l.length then some (.int .u8 ((l.getD o 0).toNat : Int)) else none) (fun o v hg => by
     split at hg
     ·rename_i ho
      injection hg with hg
      subst hg
      exact ⟨cellAt h3 (h7 o ho), rfl⟩
     ·cases hg)
    refine ⟨_, q1, q2, q3, fun hv' b' g1 g2 i hi => ?_⟩
    rw [hhr] at g1
    injection g1 with g1
    rw [← g1, h1] at g2
    injection g2 with g2
    subst g2
    simp only [if_true, if_pos hi]
  obtain ⟨ι', q1, q2, q3, q4⟩ := key
  refine (hcall.run ρ ι' w cargs (hG.mono q1) q2 (argsF_run q1 q4 ha hr)).mono fun en w' hp => ?_
  cases en with
  | returned v => obtain ⟨r, H', ρ', ι2, k, g1, g2, g3⟩ := hp; exact ⟨r, H', ρ', ι2, k, g1, g2, q3.trans g3⟩
  | panicked ch => obtain ⟨v, e, r, H', ρ', ι2, k, g1, g2, g3⟩ := hp; exact ⟨v, e, r, H', ρ', ι2, k, g1, g2, q3.trans g3⟩
  | outgrown => exact hp⟩
section
variable (f : FI)
end
end Go.Proofs.YtgfkepebfaiepaaGreatDoor.Ax
