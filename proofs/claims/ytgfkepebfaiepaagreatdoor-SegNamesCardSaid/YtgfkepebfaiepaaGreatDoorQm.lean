/-
  Folders: names, calls, crashes.
-/
import Derived.Test.YtgfkepebfaiepaaGreatDoorQt
import Derived.Test.YtgfkepebfaiepaaGreatDoorQz
import Derived.Laws.RangeString
import Derived.Laws.RangeAny
namespace Go.Proofs.YtgfkepebfaiepaaGreatDoor.Ax
open Go.RowKit
set_option maxRecDepth 100000
def frzF : Op → Bool
 | .makeFunc .. => true
 | _ => false
noncomputable def cfg (N b : Nat) : Cfg := { P := Go.Proofs.Tryz.prog, T := tt, wr := false, N := N, pure := [], base := b, frz := frzF }
theorem cfgOk (N b : Nat) : (cfg N b).Ok := ⟨ttOk, ttBytes, by kernel_rfl⟩
theorem AFn.below {P : Program} {F : FuncId} {args : List IV} {r : Value} (h : AFn P F (args.map AV.iv) ⟨0, []⟩ (fun _ : Unit => .iv (.v r)) (fun _ => ⟨0, []⟩)) {W : World} (hG : GOk (immOf W)) {vs : List Value} (hr : IV.Rs (immOf W) args vs) : Calls P F vs.toArray W fun e W' => e = .returned r ∧ Below W.heap.size W W' := by
 refine (h.run _ _ W vs hG (SR.start W) ((Rs_iv _ _).2 hr)).mono fun e w' hp => ?_
 cases e with
 | returned v =>
   obtain ⟨r', H', ρ', ι', ⟨x, e1, e2⟩, h1, h2, h3⟩ := hp
   subst e1 e2
   simp only [AV.R, IV.R] at h1
   subst h1
   have ht := h3.touch
   exact ⟨rfl, ht.os, ht.tape, ht.output, ht.size, fun k hk => ht.block k hk fun ⟨p, hp, _⟩ => by cases hp⟩
 | panicked ch => obtain ⟨v, _, r, H', ρ', ι', h, _⟩ := hp; exact h.elim
 | outgrown => exact hp.elim
theorem GOk.now {ρ : Rho} {ι : Imm} {H : AH} {w : World} (hG : GOk ι) (hS : SR ρ ι H w) : GOk (immOf w) := hG.mono fun b o v h => immOf_mk (hS.imm b o v h) (hS.one b o v h)
theorem GOk.below {w W : World} (hG : GOk (immOf w)) (hb : Below w.heap.size w W) : GOk (immOf W) := hG.mono fun b o v h => by
 obtain ⟨h1, h2⟩ := immOf_cell h
 exact immOf_mk ((hb.cell (World.block_lt_of_cell? w _ h1)).trans h1) h2
theorem AFn.lib {P : Program} {f : FuncId} {args : List IV} {r : Value} (hfn : ∃ fn, P.funcs[f]? = some fn ∧ (fn.name == "runtime.NumGoroutine") = false ∧ fn.body.isNone = false) (h : ∀ ι w vs, GOk (immOf w) → IV.Rs ι args vs → Calls P f vs.toArray w fun e w' => e = .returned r ∧ Below w.heap.size w w') :
 AFn P f (args.map AV.iv) ⟨0, []⟩ (fun _ : Unit => .iv (.v r)) (fun _ => ⟨0, []⟩) :=
 ⟨hfn, fun ρ ι w cargs hG hS hr => by
  refine (h ι w cargs (hG.now hS) ((Rs_iv _ _).1 hr)).mono fun e w' ⟨he, hb⟩ => ?_
  subst he
  have ht : Touch (fun _ => False) w w' := ⟨hb.os, hb.tape, hb.output, hb.size, fun k hk _ => hb.block k hk⟩
  obtain ⟨_, q2, q3⟩ := hS.addImm ht w.heap.size (Nat.le_refl _) (fun _ => none) (fun o v h => by cases h)
  exact ⟨.iv (.v r), _, ρ, _, ⟨(), rfl, rfl⟩, by simp only [AV.R, IV.R], q2, q3⟩⟩
def okC (r : Nat) : Bool := decide (97 ≤ r ∧ r ≤ 122) || decide (48 ≤ r ∧ r ≤ 57) || decide (r = 45) || decide (r = 46)
def oddC (r : Nat) : Bool := !okC r
theorem odd_ok (r : Nat) : AFn Go.Proofs.Tryz.prog 291 [.iv (.v (.int .i32 (r : Nat)))] ⟨0, []⟩ (fun _ : Unit => AV.bool (oddC r)) (fun _ => ⟨0, []⟩) := by
 refine ACall.walk (C := cfg 25 0) (cfgOk _ _) [] (fn := Go.Proofs.Tryz.f291) (by kernel_rfl) (by kernel_rfl) rfl (by kernel_rfl) (by kernel_rfl) rfl rfl ?_
 refine goA ?_
 repeat' (refine branchB_of (fun h => ?_) (fun h => ?_) <;> (refine goA ?_))
 all_goals
  refine ⟨(), ?_, rfl⟩
  congr 3
  simp only [decide_eq_true_eq, decide_eq_false_iff_not] at *
  unfold oddC okC
  rw [Bool.eq_iff_iff]
  simp only [decide_eq_true_eq, Bool.not_eq_true', Bool.or_eq_false_iff, decide_eq_false_iff_not, Bool.false_eq_true]
  first | omega | (refine ⟨fun hf => hf.elim, fun h3 => ?_⟩; exfalso; omega)
theorem idxF_all (s : ByteArray) : ∀ (f pos : Nat), s.size ≤ pos + f → (Lib.idxFuncFrom oddC true s f pos < 0 ↔ ∀ i (h : i < s.size), pos ≤ i → okC (s[i]'h).toNat = true)
 | 0, pos, hf => by
   simp only [Lib.idxFuncFrom]
   constructor
   ·intro _ i h hp
    omega
   ·intro _
    omega
 | f + 1, pos, hf => by
   unfold Lib.idxFuncFrom
   by_cases hp : pos < s.size
   ·rw [if_pos hp]
    by_cases ha : (s[pos]'hp).toNat < 128
    ·rw [Go.decode_ascii s pos hp ha]
     simp only
     cases hk : okC (s[pos]'hp).toNat with
     | true =>
       rw [if_neg (by simp [oddC, hk]), idxF_all s f (pos + 1) (by omega)]
       constructor
       ·intro h i hi hpi
        rcases Nat.eq_or_lt_of_le hpi with e | e
        ·subst e; exact hk
        ·exact h i hi e
       ·intro h i hi hpi
        exact h i hi (by omega)
     | false =>
       rw [if_pos (by simp [oddC, hk])]
       constructor
       ·intro h
        omega
       ·intro h
        rw [h pos hp (Nat.le_refl _)] at hk
        cases hk
    ·obtain ⟨h1, h2⟩ := Go.decode_high s pos hp (by omega)
     have hk : okC (Utf8.decode s pos).1 = false := by
      simp only [okC, Bool.or_eq_false_iff, decide_eq_false_iff_not]
      omega
     have hk2 : okC (s[pos]'hp).toNat = false := by
      simp only [okC, Bool.or_eq_false_iff, decide_eq_false_iff_not]
      omega
     rw [if_pos (by simp [oddC, hk])]
     constructor
     ·intro h
      omega
     ·intro h
      rw [h pos hp (Nat.le_refl _)] at hk2
      cases hk2
   ·rw [if_neg hp]
    constructor
    ·intro _ i h hpi
     omega
    ·intro _
     omega
def mayB (x : List UInt8) : Bool := decide (1 ≤ x.length ∧ x.length ≤ 32) && x.all fun c => okC c.toNat
theorem idx_may (x : List UInt8) : (Lib.idxFunc oddC true ⟨x.toArray⟩ < 0) ↔ (x.all fun c => okC c.toNat) = true := by
 unfold Lib.idxFunc
 rw [idxF_all _ _ _ (by omega), List.all_eq_true]
 constructor
 ·intro h c hc
  obtain ⟨i, hi, e⟩ := List.getElem_of_mem hc
  have := h i (show i < x.toArray.size by simpa using hi) (Nat.zero_le _)
  rw [← e]
  have e2 : (⟨x.toArray⟩ : ByteArray)[i]'(show i < x.toArray.size by simpa using hi) = x[i] := by show x.toArray[i] = _; simp
  rw [e2] at this
  exact this
 ·intro h i hi _
  have hi' : i < x.length := by have : i < x.toArray.size := hi; simpa using this
  have := h x[i] (List.getElem_mem hi')
  have e2 : (⟨x.toArray⟩ : ByteArray)[i]'hi = x[i] := by show x.toArray[i]'hi = _; simp
  rw [e2]
  exact this
theorem idx_ok (x : List UInt8) : AFn Go.Proofs.Tryz.prog 292 [.str x, .iv (.v (.func (.func 291) ⟨[]⟩ ⟨[]⟩))] ⟨0, []⟩ (fun _ : Unit => AV.int .i64 (Lib.idxFunc oddC true ⟨x.toArray⟩)) (fun _ => ⟨0, []⟩) := by
 refine AFn.lib (args := [.str x, .v (.func (.func 291) ⟨[]⟩ ⟨[]⟩)]) ⟨_, Tryz.func292, by kernel_rfl, by kernel_rfl⟩ fun ι w vs hG hr => ?_
 simp only [IV.Rs, IV.R] at hr
 obtain ⟨u, us, rfl, rfl, u', us', rfl, rfl, rfl⟩ := hr
 refine Any.strings_IndexFunc_grows (P := Go.Proofs.Tryz.prog) Tryz.idxfn 291 #[] (enters_of Tryz.func291 (by kernel_rfl) rfl) oddC ⟨x.toArray⟩ w fun W r _ hb => ?_
 exact AFn.below (args := [.v (.int .i32 (r : Nat))]) (odd_ok r) (hG.below hb) ⟨_, _, rfl, rfl, rfl⟩
theorem may_ok (x : List UInt8) : AFn Go.Proofs.Tryz.prog 243 [.str x] ⟨0, []⟩ (fun _ : Unit => AV.bool (mayB x)) (fun _ => ⟨0, []⟩) := by
 refine ACall.fin ?_
 refine ACall.walk (C := cfg 18 0) (cfgOk _ _) [] (fn := Go.Proofs.Tryz.f243) (by kernel_rfl) (by kernel_rfl) rfl (by kernel_rfl) (by kernel_rfl) rfl rfl ?_
 refine goA ?_
 refine ifdA (fun h1 => ?_) (fun h1 => ?_) <;> (try dsimp only at h1)
 ·refine goA ?_
  refine ifdA (fun h2 => ?_) (fun h2 => ?_) <;> (try dsimp only at h2)
  ·refine goA ?_
   refine AFn.useA [] (idx_ok x) fun _ => ?_
   refine goA ?_
   refine ⟨_, _, Ent.mk' (e' := [(0, AV.bool (mayB x))]) (H' := ⟨0, []⟩) [] (by kernel_rfl) ?_ ?_, (), rfl, rfl⟩
   ·refine ⟨AVE.bool ?_, trivial⟩
    unfold mayB
    rw [decide_eq_true (show 1 ≤ x.length ∧ x.length ≤ 32 by omega), Bool.true_and, Bool.eq_iff_iff, decide_eq_true_eq]
    exact idx_may x
   ·trivial
  ·have e : mayB x = false := by
    unfold mayB
    rw [decide_eq_false (show ¬ (1 ≤ x.length ∧ x.length ≤ 32) by omega), Bool.false_and]
   rw [e]
   refine goA ?_
   refine ⟨_, _, Ent.mk' (e' := [(0, AV.bool false)]) (H' := ⟨0, []⟩) [] (by kernel_rfl) ?_ ?_, (), rfl, rfl⟩
   ·exact ⟨AVE.refl _, trivial⟩
   ·trivial
 ·have e : mayB x = false := by
   unfold mayB
   rw [decide_eq_false (show ¬ (1 ≤ x.length ∧ x.length ≤ 32) by omega), Bool.false_and]
  rw [e]
  refine goA ?_
  refine ⟨_, _, Ent.mk' (e' := [(0, AV.bool false)]) (H' := ⟨0, []⟩) [] (by kernel_rfl) ?_ ?_, (), rfl, rfl⟩
  ·exact ⟨AVE.refl _, trivial⟩
  ·trivial
end Go.Proofs.YtgfkepebfaiepaaGreatDoor.Ax

namespace Go.Proofs.YtgfkepebfaiepaaGreatDoor.Ax
open Go.RowKit
set_option maxRecDepth 100000
inductive Deed where
 | mk (x : List UInt8) (n : Nat)
 | rm (x : List UInt8)
instance : Inhabited Deed := ⟨.rm []⟩
abbrev NM := List (List UInt8 × Nat)
def un (n : Nat) : IV := .v (.int .u64 (n : Nat))
def Deed.iv : Deed → IV
 | .mk x n => .fnc (.func 258) [] [.pp [un n], .pp [.str x]]
 | .rm x => .fnc (.func 259) [] [.pp [.str x]]
def Deed.on : Deed → NM → NM
 | .mk x n, m => aput m x n
 | .rm x, m => adel m x
structure FD where
 safe : NM
 now : NM
 ds : List Deed
 last : Nat
def dF (ds : List Deed) (i : Nat) : List IV := [(ds.getD i default).iv]
@[reducible] def FD.H (f : FD) : AH := ⟨4, [(0, .cells 223 [.mp 1, .mp 2, .row 3 1 0 f.ds.length, AV.int .u64 f.last]), (1, .map none (smap un f.safe)), (2, .map none (smap un f.now)), (3, .rowc 246 1 f.ds.length (dF f.ds))]⟩
def FD.did (f : FD) (D : Deed) : FD := ⟨f.safe, D.on f.now, f.ds ++ [D], f.last⟩
theorem mput_un (l : NM) (x : List UInt8) (n : Nat) : mput (smap un l) (.s x) (.v (.int .u64 (n : Nat))) = smap un (aput l x n) := by
 rw [← mput_smap]
 rfl
theorem mk_ok (m : NM) (x : List UInt8) (n : Nat) : AFn Go.Proofs.Tryz.prog 258 [.mp 0, .iv (.pp [un n]), .iv (.pp [.str x])] ⟨1, [(0, .map none (smap un m))]⟩ (fun _ : Unit => .tup []) (fun _ => ⟨1, [(0, .map none (smap un (aput m x n)))]⟩) := by
 refine ACall.fin ?_
 refine ACall.walk (C := cfg 7 1) (cfgOk _ _) [] (fn := Go.Proofs.Tryz.f258) (by kernel_rfl) (by kernel_rfl) rfl (by kernel_rfl) (by kernel_rfl) rfl rfl ?_
 refine goA ?_
 rw [mput_un]
 refine ⟨_, _, Ent.mk' (e' := [(0, .tup [])]) (H' := ⟨1, [(0, .map none (smap un (aput m x n)))]⟩) [some 0] (by kernel_rfl) ?_ ?_, (), rfl, rfl⟩
 ·exact ⟨AVE.refl _, trivial⟩
 ·exact subC
theorem rm_ok (m : NM) (x : List UInt8) : AFn Go.Proofs.Tryz.prog 259 [.mp 0, .iv (.pp [.str x])] ⟨1, [(0, .map none (smap un m))]⟩ (fun _ : Unit => .tup []) (fun _ => ⟨1, [(0, .map none (smap un (adel m x)))]⟩) := by
 refine ACall.fin ?_
 refine ACall.walk (C := cfg 5 1) (cfgOk _ _) [] (fn := Go.Proofs.Tryz.f259) (by kernel_rfl) (by kernel_rfl) rfl (by kernel_rfl) (by kernel_rfl) rfl rfl ?_
 refine goA ?_
 rw [mdel_smap]
 refine ⟨_, _, Ent.mk' (e' := [(0, .tup [])]) (H' := ⟨1, [(0, .map none (smap un (adel m x)))]⟩) [some 0] (by kernel_rfl) ?_ ?_, (), rfl, rfl⟩
 ·exact ⟨AVE.refl _, trivial⟩
 ·exact subC
theorem dF_push {e : Nat} {l : List Deed} {p : Deed} {g : Nat → List IV} (hg : g 0 = [p.iv]) : ChE (.rowc e 1 (l.length + 1) fun j => if j < l.length then dF l j else g (j - l.length)) (.rowc e 1 (l ++ [p]).length (dF (l ++ [p]))) := by
 refine ChE.row (by simp) fun j hj => ?_
 by_cases h : j < l.length
 ·simp only [if_pos h]
  unfold dF
  simp [List.getD, List.getElem?_append_left, h]
 ·have : j = l.length := by simp at hj; omega
  subst this
  simp only [if_neg h, Nat.sub_self]
  rw [hg]
  simp [dF]
theorem mclone_ok (m : List (MK × IV)) : AFn Go.Proofs.Tryz.prog 163 [.mp 0] ⟨1, [(0, .map none m)]⟩ (fun _ : Unit => .mp 1) (fun _ => ⟨2, [(0, .map none m), (1, .map none m)]⟩) :=
 ⟨⟨_, Tryz.func163, by kernel_rfl, by kernel_rfl⟩, fun ρ ι w cargs hG hS hr => by
   simp only [AV.Rs, AV.R] at hr
   obtain ⟨u, us, rfl, ⟨hv, b, g1, g2, rfl⟩, rfl⟩ := hr
   obtain ⟨hv', q1, b', es, clock, k1, k2, k3, k4⟩ := hS.hv (k := 0) (c := .map none m) rfl
   rw [g1] at q1; injection q1 with q1; subst q1
   rw [g2] at k1; injection k1 with k1; subst k1
   have hC := AnyW.maps_Clone (P := Go.Proofs.Tryz.prog) Tryz.mclone b es clock w k3
   refine Calls.mono hC fun e w' ⟨he, hw⟩ => ?_
   subst he hw
   obtain ⟨s1, s2⟩ := hS.alloc (.map es clock) 0 (.map none m) ⟨w.heap.size, es, clock, rfl, fun _ => Iff.rfl, heap_alloc_new w _, k4⟩
   exact ⟨.mp 1, _, _, ι, ⟨(), rfl, rfl⟩, by simp only [AV.R]; exact ⟨_, _, Rho.upd_same _ _ _, rfl, rfl⟩, s1, s2⟩⟩
section
variable (f : FD)
theorem new_ok : AFn Go.Proofs.Tryz.prog 71 [] ⟨0, []⟩ (fun _ : Unit => .ptr 0 0) (fun _ => one (FD.H ⟨[], [], [], 0⟩)) := by
 refine ACall.fin ?_
 refine ACall.walk (C := cfg 5 0) (cfgOk _ _) [] (fn := Go.Proofs.Tryz.f71) (by kernel_rfl) (by kernel_rfl) rfl (by kernel_rfl) (by kernel_rfl) rfl rfl ?_
 refine goA ?_
 refine ⟨_, _, Ent.shutAt (r2 := .ptr 0 0) [some 2, some 0, some 1, none] (FD.H ⟨[], [], [], 0⟩) rfl (by kernel_rfl) (AVE.of_eq ?_) ?_ (by kernel_rfl) (by kernel_rfl) (by repeat' first | exact trivial | refine ⟨rfl, ?_⟩) rfl, (), ?_, ?_⟩
 all_goals first | rfl | exact ⟨⟨_, rfl, ChE.cells ⟨AVE.refl _, AVE.refl _, AVE.nil _ _, AVE.refl _, rfl⟩⟩, ⟨_, rfl, ChE.refl _⟩, ⟨_, rfl, ChE.refl _⟩, trivial, trivial⟩
theorem none_in : AFn Go.Proofs.Tryz.prog 149 [.ptr 0 0] f.H (fun _ : Unit => AV.bool false) (fun _ => f.H) := by
 refine ACall.walk (C := cfg 12 4) (cfgOk _ _) [] (fn := Go.Proofs.Tryz.f149) (by kernel_rfl) (by kernel_rfl) rfl (by kernel_rfl) (by kernel_rfl) rfl rfl ?_
 conv => whnf
 exact ⟨(), rfl, rfl⟩
def FD.findN (f : FD) (x : List UInt8) : Nat := (afind f.now x).getD 0
def FD.findB (f : FD) (x : List UInt8) : Bool := (afind f.now x).isSome
theorem find_in (x : List UInt8) : AFn Go.Proofs.Tryz.prog 244 [.ptr 0 0, .str x] f.H (fun _ : Unit => .tup [AV.int .u64 (f.findN x), AV.bool (f.findB x)]) (fun _ => f.H) := by
 refine ACall.fin ?_
 refine ACall.walk (C := cfg 21 4) (cfgOk _ _) [] (fn := Go.Proofs.Tryz.f244) (by kernel_rfl) (by kernel_rfl) rfl (by kernel_rfl) (by kernel_rfl) rfl rfl ?_
 refine goA ?_
 refine AFn.useA [0, 1, 2, 3] (none_in f) fun _ => ?_
 refine goA ?_
 rw [mfind_smap]
 refine ⟨fun y hy => ?_, fun hy => ?_⟩
 ·obtain ⟨z, hz, hz2⟩ := Option.map_eq_some_iff.1 hy
  obtain ⟨p, hp, rfl⟩ := Option.map_eq_some_iff.1 hz
  subst hz2
  have e1 : f.findN x = p := by simp [FD.findN, hp]
  have e2 : f.findB x = true := by simp [FD.findB, hp]
  rw [e1, e2]
  refine goA ?_
  refine ⟨_, _, Ent.mk' (e' := [(0, .tup [AV.int .u64 p, AV.bool true])]) (H' := f.H) [some 0, some 1, some 2, some 3] (by kernel_rfl) ?_ ?_, (), rfl, rfl⟩
  ·exact ⟨AVE.refl _, trivial⟩
  ·exact subC
 ·have hy := Option.map_eq_none_iff.1 (Option.map_eq_none_iff.1 hy)
  have e1 : f.findN x = 0 := by simp [FD.findN, hy]
  have e2 : f.findB x = false := by simp [FD.findB, hy]
  rw [e1, e2]
  refine goA ?_
  refine ⟨_, _, Ent.mk' (e' := [(0, .tup [AV.int .u64 0, AV.bool false])]) (H' := f.H) [some 0, some 1, some 2, some 3] (by kernel_rfl) ?_ ?_, (), rfl, rfl⟩
  ·exact ⟨AVE.refl _, trivial⟩
  ·exact subC
theorem find_ok (x : List UInt8) : AFn Go.Proofs.Tryz.prog 244 [.ptr 0 0, .str x] (one f.H) (fun _ : Unit => .tup [AV.int .u64 (f.findN x), AV.bool (f.findB x)]) (fun _ => one f.H) := AFn.shut (find_in f x) rfl rfl (fun _ => ⟨by kernel_rfl, by kernel_rfl⟩) (fun _ => (by repeat' first | exact trivial | refine ⟨rfl, ?_⟩)) (fun _ => rfl)
theorem do_ok (D : Deed) (hf : f.ds.length ≤ 1000) : AFn Go.Proofs.Tryz.prog 257 [.ptr 0 0, .iv D.iv] (one f.H) (fun _ : Unit => .tup []) (fun _ => one (f.did D).H) := by
 refine ACall.fin ?_
 refine ACall.walkE (C := cfg 20 1) (cfgOk _ _) [] (fn := Go.Proofs.Tryz.f257) (by kernel_rfl) (by kernel_rfl) rfl (by kernel_rfl) (by kernel_rfl) rfl rfl (H1 := f.H) (fun _ _ => (HEnt.openOne (f.H) rfl rfl).ent) fun hlen hheap => ?_
 cases D with
 | mk x n =>
   refine goA ?_
   refine AFn.useA [2] (mk_ok f.now x n) fun _ => ?_
   refine goA ?_
   refine ⟨_, _, Ent.shutAt (r2 := .tup []) [some 0, some 1, some 2, some 5] (FD.H (f.did (.mk x n))) rfl (by kernel_rfl) (AVE.of_eq ?_) ?_ (by kernel_rfl) (by kernel_rfl) (by repeat' first | exact trivial | refine ⟨rfl, ?_⟩) rfl, (), ?_, ?_⟩
   all_goals first | rfl | exact ⟨⟨_, rfl, ChE.cells ⟨AVE.refl _, AVE.refl _, AVE.len (by simp [FD.did]), AVE.refl _, rfl⟩⟩, ⟨_, rfl, ChE.refl _⟩, ⟨_, rfl, ChE.refl _⟩, ⟨_, rfl, dF_push (p := .mk x n) rfl⟩, trivial⟩ | exact subC
 | rm x =>
   refine goA ?_
   refine AFn.useA [2] (rm_ok f.now x) fun _ => ?_
   refine goA ?_
   refine ⟨_, _, Ent.shutAt (r2 := .tup []) [some 0, some 1, some 2, some 5] (FD.H (f.did (.rm x))) rfl (by kernel_rfl) (AVE.of_eq ?_) ?_ (by kernel_rfl) (by kernel_rfl) (by repeat' first | exact trivial | refine ⟨rfl, ?_⟩) rfl, (), ?_, ?_⟩
   all_goals first | rfl | exact ⟨⟨_, rfl, ChE.cells ⟨AVE.refl _, AVE.refl _, AVE.len (by simp [FD.did]), AVE.refl _, rfl⟩⟩, ⟨_, rfl, ChE.refl _⟩, ⟨_, rfl, ChE.refl _⟩, ⟨_, rfl, dF_push (p := .rm x) rfl⟩, trivial⟩ | exact subC
def FD.synced (f : FD) : FD := ⟨f.now, f.now, [], f.last⟩
theorem sync_ok : AFn Go.Proofs.Tryz.prog 164 [.ptr 0 0] (one f.H) (fun _ : Unit => AV.int .i64 0) (fun _ => one f.synced.H) := by
 refine ACall.fin ?_
 refine ACall.walkE (C := cfg 16 1) (cfgOk _ _) [] (fn := Go.Proofs.Tryz.f164) (by kernel_rfl) (by kernel_rfl) rfl (by kernel_rfl) (by kernel_rfl) rfl rfl (H1 := f.H) (fun _ _ => (HEnt.openOne (f.H) rfl rfl).ent) fun hlen hheap => ?_
 refine goA ?_
 refine AFn.useA [0, 1, 2, 3] (none_in f) fun _ => ?_
 refine goA ?_
 refine AFn.useA [2] (mclone_ok (smap un f.now)) fun _ => ?_
 refine goA ?_
 refine ⟨_, _, Ent.shutAt (r2 := AV.int .i64 0) [some 0, some 4, some 2, none] (FD.H f.synced) rfl (by kernel_rfl) (AVE.of_eq ?_) ?_ (by kernel_rfl) (by kernel_rfl) (by repeat' first | exact trivial | refine ⟨rfl, ?_⟩) rfl, (), ?_, ?_⟩
 all_goals first | rfl | exact ⟨⟨_, rfl, ChE.cells ⟨AVE.refl _, AVE.refl _, AVE.nil _ _, AVE.refl _, rfl⟩⟩, ⟨_, rfl, ChE.refl _⟩, ⟨_, rfl, ChE.refl _⟩, trivial, trivial⟩
end
end Go.Proofs.YtgfkepebfaiepaaGreatDoor.Ax

namespace Go.Proofs.YtgfkepebfaiepaaGreatDoor.Ax
open Go.RowKit
set_option maxRecDepth 100000
section
variable (f : FD)
def FD.createE (f : FD) (x : List UInt8) : Int := bif !mayB x then 1 else bif (afind f.now x).isSome then 9 else bif decide (256 ≤ f.now.length) then 7 else 0
def FD.createN (f : FD) (x : List UInt8) : Nat := if f.createE x = 0 then f.last + 1 else 0
def FD.create (f : FD) (x : List UInt8) : FD := if f.createE x = 0 then FD.did ⟨f.safe, f.now, f.ds, f.last + 1⟩ (.mk x (f.last + 1)) else f
theorem create_no {x : List UInt8} (h : f.createE x ≠ 0) : f.createN x = 0 ∧ f.create x = f := ⟨if_neg h, if_neg h⟩
theorem create_ok (hl : f.ds.length ≤ 1000) (hla : f.last ≤ 1000) (x : List UInt8) : AFn Go.Proofs.Tryz.prog 206 [.ptr 0 0, .str x] (one f.H) (fun _ : Unit => .tup [AV.int .u64 (f.createN x), AV.int .i64 (f.createE x)]) (fun _ => one (f.create x).H) := by
 have hlm : (smap un f.now).length = f.now.length := smap_length _ _
 refine ACall.fin ?_
 refine ACall.walkE (C := cfg 48 1) (cfgOk _ _) sch206 (fn := Go.Proofs.Tryz.f206) (by kernel_rfl) (by kernel_rfl) rfl (by kernel_rfl) (by kernel_rfl) rfl rfl (H1 := f.H) (fun _ _ => (HEnt.openOne (f.H) rfl rfl).ent) fun hlen hheap => ?_
 refine goA ?_
 refine AFn.useA [0, 1, 2, 3] (none_in f) fun _ => ?_
 refine goA ?_
 rw [mfind_smap]
 refine ⟨fun y hy => ?_, fun hy => ?_⟩
 ·obtain ⟨z, hz, hz2⟩ := Option.map_eq_some_iff.1 hy
  obtain ⟨p, hp, rfl⟩ := Option.map_eq_some_iff.1 hz
  subst hz2
  refine goA ?_
  refine AFn.useA [] (may_ok x) fun _ => ?_
  refine goA ?_
  cases hk : mayB x with
  | false =>
    have ha : f.createE x = 1 := by simp [FD.createE, hk]
    obtain ⟨e1, e2⟩ := create_no f (x := x) (by rw [ha]; decide)
    rw [e1, e2, ha]
    refine goA ?_
    refine ⟨_, _, Ent.shutAt (r2 := .tup [AV.int .u64 0, AV.int .i64 1]) [some 0, some 1, some 2, some 3] (f.H) rfl (by kernel_rfl) (AVE.of_eq ?_) ?_ (by kernel_rfl) (by kernel_rfl) (by repeat' first | exact trivial | refine ⟨rfl, ?_⟩) rfl, (), ?_, ?_⟩
    all_goals first | rfl | exact subC
  | true =>
    have ha : f.createE x = 9 := by simp [FD.createE, hk, hp]
    obtain ⟨e1, e2⟩ := create_no f (x := x) (by rw [ha]; decide)
    rw [e1, e2, ha]
    refine goA ?_
    refine ⟨_, _, Ent.shutAt (r2 := .tup [AV.int .u64 0, AV.int .i64 9]) [some 0, some 1, some 2, some 3] (f.H) rfl (by kernel_rfl) (AVE.of_eq ?_) ?_ (by kernel_rfl) (by kernel_rfl) (by repeat' first | exact trivial | refine ⟨rfl, ?_⟩) rfl, (), ?_, ?_⟩
    all_goals first | rfl | exact subC
 ·have hy := Option.map_eq_none_iff.1 (Option.map_eq_none_iff.1 hy)
  refine goA ?_
  refine AFn.useA [] (may_ok x) fun _ => ?_
  refine goA ?_
  cases hk : mayB x with
  | false =>
    have ha : f.createE x = 1 := by simp [FD.createE, hk]
    obtain ⟨e1, e2⟩ := create_no f (x := x) (by rw [ha]; decide)
    rw [e1, e2, ha]
    refine goA ?_
    refine ⟨_, _, Ent.shutAt (r2 := .tup [AV.int .u64 0, AV.int .i64 1]) [some 0, some 1, some 2, some 3] (f.H) rfl (by kernel_rfl) (AVE.of_eq ?_) ?_ (by kernel_rfl) (by kernel_rfl) (by repeat' first | exact trivial | refine ⟨rfl, ?_⟩) rfl, (), ?_, ?_⟩
    all_goals first | rfl | exact subC
  | true =>
    refine goA ?_
    refine ifdA (fun g => ?_) (fun g => ?_) <;> (try dsimp only at g)
    ·have ha : f.createE x = 7 := by simp [FD.createE, hk, hy, show 256 ≤ f.now.length from by omega]
     obtain ⟨e1, e2⟩ := create_no f (x := x) (by rw [ha]; decide)
     rw [e1, e2, ha]
     refine goA ?_
     refine ⟨_, _, Ent.shutAt (r2 := .tup [AV.int .u64 0, AV.int .i64 7]) [some 0, some 1, some 2, some 3] (f.H) rfl (by kernel_rfl) (AVE.of_eq ?_) ?_ (by kernel_rfl) (by kernel_rfl) (by repeat' first | exact trivial | refine ⟨rfl, ?_⟩) rfl, (), ?_, ?_⟩
     all_goals first | rfl | exact subC
    ·have ha : f.createE x = 0 := by simp [FD.createE, hk, hy, show ¬ 256 ≤ f.now.length from by omega]
     have e1 : f.createN x = f.last + 1 := if_pos ha
     have e2 : f.create x = FD.did ⟨f.safe, f.now, f.ds, f.last + 1⟩ (.mk x (f.last + 1)) := if_pos ha
     rw [e1, e2, ha]
     refine goA ?_
     refine ACall.hent (HEnt.close [0, 1, 2, 3] 0 (FD.H ⟨f.safe, f.now, f.ds, f.last + 1⟩) ?_ ?_) ?_
     ·kernel_rfl
     ·repeat' first | exact trivial | refine ⟨rfl, ?_⟩
     refine AFn.useA [0] (do_ok ⟨f.safe, f.now, f.ds, f.last + 1⟩ (.mk x (f.last + 1)) hl) fun _ => ?_
     refine ⟨_, HEnt.refl _, ?_⟩
     refine goA ?_
     refine ⟨_, _, Ent.mk' (e' := [(0, .tup [AV.int .u64 (f.last + 1 : Nat), AV.int .i64 0])]) (H' := one (FD.did ⟨f.safe, f.now, f.ds, f.last + 1⟩ (.mk x (f.last + 1))).H) [some 0] (by kernel_rfl) ?_ ?_, (), rfl, rfl⟩
     ·exact ⟨AVE.refl _, trivial⟩
     ·exact subC
def FD.remE (f : FD) (x : List UInt8) : Int := bif !mayB x then 1 else bif (afind f.now x).isSome then 0 else 6
def FD.rem (f : FD) (x : List UInt8) : FD := if f.remE x = 0 then f.did (.rm x) else f
end
end Go.Proofs.YtgfkepebfaiepaaGreatDoor.Ax

namespace Go.Proofs.YtgfkepebfaiepaaGreatDoor.Ax
open Go.RowKit
set_option maxRecDepth 100000
def onAll (m : NM) (l : List Deed) : NM := l.foldl (fun m D => D.on m) m
theorem onAll_snoc (m : NM) (l : List Deed) (D : Deed) : onAll m (l ++ [D]) = D.on (onAll m l) := by simp [onAll]
theorem ds_next {A : List Deed} {i : Nat} (hi : i < A.length) : A.take (i + 1) = A.take i ++ [A.getD i default] := by
 rw [List.take_succ_eq_append_getElem hi]
 simp [List.getD, hi]
section
variable (f : FD)
def FD.keep (f : FD) (k : Int) : Nat := (min (max k 0) (f.ds.length : Int)).toNat
def FD.crash (f : FD) (k : Int) : FD := ⟨onAll f.safe (f.ds.take (f.keep k)), onAll f.safe (f.ds.take (f.keep k)), [], f.last⟩
end
end Go.Proofs.YtgfkepebfaiepaaGreatDoor.Ax

namespace Go.Proofs.YtgfkepebfaiepaaGreatDoor.Ax
open Go.RowKit
set_option maxRecDepth 100000
theorem afind_aput {β : Type} (s t : List UInt8) (n : β) : ∀ l : List (List UInt8 × β), afind (aput l s n) t = if t = s then some n else afind l t
 | [] => by
   unfold aput afind
   by_cases h : t = s
   ·subst h; simp
   ·have h' : ¬ s = t := fun e => h e.symm
    simp [h, h']
 | p :: ps => by
   have ih := afind_aput s t n ps
   unfold aput
   by_cases h : p.1 = s
   ·rw [if_pos h]
    by_cases h2 : t = s
    ·subst h2; simp [afind]
    ·have h3 : ¬ s = t := fun e => h2 e.symm
     have h4 : ¬ p.1 = t := fun e => h2 (e.symm.trans h)
     simp [afind, h2, h3, h4]
   ·rw [if_neg h]
    by_cases h4 : p.1 = t
    ·have h5 : ¬ t = s := fun e => h (h4.trans e)
     simp [afind, h4, h5]
    ·have e1 : afind (p :: aput ps s n) t = afind (aput ps s n) t := by simp [afind, h4]
     have e2 : afind (p :: ps) t = afind ps t := by simp [afind, h4]
     rw [e1, ih, e2]
theorem aput_length {β : Type} {s : List UInt8} {n : β} : ∀ l : List (List UInt8 × β), (aput l s n).length ≤ l.length + 1
 | [] => by simp [aput]
 | q :: qs => by
   unfold aput
   have := aput_length (s := s) (n := n) qs
   split <;> simp <;> omega
theorem adel_length {β : Type} (l : List (List UInt8 × β)) (s : List UInt8) : (adel l s).length ≤ l.length := List.length_filter_le _ _
structure FD.In (P : NM → Prop) (f : FD) : Prop where
 eq : f.now = onAll f.safe f.ds
 all : ∀ k, k ≤ f.ds.length → P (onAll f.safe (f.ds.take k))
theorem FD.In.now {P : NM → Prop} {f : FD} (h : f.In P) : P f.now := by
 have := h.all f.ds.length (Nat.le_refl _)
 rw [List.take_length, ← h.eq] at this
 exact this
theorem FD.In.did {P Q : NM → Prop} {f : FD} (h : f.In P) (hPQ : ∀ m, P m → Q m) {D : Deed} (hD : ∀ m, P m → Q (D.on m)) (n : Nat) : (FD.did ⟨f.safe, f.now, f.ds, n⟩ D).In Q := by
 refine ⟨?_, fun k hk => ?_⟩
 ·show D.on f.now = onAll f.safe (f.ds ++ [D])
  rw [onAll_snoc, h.eq]
 ·show Q (onAll f.safe ((f.ds ++ [D]).take k))
  have hk : k ≤ (f.ds ++ [D]).length := hk
  rw [List.length_append] at hk
  by_cases e : k ≤ f.ds.length
  ·rw [List.take_append_of_le_length e]
   exact hPQ _ (h.all k e)
  ·rw [List.take_of_length_le (by simp at hk ⊢; omega), onAll_snoc]
   have := h.all f.ds.length (Nat.le_refl _)
   rw [List.take_length] at this
   exact hD _ this
theorem FD.In.mono {P Q : NM → Prop} {f : FD} (h : f.In P) (hPQ : ∀ m, P m → Q m) : f.In Q := ⟨h.eq, fun k hk => hPQ _ (h.all k hk)⟩
theorem FD.In.synced {P : NM → Prop} {f : FD} (h : f.In P) : f.synced.In P := ⟨rfl, fun k _ => by show P (onAll f.now (List.take k [])); rw [List.take_nil]; exact h.now⟩
theorem FD.In.crash {P : NM → Prop} {f : FD} (h : f.In P) (k : Int) : (f.crash k).In P := ⟨rfl, fun j _ => by
 show P (onAll (onAll f.safe (f.ds.take (f.keep k))) (List.take j []))
 rw [List.take_nil]
 exact h.all _ (by unfold FD.keep; omega)⟩
end Go.Proofs.YtgfkepebfaiepaaGreatDoor.Ax
