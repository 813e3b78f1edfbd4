/-
  The same transformers, which lay bare the frame and memory at each step.
-/
import Derived.Scope
import Derived.Test.YtgfkepebfaiepaaGreatDoorBxX
namespace Go.Proofs.YtgfkepebfaiepaaGreatDoor.Ax
open Go.RowKit
noncomputable def IV.fcL {α : Sort _} (l : List IV) : (List IV → α) → α :=
 List.rec (motive := fun _ => (List IV → α) → α) (fun k => k []) (fun x _ ih k => ih fun ys => k (x :: ys)) l
noncomputable def IV.fc {α : Sort _} (x : IV) (k : IV → α) : α := match x with
 | .v y => k (.v y)
 | .str l => k (.str l)
 | .bs l => k (.bs l)
 | .sl a b c => k (.sl a b c)
 | .pp l => IV.fcL l fun l => k (.pp l)
 | .agg l => IV.fcL l fun l => k (.agg l)
 | .ifc t x => k (.ifc t x)
 | .fnc f a c => k (.fnc f a c)
theorem IV.fcL_eq {α : Sort _} (l : List IV) (k : List IV → α) : IV.fcL l k = k l := by
 induction l generalizing k with
 | nil => rfl
 | cons x xs ih => exact ih _
theorem IV.fc_eq {α : Sort _} (x : IV) (k : IV → α) : x.fc k = k x := by
 cases x <;> simp only [IV.fc, IV.fcL_eq]
def natFc {α : Sort _} (n : Nat) (k : Nat → α) : α := match n with
 | 0 => k 0
 | m + 1 => k (m + 1)
theorem natFc_eq {α : Sort _} (n : Nat) (k : Nat → α) : natFc n k = k n := by cases n <;> rfl
noncomputable def AV.fcL0 {α : Sort _} (l : List AV) : (List AV → α) → α :=
 List.rec (motive := fun _ => (List AV → α) → α) (fun k => k []) (fun x _ ih k => match x with
  | .iv i => i.fc fun i => ih fun ys => k (.iv i :: ys)
  | .ptr h o => natFc h fun h => ih fun ys => k (.ptr h o :: ys)
  | .el h a b c => natFc h fun h => ih fun ys => k (.el h a b c :: ys)
  | .row h a b c => natFc h fun h => ih fun ys => k (.row h a b c :: ys)
  | .mp h => natFc h fun h => ih fun ys => k (.mp h :: ys)
  | .agg l => ih fun ys => k (.agg l :: ys)
  | .tup l => ih fun ys => k (.tup l :: ys)
  | .ifc t x => ih fun ys => k (.ifc t x :: ys)
  | .fnc f a c => ih fun ys => k (.fnc f a c :: ys)
  | .pp l => ih fun ys => k (.pp l :: ys)
  | .sl a b f => ih fun ys => k (.sl a b f :: ys)
  | .junk => ih fun ys => k (.junk :: ys)
  | .anyb => ih fun ys => k (.anyb :: ys)) l
theorem AV.fcL0_eq {α : Sort _} (l : List AV) (k : List AV → α) : AV.fcL0 l k = k l := by
 induction l generalizing k with
 | nil => rfl
 | cons x xs ih =>
   cases x with
   | iv i => exact (IV.fc_eq i (fun i => AV.fcL0 xs fun ys => k (.iv i :: ys))).trans (ih _)
   | ptr h o => exact (natFc_eq h (fun h => AV.fcL0 xs fun ys => k (.ptr h o :: ys))).trans (ih _)
   | el h a b c => exact (natFc_eq h (fun h => AV.fcL0 xs fun ys => k (.el h a b c :: ys))).trans (ih _)
   | row h a b c => exact (natFc_eq h (fun h => AV.fcL0 xs fun ys => k (.row h a b c :: ys))).trans (ih _)
   | mp h => exact (natFc_eq h (fun h => AV.fcL0 xs fun ys => k (.mp h :: ys))).trans (ih _)
   | _ => exact ih _
noncomputable def AV.fc {α : Sort _} (x : AV) (k : AV → α) : α := match x with
 | .iv i => i.fc fun i => k (.iv i)
 | .ptr h o => natFc h fun h => k (.ptr h o)
 | .el h a b c => natFc h fun h => k (.el h a b c)
 | .row h a b c => natFc h fun h => k (.row h a b c)
 | .mp h => natFc h fun h => k (.mp h)
 | .agg l => AV.fcL0 l fun l => k (.agg l)
 | .tup l => AV.fcL0 l fun l => k (.tup l)
 | .ifc t x => k (.ifc t x)
 | .fnc f a c => AV.fcL0 c fun c => k (.fnc f a c)
 | .pp l => AV.fcL0 l fun l => k (.pp l)
 | .sl a b f => k (.sl a b f)
 | .junk => k .junk
 | .anyb => k .anyb
theorem AV.fc_eq {α : Sort _} (x : AV) (k : AV → α) : x.fc k = k x := by
 cases x <;> simp only [AV.fc, AV.fcL0_eq, IV.fc_eq, natFc_eq]
noncomputable def Env.fc {α : Sort _} (e : Env) : (Env → α) → α :=
 List.rec (motive := fun _ => (Env → α) → α) (fun k => k []) (fun p _ ih k => match p with
  | (d, v) => v.fc fun v => ih fun e => k ((d, v) :: e)) e
theorem Env.fc_eq {α : Sort _} (e : Env) (k : Env → α) : e.fc k = k e := by
 induction e generalizing k with
 | nil => rfl
 | cons p ps ih =>
   obtain ⟨d, v⟩ := p
   exact (AV.fc_eq v (fun v => Env.fc ps fun e => k ((d, v) :: e))).trans (ih _)
noncomputable def Chunk.fc {α : Sort _} (c : Chunk) (k : Chunk → α) : α := match c with
 | .cells e cs => AV.fcL0 cs fun cs => k (.cells e cs)
 | .rowc e sz n f => k (.rowc e sz n f)
 | .brow e l => k (.brow e l)
 | .map kk m => k (.map kk m)
 | .maph kk m => k (.maph kk m)
 | .icells cs => IV.fcL cs fun cs => k (.icells cs)
 | .gmap g kk m es clock => k (.gmap g kk m es clock)
 | .mapit kk m l i la => natFc i fun i => k (.mapit kk m l i la)
 | .sem S => k (.sem S)
theorem Chunk.fc_eq {α : Sort _} (c : Chunk) (k : Chunk → α) : c.fc k = k c := by
 cases c <;> simp only [Chunk.fc, AV.fcL0_eq, IV.fcL_eq, natFc_eq]
noncomputable def AH.fcL {α : Sort _} (l : List (Nat × Chunk)) : (List (Nat × Chunk) → α) → α :=
 List.rec (motive := fun _ => (List (Nat × Chunk) → α) → α) (fun k => k []) (fun p _ ih k => match p with
  | (n, c) => natFc n fun n => c.fc fun c => ih fun l => k ((n, c) :: l)) l
theorem AH.fcL_eq {α : Sort _} (e : List (Nat × Chunk)) (k : List (Nat × Chunk) → α) : AH.fcL e k = k e := by
 induction e generalizing k with
 | nil => rfl
 | cons p ps ih =>
   obtain ⟨n, c⟩ := p
   exact (natFc_eq n (fun n => c.fc fun c => AH.fcL ps fun l => k ((n, c) :: l))).trans ((Chunk.fc_eq c (fun c => AH.fcL ps fun l => k ((n, c) :: l))).trans (ih _))
noncomputable def AH.fc {α : Sort _} (H : AH) (k : AH → α) : α := natFc H.next fun n => AH.fcL H.ch fun l => k ⟨n, l⟩
theorem AH.fc_eq {α : Sort _} (H : AH) (k : AH → α) : H.fc k = k H := by unfold AH.fc; rw [natFc_eq, AH.fcL_eq]
noncomputable def stF (K : Env → AH → Prop) (e : Env) (H : AH) : Prop := Env.fc e fun e => H.fc fun H => K e H
theorem stF_eq (K : Env → AH → Prop) : stF K = K := by funext e H; unfold stF; rw [Env.fc_eq, AH.fc_eq]
noncomputable def resF (K : AV → AH → Prop) (v : AV) (H : AH) : Prop := v.fc fun v => H.fc fun H => K v H
theorem resF_eq (K : AV → AH → Prop) : resF K = K := by funext e H; unfold resF; rw [AV.fc_eq, AH.fc_eq]
def Env.upd : Env → Nat → AV → Env
 | [], _, _ => []
 | (d, x) :: ps, t, v => bif Nat.beq d t then (d, v) :: ps else (d, x) :: Env.upd ps t v
theorem Env.upd_get (e : Env) (t : Nat) : e.upd t (e.get t) = e := by
 induction e with
 | nil => rfl
 | cons p ps ih =>
   obtain ⟨d, x⟩ := p
   unfold Env.upd Env.get
   cases Nat.beq d t with
   | true => rfl
   | false => simp only [cond_false, ih]
def branchB (b : Bool) (y n : Prop) : Prop := match b with
 | true => y
 | false => n
theorem branchB_eq (b : Bool) (y n : Prop) : branchB b y n = ((b = true → y) ∧ (b = false → n)) := by
 cases b <;> simp [branchB]
theorem branchB_of {b : Bool} {y n : Prop} (hy : b = true → y) (hn : b = false → n) : branchB b y n := by rw [branchB_eq]; exact ⟨hy, hn⟩
def branchE (e : Env) (t : Nat) (b : Bool) (y n : Env → Prop) : Prop := branchB b (y (e.upd t (.bool true))) (n (e.upd t (.bool false)))
theorem branchE_eq {e : Env} {t : Nat} {b : Bool} (h : e.get t = .bool b) (y n : Env → Prop) : branchE e t b y n = ((b = true → y e) ∧ (b = false → n e)) := by
 unfold branchE
 rw [branchB_eq]
 cases b with
 | true => simp only [true_implies, reduceCtorEq, false_implies, and_true]; rw [← h, Env.upd_get]
 | false => simp only [true_implies, reduceCtorEq, false_implies, true_and]; rw [← h, Env.upd_get]
def aGuardF (ops : Array Oper) (e : Env) (o : Oper) (yes no : Env → Prop) : Prop :=
 match o.guard with
 | none => yes e
 | some (j, want) => match (ops[j]?).bind (·.dst) with
   | none => no e
   | some t => match e.get t with
     | .iv (.v (.bool b)) => bif want then branchE e t b yes no else branchE e t b no yes
     | .iv (.v (.tuple _)) => no e
     | _ => False
theorem aGuardF_eq (ops : Array Oper) (e : Env) (o : Oper) (yes no : Env → Prop) : aGuardF ops e o yes no = aGuard ops e o (yes e) (no e) := by
 unfold aGuardF aGuard
 split
 ·rename_i h; simp only [h]
 ·rename_i j want h
  simp only [h]
  split
  ·rename_i h2; simp only [h2]
  ·rename_i t h2
   simp only [h2]
   split
   ·rename_i b h3
    simp only [h3]
    cases want with
    | true => simp only [cond_true]; rw [branchE_eq h3]
    | false => simp only [cond_false]; rw [branchE_eq h3]
   ·rename_i h3; simp only [h3]
   ·rename_i h3 h4
    split
    ·rename_i b h5; exact absurd h5 (h3 b)
    ·rename_i b h5; exact absurd h5 (h4 b)
    ·rfl
noncomputable def aOneF (C : Cfg) (ops : Array Oper) (o : Oper) (e : Env) (H : AH) (K : Env → AH → Prop) (QP : AV → AH → Prop) : Prop :=
 aGuardF ops e o (fun e => aop C (opd e) H o.op (fun v H' => K (e.putd C.N o.dst v) H') QP) (fun e => K (e.putd C.N o.dst undefA) H)
theorem aOneF_eq (C : Cfg) (ops : Array Oper) (o : Oper) (e : Env) (H : AH) (K : Env → AH → Prop) (QP : AV → AH → Prop) : aOneF C ops o e H K QP = aOne C ops o e H K QP := by
 unfold aOneF aOne
 rw [aGuardF_eq]
noncomputable def subPF (l : List (Nat × Chunk)) (H' : AH) : Prop := List.rec True (fun p _ ih => H'.get p.1 = some p.2 ∧ ih) l
theorem subPF_eq : ∀ (l : List (Nat × Chunk)) (H' : AH), subPF l H' = subP l H'
 | [], _ => rfl
 | p :: ps, H' => by
   show (H'.get p.1 = some p.2 ∧ subPF ps H') = (H'.get p.1 = some p.2 ∧ subP ps H')
   rw [subPF_eq ps H']
noncomputable def aOneDF (C : Cfg) (ops : Array Oper) (o : Oper) (e : Env) (H : AH) (K : Env → AH → Prop) (QP : AV → AH → Prop) : Prop :=
 bif opFlagged C o.op then aOneF C ops o e H (fun e' H' => subPF H.ch H' ∧ K e' H') QP else aOneF C ops o e H K QP
noncomputable def aAtF (C : Cfg) (ops : Array Oper) (i : Nat) (e : Env) (H : AH) (K : Env → AH → Prop) (QP : AV → AH → Prop) : Prop :=
 match ops[i]? with
 | none => K e H
 | some o => aOneDF C ops o e H K QP
theorem aAtF_eq (C : Cfg) (ops : Array Oper) (i : Nat) (e : Env) (H : AH) (K : Env → AH → Prop) (QP : AV → AH → Prop) : aAtF C ops i e H K QP = aAt C ops i e H K QP := by
 unfold aAtF aAt
 split
 ·rename_i h; simp only [h]
 ·rename_i o h
  simp only [h]
  unfold aOneDF aOneD
  simp only [aOneF_eq, subPF_eq]
noncomputable def aListF (C : Cfg) (ops : Array Oper) (QP : AV → AH → Prop) (K : Env → AH → Prop) (os : List Oper) : Env → AH → Prop :=
 List.rec (motive := fun _ => Env → AH → Prop) K (fun o _ ih e H => aOneF C ops o e H (stF ih) QP) os
theorem aListF_eq (C : Cfg) (ops : Array Oper) (QP : AV → AH → Prop) (K : Env → AH → Prop) : ∀ os, aListF C ops QP K os = aList C ops QP K os
 | [] => rfl
 | o :: os => by
   have ih := aListF_eq C ops QP K os
   funext e H
   show aOneF C ops o e H (stF (aListF C ops QP K os)) QP = _
   unfold aList
   rw [stF_eq, ih, aOneF_eq]
noncomputable def allPF (l : List Nat) (F : Nat → Prop) : Prop := List.rec True (fun i _ ih => F i ∧ ih) l
theorem allPF_eq : ∀ (l : List Nat) (F : Nat → Prop), allPF l F = allP l F
 | [], _ => rfl
 | [i], F => by show (F i ∧ True) = F i; simp
 | i :: j :: l, F => by
   show (F i ∧ allPF (j :: l) F) = (F i ∧ allP (j :: l) F)
   rw [allPF_eq (j :: l) F]
noncomputable def aRegF (C : Cfg) (ops : Array Oper) (K : Env → AH → Prop) (QP : AV → AH → Prop) (fuel : Nat) : Array Bool → Env → AH → Prop :=
 Nat.rec (motive := fun _ => Array Bool → Env → AH → Prop) (fun listed e H => match Region.ready .any ops listed with
  | [] => K e H
  | _ => False) (fun _ ih listed e H => match pickOp C ops listed with
  | .done => K e H
  | .take i => aAtF C ops i e H (stF (ih (listed.setIfInBounds i true))) QP
  | .branch l => allPF l fun i => aAtF C ops i e H (stF (ih (listed.setIfInBounds i true))) QP) fuel
theorem aRegF_eq (C : Cfg) (ops : Array Oper) (K : Env → AH → Prop) (QP : AV → AH → Prop) : ∀ fuel listed, aRegF C ops K QP fuel listed = aReg C ops K QP fuel listed
 | 0, listed => rfl
 | fuel + 1, listed => by
   have ih := aRegF_eq C ops K QP fuel
   funext e H
   show (match pickOp C ops listed with
    | .done => K e H
    | .take i => aAtF C ops i e H (stF (aRegF C ops K QP fuel (listed.setIfInBounds i true))) QP
    | .branch l => allPF l fun i => aAtF C ops i e H (stF (aRegF C ops K QP fuel (listed.setIfInBounds i true))) QP) = _
   unfold aReg
   simp only [stF_eq, ih, aAtF_eq, allPF_eq]
   split <;> simp_all only
inductive Sched where
 | bad
 | done
 | take (i : Nat) (s : Sched)
 | two (i : Nat) (s : Sched) (t : Sched)
 deriving DecidableEq
noncomputable def aRegS (C : Cfg) (ops : Array Oper) (K : Env → AH → Prop) (QP : AV → AH → Prop) (s : Sched) : Env → AH → Prop :=
 Sched.rec (motive := fun _ => Env → AH → Prop) (fun _ _ => False) K (fun i _ ih e H => aAtF C ops i e H (stF ih) QP) (fun i _ _ is it e H => aAtF C ops i e H (stF is) QP ∧ it e H) s
def mkSched (C : Cfg) (ops : Array Oper) : Nat → Array Bool → Sched
 | 0, listed => match Region.ready .any ops listed with
   | [] => .done
   | _ => .bad
 | fuel + 1, listed => match pickOp C ops listed with
   | .done => .done
   | .take i => .take i (mkSched C ops fuel (listed.setIfInBounds i true))
   | .branch l => many (fun i => mkSched C ops fuel (listed.setIfInBounds i true)) l
where
 many (f : Nat → Sched) : List Nat → Sched
  | [] => .bad
  | [i] => .take i (f i)
  | i :: is => .two i (f i) (many f is)
theorem aRegS_reg (C : Cfg) (ops : Array Oper) (K : Env → AH → Prop) (QP : AV → AH → Prop) : ∀ (fuel : Nat) (listed : Array Bool) (e : Env) (H : AH), aRegS C ops K QP (mkSched C ops fuel listed) e H → aRegF C ops K QP fuel listed e H
 | 0, listed, e, H, h => by
   unfold mkSched at h
   show (match Region.ready .any ops listed with
    | [] => K e H
    | _ => False)
   split at h
   ·exact h
   ·exact h.elim
 | fuel + 1, listed, e, H, h => by
   have ih := aRegS_reg C ops K QP fuel
   have st : ∀ i e H, aAtF C ops i e H (stF (aRegS C ops K QP (mkSched C ops fuel (listed.setIfInBounds i true)))) QP → aAtF C ops i e H (stF (aRegF C ops K QP fuel (listed.setIfInBounds i true))) QP := fun i e H h => by
    rw [stF_eq, aAtF_eq] at h ⊢
    exact aAt_mono (ih _) h
   unfold mkSched at h
   show (match pickOp C ops listed with
    | .done => K e H
    | .take i => aAtF C ops i e H (stF (aRegF C ops K QP fuel (listed.setIfInBounds i true))) QP
    | .branch l => allPF l fun i => aAtF C ops i e H (stF (aRegF C ops K QP fuel (listed.setIfInBounds i true))) QP)
   split at h
   ·exact h
   ·exact st _ e H h
   ·rename_i l hp
    have key : ∀ (l : List Nat), aRegS C ops K QP (mkSched.many (fun i => mkSched C ops fuel (listed.setIfInBounds i true)) l) e H → allPF l fun i => aAtF C ops i e H (stF (aRegF C ops K QP fuel (listed.setIfInBounds i true))) QP := by
     intro l
     induction l with
     | nil => intro h; exact h.elim
     | cons i is ihl =>
       intro h
       cases is with
       | nil => exact ⟨st i e H h, trivial⟩
       | cons j js => exact ⟨st i e H h.1, ihl h.2⟩
    exact key l h
noncomputable def regsOf (c : Code) : List (Nat × Array Oper) :=
 Code.rec (motive := fun _ => List (Nat × Array Oper)) [] (fun id ops draw => bif draw then [(id, ops)] else []) (fun _ _ a b => a ++ b) (fun _ _ _ a b => a ++ b) (fun _ _ a => a) (fun _ a => a) (fun _ _ _ _ a b => a ++ b) (fun _ => []) (fun _ a => a) (fun _ => []) (fun _ => []) [] (fun _ => []) c
def schGet : List (Nat × Sched) → Nat → Sched
 | [], _ => .bad
 | p :: ps, id => bif Nat.beq p.1 id then p.2 else schGet ps id
def SchOk (C : Cfg) (S : List (Nat × Sched)) (c : Code) : Prop := ∀ p ∈ regsOf c, schGet S p.1 = mkSched C p.2 p.2.size (Array.replicate p.2.size false)
theorem SchOk.of_eq {C : Cfg} {S : List (Nat × Sched)} {c : Code} (h : (regsOf c).map (fun p => schGet S p.1) = (regsOf c).map fun p => mkSched C p.2 p.2.size (Array.replicate p.2.size false)) : SchOk C S c := by
 intro p hp
 generalize regsOf c = l at h hp
 induction l with
 | nil => cases hp
 | cons q qs ih =>
   simp only [List.map_cons, List.cons.injEq] at h
   rcases List.mem_cons.1 hp with rfl | hp
   ·exact h.1
   ·exact ih h.2 hp
def branchC (e : Env) (c : Operand) (b : Bool) (y n : Env → Prop) : Prop := match c with
 | .tmp t => branchE e t b y n
 | _ => branchB b (y e) (n e)
theorem branchC_eq {e : Env} {c : Operand} {b : Bool} (h : opd e c = .bool b) (y n : Env → Prop) : branchC e c b y n = ((b = true → y e) ∧ (b = false → n e)) := by
 unfold branchC
 split
 ·exact branchE_eq h y n
 ·exact branchB_eq ..
inductive Todo where
 | seq (b : Code)
 | blk (id : Nat)
abbrev AwK := Code → Env → AH → List Todo → Post → Prop
noncomputable def runN (ih : AwK) (q : Post) (stk : List Todo) : Env → AH → Prop :=
 List.rec (motive := fun _ => Env → AH → Prop) q.n (fun f s r e H => match f with
  | .seq b => ih b e H s q
  | .blk _ => r e H) stk
noncomputable def runX (ih : AwK) (q : Post) (stk : List Todo) : Nat → Env → AH → Prop :=
 List.rec (motive := fun _ => Nat → Env → AH → Prop) q.x (fun f s r j e H => match f with
  | .seq _ => r j e H
  | .blk id => bif Nat.beq j id then runN ih q s e H else r j e H) stk
noncomputable def qOf (ih : AwK) (stk : List Todo) (q : Post) : Post := ⟨runN ih q stk, runX ih q stk, q.r, q.p⟩
theorem stepR_scope {P : Program} {b : Frame} {a : Act} {k : List Item} {cs : List Frame} {w : World} {c : Code} : step P (lone (b.atR a (.code (.scope c) :: k)) cs w) = .next (lone (b.atR a (.code c :: .inScope c :: k)) cs w) :=
 step_lone_go (by simp [stepG, stepG.exec, Frame.atR])
theorem stepR_inScope {P : Program} {b : Frame} {a : Act} {k : List Item} {cs : List Frame} {w : World} {c : Code} : step P (lone (b.atR a (.inScope c :: k)) cs w) = .next (lone (b.atR a k) cs w) :=
 step_lone_go (by simp [stepG, stepG.exec, Frame.atR])
theorem wpIn_scope {F : Fence} {n : Nat} {P : Program} {Q : Exit → Act → World → Prop} {a : Act} {w : World} {c : Code} (h : c.wpIn F n P (Exit.noGoto Q) a w) : (Code.scope c).wpIn F n P Q a w := by
 intro b k cs hro hb hr
 have h0 : (lone (b.atR a (.code (.scope c) :: k)) cs w).fenced P F := fenced_calm hb hr rfl
 obtain ⟨e, a₁, w₁, hq, harr⟩ := h b (.inScope c :: k) cs hro hb hr
 cases e with
 | normal => exact ⟨.normal, a₁, w₁, hq, .head h0 stepR_scope (StepsIn.trans harr (.one (fenced_calm hb hr rfl) stepR_inScope))⟩
 | exit id =>
   have hx : exitTo id (.inScope c :: k) = exitTo id k := by simp [exitTo]
   exact ⟨.exit id, a₁, w₁, hq, fun k' hk => .head h0 stepR_scope (harr.1 k' (by rw [hx]; exact hk)),
    fun hr' hk => let ⟨k₁, h1, h2⟩ := harr.2 hr' (by rw [hx]; exact hk); ⟨k₁, h1, .head h0 stepR_scope h2⟩⟩
 | goto l => exact hq.elim
 | ret => exact ⟨_, a₁, w₁, hq, .of_steps (.one h0 stepR_scope) harr⟩
 | panic ch => exact ⟨_, a₁, w₁, hq, .of_steps (.one h0 stepR_scope) harr⟩
 | outgrown => exact ⟨_, a₁, w₁, hq, .of_steps (.one h0 stepR_scope) harr⟩
theorem AWP.scope {C : Cfg} {c : Code} {e : Env} {H : AH} {q : Post} (h : AWP C c e H q) : AWP C (.scope c) e H q := ⟨fun lo ρ ι a w hE hS hM =>
 wpIn_scope (wpIn_mono (h.run lo ρ ι a w hE hS hM) fun ex a' w' hq => by
  cases ex with
  | goto l => exact hq.elim
  | normal => exact hq
  | exit j => exact hq
  | ret => exact hq
  | panic ch => exact hq
  | outgrown => exact hq)⟩
theorem AWP.label {C : Cfg} {l : Nat} {e : Env} {H : AH} {q : Post} (h : q.n e H) : AWP C (.label l) e H q := ⟨fun _ ρ ι _ _ hE hS hM => wpIn_label ⟨e, H, ρ, ι, h, hE, hS, WentB.refl .., hM⟩⟩
noncomputable def semPost (C : Cfg) (q : Post) (stk : List Todo) : Post :=
 List.rec (motive := fun _ => Post) q (fun f _ r => match f with
  | .seq b => { r with n := fun e H => AWP C b e H r }
  | .blk id => { r with x := fun j e H => bif Nat.beq j id then r.n e H else r.x j e H }) stk
def firstReg : Code → Nat
 | .region id _ _ => id
 | .seq (.region id _ _) _ => id
 | _ => 0
noncomputable def awStep (C : Cfg) (S : List (Nat × Sched)) (ih : AwK) : AwK := fun c e H stk q => match c with
 | .skip => runN ih q stk e H
 | .region id ops draw => bif C.cuts.any (Nat.beq (1000 + id)) then AWP C (.region id ops draw) e H (qOf ih stk q) else bif draw then aRegS C ops (runN ih q stk) q.p (schGet S id) e H else aListF C ops q.p (runN ih q stk) ops.toList e H
 | .seq a b => bif C.cuts.any (Nat.beq (3000 + firstReg a)) then AWP C (.seq a b) e H (semPost C q stk) else ih a e H (.seq b :: stk) q
 | .cond c x y => match opd e c with
   | .iv (.v (.bool b)) => branchC e c b (fun e => ih x e H stk q) (fun e => ih y e H stk q)
   | .anyb => ih x e H stk q ∧ ih y e H stk q
   | _ => False
 | .block id b => bif C.cuts.any (Nat.beq id) then AWP C (.block id b) e H (qOf ih stk q) else ih b e H (.blk id :: stk) q
 | .exit id => runX ih q stk id e H
 | .ret => q.r e H
 | .scope b => ih b e H stk q
 | .label _ => runN ih q stk e H
 | c => AWP C c e H (qOf ih stk q)
noncomputable def awS (C : Cfg) (S : List (Nat × Sched)) (n : Nat) : AwK := Nat.rec (motive := fun _ => AwK) (fun _ _ _ _ _ => False) (fun _ ih => awStep C S ih) n
noncomputable def awF (C : Cfg) (S : List (Nat × Sched)) (c : Code) (e : Env) (H : AH) (q : Post) : Prop := awS C S 1000000 c e H [] q
theorem AWP.cond' {C : Cfg} {c : Operand} {x y : Code} {e : Env} {H : AH} {q : Post} {b : Bool} (hb : opd e c = .iv (.v (.bool b))) (hx : b = true → AWP C x e H q) (hy : b = false → AWP C y e H q) : AWP C (.cond c x y) e H q := ⟨fun lo ρ ι a w hE hS hM => by
 have hv := opd_ok hE c
 rw [hb] at hv
 simp only [AV.R, IV.R] at hv
 refine wpIn_cond hv ?_
 cases b with
 | true => exact (hx rfl).run lo ρ ι a w hE hS hM
 | false => exact (hy rfl).run lo ρ ι a w hE hS hM⟩
theorem AWP.condU {C : Cfg} {c : Operand} {x y : Code} {e : Env} {H : AH} {q : Post} (hb : opd e c = .anyb) (hx : AWP C x e H q) (hy : AWP C y e H q) : AWP C (.cond c x y) e H q := ⟨fun lo ρ ι a w hE hS hM => by
 have hv := opd_ok hE c
 rw [hb] at hv
 simp only [AV.R] at hv
 obtain ⟨b, hv⟩ := hv
 refine wpIn_cond hv ?_
 cases b with
 | true => exact hx.run lo ρ ι a w hE hS hM
 | false => exact hy.run lo ρ ι a w hE hS hM⟩
theorem AWP.block' {C : Cfg} {id : Nat} {b : Code} {e : Env} {H : AH} {q : Post} (h : AWP C b e H { q with x := fun j e' H' => bif Nat.beq j id then q.n e' H' else q.x j e' H' }) : AWP C (.block id b) e H q := ⟨fun lo ρ ι a w hE hS hM => by
 have h1 := h.run lo ρ ι a w hE hS hM
 refine wpIn_block (wpIn_mono h1 fun ex a' w' hq => ?_)
 cases ex with
 | exit j =>
   show if j = id then _ else _
   obtain ⟨e', H', ρ', ι', k, p1, p2, p3⟩ := hq
   by_cases hj : j = id
   ·subst hj
    rw [if_pos rfl]
    simp only [Nat.beq_refl, cond_true] at k
    exact ⟨e', H', ρ', ι', k, p1, p2, p3⟩
   ·rw [if_neg hj]
    have : Nat.beq j id = false := by rw [Bool.eq_false_iff]; simpa using hj
    simp only [this, cond_false] at k
    exact ⟨e', H', ρ', ι', k, p1, p2, p3⟩
 | normal => exact hq
 | goto l => exact hq
 | ret => exact hq
 | panic ch => exact hq
 | outgrown => exact hq⟩
theorem AWP.monoQ {C : Cfg} {c : Code} {e : Env} {H : AH} {q q' : Post} (hn : ∀ e H, q.n e H → q'.n e H) (hx : ∀ j e H, q.x j e H → q'.x j e H) (hr : q.r = q'.r) (hp : q.p = q'.p) (h : AWP C c e H q) : AWP C c e H q' :=
 ⟨fun lo ρ ι a w hE hS hM => wpIn_mono (h.run lo ρ ι a w hE hS hM) fun ex a' w' hq => by
  cases ex with
  | normal => obtain ⟨e', H', ρ', ι', k, p⟩ := hq; exact ⟨e', H', ρ', ι', hn _ _ k, p⟩
  | exit j => obtain ⟨e', H', ρ', ι', k, p⟩ := hq; exact ⟨e', H', ρ', ι', hx _ _ _ k, p⟩
  | goto l => exact hq
  | ret => show LiftE q'.r _ _ _ _ _ _ _ _ _; rw [← hr]; exact hq
  | panic ch => obtain ⟨v, h2, h3⟩ := hq; exact ⟨v, h2, by rw [← hp]; exact h3⟩
  | outgrown => exact hq⟩
theorem semPost_rp (C : Cfg) (q : Post) : ∀ stk, (semPost C q stk).r = q.r ∧ (semPost C q stk).p = q.p
 | [] => ⟨rfl, rfl⟩
 | .seq _ :: s => semPost_rp C q s
 | .blk _ :: s => semPost_rp C q s
def StkOk (C : Cfg) (S : List (Nat × Sched)) : List Todo → Prop
 | [] => True
 | .seq b :: s => SchOk C S b ∧ StkOk C S s
 | .blk _ :: s => StkOk C S s
section
variable {C : Cfg} {S : List (Nat × Sched)} {ih : AwK} {q : Post} (hih : ∀ b e H s, SchOk C S b → StkOk C S s → ih b e H s q → AWP C b e H (semPost C q s))
include hih
theorem runN_sem : ∀ stk, StkOk C S stk → ∀ e H, runN ih q stk e H → (semPost C q stk).n e H
 | [], _, _, _, h => h
 | .seq b :: s, hs, e, H, h => hih b e H s hs.1 hs.2 h
 | .blk _ :: s, hs, e, H, h => runN_sem s hs e H h
theorem runX_sem : ∀ stk, StkOk C S stk → ∀ j e H, runX ih q stk j e H → (semPost C q stk).x j e H
 | [], _, _, _, _, h => h
 | .seq _ :: s, hs, j, e, H, h => runX_sem s hs.2 j e H h
 | .blk id :: s, hs, j, e, H, h => by
   have h : (bif Nat.beq j id then runN ih q s e H else runX ih q s j e H) := h
   show bif Nat.beq j id then (semPost C q s).n e H else (semPost C q s).x j e H
   cases hb : Nat.beq j id with
   | true => rw [hb] at h; exact runN_sem hih s hs e H h
   | false => rw [hb] at h; exact runX_sem s hs j e H h
theorem qOf_sem {stk : List Todo} (hs : StkOk C S stk) {c : Code} {e : Env} {H : AH} (h : AWP C c e H (qOf ih stk q)) : AWP C c e H (semPost C q stk) :=
 AWP.monoQ (q := qOf ih stk q) (runN_sem hih stk hs) (runX_sem hih stk hs) (semPost_rp C q stk).1.symm (semPost_rp C q stk).2.symm h
end
theorem AWP.goS {C : Cfg} (hC : C.Ok) {S : List (Nat × Sched)} : ∀ (n : Nat) (c : Code) (e : Env) (H : AH) (stk : List Todo) (q : Post), SchOk C S c → StkOk C S stk → awS C S n c e H stk q → AWP C c e H (semPost C q stk)
 | 0, _, _, _, _, _, _, _, h => h.elim
 | n + 1, c, e, H, stk, q, hS, hs, h => by
   have hih : ∀ b e H s, SchOk C S b → StkOk C S s → awS C S n b e H s q → AWP C b e H (semPost C q s) := fun b e H s h1 h2 h3 => AWP.goS hC n b e H s q h1 h2 h3
   have h : awStep C S (awS C S n) c e H stk q := h
   cases c with
   | skip => exact aw_sound hC _ _ _ _ (runN_sem hih stk hs e H h)
   | region id ops draw =>
     have h : (bif C.cuts.any (Nat.beq (1000 + id)) then AWP C (.region id ops draw) e H (qOf (awS C S n) stk q) else bif draw then aRegS C ops (runN (awS C S n) q stk) q.p (schGet S id) e H else aListF C ops q.p (runN (awS C S n) q stk) ops.toList e H) := h
     cases hcut : C.cuts.any (Nat.beq (1000 + id)) with
     | true => rw [hcut] at h; exact qOf_sem hih hs h
     | false =>
     rw [hcut] at h
     simp only [cond_false] at h
     refine qOf_sem hih hs (aw_sound hC _ _ _ _ ?_)
     unfold aw
     cases draw with
     | false => exact (aListF_eq C ops q.p (runN (awS C S n) q stk) ops.toList) ▸ h
     | true =>
       have h1 := hS (id, ops) (List.mem_singleton.2 rfl)
       have h : aRegS C ops (runN (awS C S n) q stk) q.p (schGet S id) e H := h
       rw [h1] at h
       have h2 := aRegS_reg C ops (runN (awS C S n) q stk) q.p _ _ e H h
       rw [aRegF_eq] at h2
       exact h2
   | seq x y =>
     have hx : SchOk C S x := fun p hp => hS p (List.mem_append_left _ hp)
     have hy : SchOk C S y := fun p hp => hS p (List.mem_append_right _ hp)
     have h : (bif C.cuts.any (Nat.beq (3000 + firstReg x)) then AWP C (.seq x y) e H (semPost C q stk) else awS C S n x e H (.seq y :: stk) q) := h
     cases hcut : C.cuts.any (Nat.beq (3000 + firstReg x)) with
     | true => rw [hcut] at h; exact h
     | false =>
       rw [hcut] at h
       exact AWP.seq _ (hih x e H (.seq y :: stk) hx ⟨hy, hs⟩ h) fun e' H' hM => hM
   | cond c x y =>
     have hx := fun e => hih x e H stk (fun p hp => hS p (List.mem_append_left _ hp)) hs
     have hy := fun e => hih y e H stk (fun p hp => hS p (List.mem_append_right _ hp)) hs
     have h : (match opd e c with
      | .iv (.v (.bool b)) => branchC e c b (fun e => awS C S n x e H stk q) (fun e => awS C S n y e H stk q)
      | .anyb => awS C S n x e H stk q ∧ awS C S n y e H stk q
      | _ => False) := h
     split at h
     ·rename_i b hb
      rw [branchC_eq hb] at h
      exact AWP.cond' hb (fun t => hx e (h.1 t)) (fun t => hy e (h.2 t))
     ·rename_i hb
      exact AWP.condU hb (hx e h.1) (hy e h.2)
     ·exact h.elim
   | block id b =>
     have h : (bif C.cuts.any (Nat.beq id) then AWP C (.block id b) e H (qOf (awS C S n) stk q) else awS C S n b e H (.blk id :: stk) q) := h
     cases hb : C.cuts.any (Nat.beq id) with
     | true => rw [hb] at h; exact qOf_sem hih hs h
     | false => rw [hb] at h; exact AWP.block' (hih b e H (.blk id :: stk) hS hs h)
   | exit j => exact aw_sound hC _ _ _ _ (runX_sem hih stk hs j e H h)
   | ret => exact aw_sound hC _ _ _ _ (show (semPost C q stk).r e H by rw [(semPost_rp C q stk).1]; exact h)
   | loop b => exact qOf_sem hih hs h
   | rangeFunc f ps as b => exact qOf_sem hih hs h
   | scope b => exact AWP.scope (hih b e H stk hS hs h)
   | label l => exact AWP.label (runN_sem hih stk hs e H h)
   | goto l => exact qOf_sem hih hs h
   | refuse s => exact qOf_sem hih hs h
theorem AWP.go {C : Cfg} (hC : C.Ok) {S : List (Nat × Sched)} {c : Code} (hS : SchOk C S c) {e : Env} {H : AH} {q : Post} (h : awF C S c e H q) : AWP C c e H q := AWP.goS hC _ c e H [] q hS trivial h
theorem AWP.reg {C : Cfg} (hC : C.Ok) {id : Nat} {ops : Array Oper} {e : Env} {H : AH} {q : Post} (h : aListF C ops q.p q.n ops.toList e H) : AWP C (.region id ops false) e H q := by
 refine aw_sound hC _ _ _ _ ?_
 unfold aw
 exact (aListF_eq C ops q.p q.n ops.toList) ▸ h
theorem AWP.regD {C : Cfg} (hC : C.Ok) (S : List (Nat × Sched)) {id : Nat} {ops : Array Oper} {e : Env} {H : AH} {q : Post} (hS : schGet S id = mkSched C ops ops.size (Array.replicate ops.size false)) (h : aRegS C ops q.n q.p (schGet S id) e H) : AWP C (.region id ops true) e H q := by
 refine aw_sound hC _ _ _ _ ?_
 unfold aw
 rw [hS] at h
 have h2 := aRegS_reg C ops q.n q.p _ _ e H h
 rw [aRegF_eq] at h2
 exact h2
theorem ACall.walk {C : Cfg} (hC : C.Ok) (S : List (Nat × Sched)) {f : FuncId} {fn : Func} {c : Code} {args : List AV} {H : AH} {K QP : AV → AH → Prop} (hf : C.P.funcs[f]? = some fn) (hname : (fn.name == "runtime.NumGoroutine") = false) (hb : fn.body = some c) (hN : fn.ntmps = C.N) (hS : (regsOf c).map (fun p => schGet S p.1) = (regsOf c).map fun p => mkSched C p.2 p.2.size (Array.replicate p.2.size false)) (hl : Nat.ble args.length C.N = true) (hbase : Nat.ble H.next C.base = true)
 (h : awF C S c (envOf 0 args) H ⟨finK C.T fn.results.toList (resF K), fun _ _ _ => False, finK C.T fn.results.toList (resF K), QP⟩) (hro : C.ro = none := by rfl) : ACall C.P f args H K QP :=
 ACall.body hC hf hname hb hN hl hbase (AWP.go hC (.of_eq hS) (resF_eq K ▸ h)) hro
end Go.Proofs.YtgfkepebfaiepaaGreatDoor.Ax
