/-
  Regions: in the text's order, and in whatever order.
-/
import Derived.Test.YtgfkepebfaiepaaGreatDoorBxR
namespace Go.Proofs.YtgfkepebfaiepaaGreatDoor.Ax
open Go.RowKit
def undefA : AV := .iv (.v (.tuple #[]))
def aGuard (ops : Array Oper) (e : Env) (o : Oper) (yes no : Prop) : Prop :=
 match o.guard with
 | none => yes
 | some (j, want) => match (ops[j]?).bind (·.dst) with
   | none => no
   | some t => match e.get t with
     | .iv (.v (.bool b)) => (b = true → bif want then yes else no) ∧ (b = false → bif want then no else yes)
     | .iv (.v (.tuple _)) => no
     | _ => False
def aOne (C : Cfg) (ops : Array Oper) (o : Oper) (e : Env) (H : AH) (K : Env → AH → Prop) (QP : AV → AH → Prop) : Prop :=
 aGuard ops e o (aop C (opd e) H o.op (fun v H' => K (e.putd C.N o.dst v) H') QP) (K (e.putd C.N o.dst undefA) H)
def aList (C : Cfg) (ops : Array Oper) (QP : AV → AH → Prop) (K : Env → AH → Prop) : List Oper → Env → AH → Prop
 | [], e, H => K e H
 | o :: os, e, H => aOne C ops o e H (fun e' H' => aList C ops QP K os e' H') QP
def LiftE (K : Env → AH → Prop) (N B lo : Nat) (ρ : Rho) (ι : Imm) (H : AH) (w : World) (a : Act) (w' : World) : Prop :=
 ∃ e H' ρ' ι', K e H' ∧ ER ρ' ι' N e a ∧ SR ρ' ι' H' w' ∧ WentB B ρ ι H w ρ' ι' H' w' ∧ Mk lo ρ' H' w' a.defers
theorem LiftE.from {K : Env → AH → Prop} {N B lo : Nat} {ρ ι H w ρ' ι' H' w' a w''} (h : LiftE K N B lo ρ' ι' H' w' a w'') (hw : WentB B ρ ι H w ρ' ι' H' w') : LiftE K N B lo ρ ι H w a w'' :=
 let ⟨e, H'', ρ'', ι'', k, x, y, z, m⟩ := h
 ⟨e, H'', ρ'', ι'', k, x, y, hw.trans z, m⟩
def LiftV (K : AV → AH → Prop) (B lo : Nat) (ρ : Rho) (ι : Imm) (H : AH) (w : World) (ds : List Deferred) (v : Value) (w' : World) : Prop :=
 ∃ r H' ρ' ι', K r H' ∧ r.R ρ' ι' v ∧ SR ρ' ι' H' w' ∧ WentB B ρ ι H w ρ' ι' H' w' ∧ Mk lo ρ' H' w' ds
theorem Lift.weak {K : AV → AH → Prop} {B lo ρ ι H w ds v w'} (h : Lift K ρ ι H w v w') (hM : Mk lo ρ H w ds) : LiftV K B lo ρ ι H w ds v w' :=
 let ⟨r, H', ρ', ι', a, b, c, d⟩ := h
 ⟨r, H', ρ', ι', a, b, c, d.weak, hM.went (n := B) d.weak⟩
theorem LiftV.from {K : AV → AH → Prop} {B lo ρ ι H w ρ' ι' H' w' ds v w''} (h : LiftV K B lo ρ' ι' H' w' ds v w'') (hw : WentB B ρ ι H w ρ' ι' H' w') : LiftV K B lo ρ ι H w ds v w'' :=
 let ⟨e, H'', ρ'', ι'', k, x, y, z, m⟩ := h
 ⟨e, H'', ρ'', ι'', k, x, y, hw.trans z, m⟩
section
variable {ρ : Rho} {ι : Imm} {w : World} {H : AH} {C : Cfg}
theorem aGuard_sound {ops : Array Oper} {e : Env} {a : Act} {N : Nat} (hE : ER ρ ι N e a) (o : Oper) {yes no : Prop} (h : aGuard ops e o yes no) : if Region.wanted o (yielded ops a.tmps) = true then yes else no := by
 unfold aGuard at h
 cases hg : o.guard with
 | none =>
   rw [hg] at h
   rw [if_pos (by simp [Region.wanted, hg])]
   exact h
 | some p =>
   obtain ⟨j, want⟩ := p
   rw [hg] at h
   simp only at h
   cases hd : (ops[j]?).bind (·.dst) with
   | none =>
     simp only [hd] at h
     rw [if_neg (by simp [Region.wanted, hg, yielded, hd])]
     exact h
   | some t =>
     simp only [hd] at h
     have hs := hE.slot t
     split at h
     ·rename_i b hb
      rw [hb] at hs
      simp only [AV.R, IV.R] at hs
      have ht : a.tmps[t]? = some (.bool b) := by
       cases ht : a.tmps[t]? with
       | none => simp [Array.getD_eq_getD_getElem?, ht, undef] at hs
       | some x => simp [Array.getD_eq_getD_getElem?, ht] at hs; rw [hs]
      have hy : yielded ops a.tmps j = some b := by simp [yielded, hd, ht]
      cases b <;> cases want <;> simp_all [Region.wanted]
     ·rename_i x hb
      rw [hb] at hs
      simp only [AV.R, IV.R] at hs
      have hy : yielded ops a.tmps j = none := by
       unfold yielded
       rw [hd]
       simp only [Option.bind_some]
       cases ht : a.tmps[t]? with
       | none => rfl
       | some y =>
         simp [Array.getD_eq_getD_getElem?, ht] at hs
         rw [hs]
      rw [if_neg (by simp [Region.wanted, hg, hy])]
      exact h
     ·exact h.elim
theorem put_defers (a : Act) (d : Option Tmp) (u : Value) : (a.put d u).defers = a.defers := by cases d <;> rfl
theorem undefA_R : undefA.R ρ ι undef := by simp [undefA, AV.R, IV.R, undef]
theorem aOne_sound (hC : C.Ok) (hS : SR ρ ι H w) {ops : Array Oper} {e : Env} {a : Act} (hE : ER ρ ι C.N e a) {lo : Nat} (hM : Mk lo ρ H w a.defers) (o : Oper) {K : Env → AH → Prop} {QP : AV → AH → Prop} (h : aOne C ops o e H K QP) {next : Act → World → Prop} {Q : Exit → Act → World → Prop}
 (hn : ∀ a' w', LiftE K C.N C.base lo ρ ι H w a' w' → next a' w') (hq : ∀ a v w', LiftV QP C.base lo ρ ι H w a.defers v w' → Q (.panic [{ v, recovered := false }]) a w') : if Region.wanted o (yielded ops a.tmps) = true then o.wpIn (FE C.ro) 0 C.P a w next Q else (∀ f, o.about C.P w a.eval = some f → (FE C.ro).fn f) ∧ next (a.put o.dst undef) w := by
 have h' := aGuard_sound hE o h
 split
 ·rename_i hw
  rw [if_pos hw] at h'
  refine aop_sound hC hS hE o h' (fun v w' hl => ?_) (fun v w' hl => hq a v w' (hl.weak hM))
  obtain ⟨r, H', ρ', ι', k, x, y, z⟩ := hl
  exact hn _ _ ⟨_, H', ρ', ι', k, (hE.mono z.agree z.imm).putd o.dst x, y, z.weak, by rw [put_defers]; exact hM.went (n := 0) z.weak⟩
 ·rename_i hw
  rw [if_neg hw] at h'
  exact ⟨fun _ _ => trivial, hn _ _ ⟨_, H, ρ, ι, h', hE.putd o.dst undefA_R, hS, WentB.refl .., by rw [put_defers]; exact hM⟩⟩
theorem aList_sound (hC : C.Ok) {ops : Array Oper} {K : Env → AH → Prop} {QP : AV → AH → Prop} {Q : Exit → Act → World → Prop} {lo : Nat} : ∀ (os : List Oper) (ρ : Rho) (ι : Imm) (H : AH) (w : World) (e : Env) (a : Act), SR ρ ι H w → ER ρ ι C.N e a → Mk lo ρ H w a.defers → aList C ops QP K os e H →
 (∀ a' w', LiftE K C.N C.base lo ρ ι H w a' w' → Q .normal a' w') → (∀ a v w', LiftV QP C.base lo ρ ι H w a.defers v w' → Q (.panic [{ v, recovered := false }]) a w') → wpListIn (FE C.ro) 0 C.P ops Q os a w
 | [], ρ, ι, H, w, e, a, hS, hE, hM, h, hn, hq => hn a w ⟨e, H, ρ, ι, h, hE, hS, WentB.refl .., hM⟩
 | o :: os, ρ, ι, H, w, e, a, hS, hE, hM, h, hn, hq => by
   refine wpListIn_step fun K' hK => ?_
   refine aOne_sound hC hS hE hM o h (fun a' w' hl => hK a' w' ?_) hq
   obtain ⟨e', H', ρ', ι', k, x, y, z, m⟩ := hl
   exact aList_sound hC os ρ' ι' H' w' e' a' y x m k (fun a'' w'' hl => hn _ _ (hl.from z)) (fun a'' v w'' hl => hq _ _ _ (hl.from z))
def subP : List (Nat × Chunk) → AH → Prop
 | [], _ => True
 | p :: ps, H' => H'.get p.1 = some p.2 ∧ subP ps H'
theorem subP_sub {H H' : AH} (h : subP H.ch H') : AH.Sub H H' := by
 intro k c hk
 have hm := AH.get_mem hk
 generalize H.ch = l at h hm
 induction l with
 | nil => cases hm
 | cons p ps ih =>
   obtain ⟨h1, h2⟩ := h
   rcases List.mem_cons.1 hm with rfl | hm
   ·exact h1
   ·exact ih h2 hm
def lenPure (C : Cfg) : List TypeId → Bool
 | t :: _ => match C.T.get t with
   | some d => match d.k with
     | .str | .sl _ => true
     | _ => false
   | none => false
 | [] => false
def opPure (C : Cfg) : Op → Bool
 | .move _ | .assign _ | .pick .. | .nilCheck _ | .unOp .. | .binOp .. | .makeInterface .. | .extract .. | .field .. | .fieldAddr .. | .indexAddr .. | .index .. | .slice .. | .sliceToArrayPointer .. | .build .. | .typeAssert .. => true
 | .makeFunc fn f c => !C.frz (.makeFunc fn f c)
 | .call c => match c.callee with | .builtin .min | .builtin .max => true | .builtin .len => lenPure C c.argTypes.toList | _ => false
 | _ => false
def opReads (C : Cfg) : Op → Bool
 | .load _ (.global _) => false
 | .load .. | .lookup .. => true
 | .convert _ d _ => (elemOfT C.T d).isNone
 | .call c => match c.callee with | .builtin .len | .builtin .min | .builtin .max => true | _ => false
 | op => opPure C op
def opFlagged (C : Cfg) : Op → Bool
 | .call c => match c.callee with | .value (.func f) => C.pure.contains f | _ => false
 | _ => false
def opExt (C : Cfg) : Op → Bool
 | .alloc _ | .box .. | .buildSlice .. | .makeMap .. | .makeSlice .. => true
 | .convert s d x => !(Nat.beq s d && C.frz (.convert s d x))
 | op => opReads C op || opFlagged C op
def aOneD (C : Cfg) (ops : Array Oper) (o : Oper) (e : Env) (H : AH) (K : Env → AH → Prop) (QP : AV → AH → Prop) : Prop :=
 bif opFlagged C o.op then aOne C ops o e H (fun e' H' => subP H.ch H' ∧ K e' H') QP else aOne C ops o e H K QP
theorem aGuard_mono {ops : Array Oper} {e : Env} {o : Oper} {y n y' n' : Prop} (hy : y → y') (hn : n → n') (h : aGuard ops e o y n) : aGuard ops e o y' n' := by
 unfold aGuard at h ⊢
 split
 ·simp_all only
 ·rename_i j want hg
  simp only [hg] at h
  split
  ·rename_i hd
   simp only [hd] at h
   exact hn h
  ·rename_i t hd
   simp only [hd] at h
   split
   ·rename_i b hb
    simp only [hb] at h
    refine ⟨fun hb => ?_, fun hb => ?_⟩
    ·have := h.1 hb
     cases want
     ·exact hn this
     ·exact hy this
    ·have := h.2 hb
     cases want
     ·exact hy this
     ·exact hn this
   ·rename_i x hb
    simp only [hb] at h
    exact hn h
   ·rename_i h1 h2
    split at h
    ·rename_i hb; exact absurd hb (h1 _)
    ·rename_i hb; exact absurd hb (h2 _)
    ·exact h
theorem aOne_mono {ops : Array Oper} {o : Oper} {e : Env} {K K' : Env → AH → Prop} {QP : AV → AH → Prop} (hk : ∀ e' H', K e' H' → K' e' H') (h : aOne C ops o e H K QP) : aOne C ops o e H K' QP :=
 aGuard_mono (aop_mono fun _ _ => hk _ _) (hk _ _) h
theorem aOneD_mono {ops : Array Oper} {o : Oper} {e : Env} {K K' : Env → AH → Prop} {QP : AV → AH → Prop} (hk : ∀ e' H', K e' H' → K' e' H') (h : aOneD C ops o e H K QP) : aOneD C ops o e H K' QP := by
 unfold aOneD at h ⊢
 cases hf : opFlagged C o.op with
 | true => simp only [hf, cond_true] at h ⊢; exact aOne_mono (fun e' H' h => ⟨h.1, hk _ _ h.2⟩) h
 | false => simp only [hf, cond_false] at h ⊢; exact aOne_mono hk h
theorem aOneD_one {ops : Array Oper} {o : Oper} {e : Env} {K : Env → AH → Prop} {QP : AV → AH → Prop} (h : aOneD C ops o e H K QP) : aOne C ops o e H K QP := by
 unfold aOneD at h
 cases hf : opFlagged C o.op with
 | true => simp only [hf, cond_true] at h; exact aOne_mono (fun _ _ h => h.2) h
 | false => simp only [hf, cond_false] at h; exact h
theorem get_add {H : AH} {c : Chunk} {k : Nat} {d : Chunk} (h : H.get k = some d) : (H.add c).get k = some d := by
 unfold AH.get AH.add at *
 simp only
 generalize H.ch = l at h
 induction l with
 | nil => cases h
 | cons p ps ih =>
   simp only [List.cons_append, AH.get.go] at h ⊢
   cases hb : Nat.beq p.1 k with
   | true => rw [hb] at h; exact h
   | false => rw [hb] at h; exact ih h
theorem aop_ext {g : Operand → AV} {op : Op} {K QP : AV → AH → Prop} (he : opExt C op = true) (hf : opFlagged C op = false) (h : aop C g H op K QP) : aop C g H op (fun v H' => AH.Sub H H' ∧ K v H') QP := by
 unfold aop at h ⊢
 have mo : ∀ (cs : List Cnd) (p q : Prop), (p → q) → ands cs p → ands cs q := fun cs p q hpq => by
  induction cs with
  | nil => exact hpq
  | cons c cs ih => rw [ands_cons, ands_cons]; exact fun ⟨a, b⟩ => ⟨a, ih b⟩
 cases hx : xop C.T g op with
 | some p =>
   obtain ⟨cs, c, f⟩ := p
   simp only [hx] at h ⊢
   cases hfz : frzOp C op c with
   | some v => simp only [hfz] at h ⊢; exact mo _ _ _ (fun k => ⟨AH.Sub.refl _, k⟩) h
   | none => simp only [hfz] at h ⊢; exact mo _ _ _ (fun k => ⟨fun _ _ hk => get_add hk, k⟩) h
 | none =>
   simp only [hx] at h ⊢
   have hw : wop C.frz C.T g H op = none ∨ ∃ cs r, wop C.frz C.T g H op = some (cs, r, H) := by
    cases op <;> first | exact .inl rfl | (simp [opExt, opReads, opPure, opFlagged] at he; done) | skip
    case makeFunc fn f c =>
     refine .inl ?_
     have hfz : C.frz (.makeFunc fn f c) = false := by simpa [opExt, opReads, opPure, opFlagged] using he
     simp only [wop, cloW, hfz, cond_false]
    ·rename_i s d x
     cases hl : litW (C.frz (.convert s d x)) C.T H s d (g x) with
     | none => exact .inl hl
     | some p =>
       obtain ⟨cs, r, H'⟩ := p
       refine .inr ⟨cs, r, ?_⟩
       have : H' = H := by
        unfold litW at hl
        split at hl
        ·rename_i de _
         cases hb : (Nat.beq s d && isByte de) with
         | false => rw [hb] at hl; cases hl
         | true =>
           rw [hb] at hl
           simp only [cond_true] at hl
           have hfz : C.frz (.convert s d x) = false := by
            simp only [opExt, Bool.not_eq_true', Bool.and_eq_false_iff] at he
            rw [Bool.and_eq_true] at hb
            rcases he with he | he
            ·rw [hb.1] at he; cases he
            ·exact he
           rw [hfz] at hl
           split at hl
           ·split at hl
            ·simp only [cond_false, Option.some.injEq, Prod.mk.injEq] at hl
             exact hl.2.2.symm
            ·cases hl
           ·cases hl
        ·cases hl
       subst this
       exact hl
    rename_i c
    obtain ⟨callee, args, ats⟩ := c
    cases callee with
    | builtin b => cases b <;> first | exact .inl rfl | (simp [opExt, opReads, opFlagged] at he; done)
    | _ => exact .inl rfl
   rcases hw with hw | ⟨cs, r, hw⟩
   case inr => simp only [hw] at h ⊢; exact mo _ _ _ (fun k => ⟨AH.Sub.refl _, k⟩) h
   simp only [hw] at h ⊢
   have hc : callOf g op = none := by
    cases op <;> first | rfl | skip
    rename_i c
    obtain ⟨callee, args, ats⟩ := c
    cases callee with
    | builtin b => rfl
    | invoke r m => simp [opExt, opReads, opFlagged] at he
    | value f =>
      exfalso
      simp only [opExt, opReads, Bool.false_or] at he
      rw [hf] at he
      cases he
   simp only [hc] at h ⊢
   have hp : panicOf g op = none := by
    cases op <;> first | rfl | (simp [opExt, opReads, opPure, opFlagged] at he; done)
   simp only [hp] at h ⊢
   cases hnx : nextOf C.T g H op with
   | some x =>
     simp only [hnx] at h ⊢
     cases x with
     | gl h0 => exact ⟨AH.Sub.refl _, h⟩
     | nxt h0 kk m left i =>
       exfalso
       cases op <;> first | (simp [opExt, opReads, opPure, opFlagged] at he; done) | (simp [nextOf] at hnx; done) | skip
       case load t a => cases a <;> first | (simp [opExt, opReads, opFlagged] at he; done) | (simp [nextOf] at hnx; done)
     | ent k x =>
       exfalso
       cases op <;> first | (simp [opExt, opReads, opPure, opFlagged] at he; done) | (simp [nextOf] at hnx; done) | skip
       case load t a => cases a <;> first | (simp [opExt, opReads, opFlagged] at he; done) | (simp [nextOf] at hnx; done)
   | none =>
   simp only [hnx] at h ⊢
   generalize rop C.T C.wr g H op = r at h ⊢
   cases r with
   | no => exact h
   | one cs v => exact mo _ _ _ (fun k => ⟨AH.Sub.refl _, k⟩) h
   | opt o s n => exact ⟨fun x e => ⟨AH.Sub.refl _, h.1 x e⟩, fun e => ⟨AH.Sub.refl _, h.2 e⟩⟩
theorem aOneD_more {ops : Array Oper} {o : Oper} {e : Env} {K : Env → AH → Prop} {QP : AV → AH → Prop} (h : aOneD C ops o e H K QP) : aOneD C ops o e H (fun e' H' => (∃ u, e' = e.putd C.N o.dst u) ∧ (opExt C o.op = true → AH.Sub H H') ∧ K e' H') QP := by
 unfold aOneD at h ⊢
 cases hf : opFlagged C o.op with
 | true =>
   simp only [hf, cond_true] at h
   exact aGuard_mono (aop_mono fun v H' h => ⟨h.1, ⟨v, rfl⟩, fun _ => subP_sub h.1, h.2⟩) (fun h => ⟨h.1, ⟨_, rfl⟩, fun _ => AH.Sub.refl _, h.2⟩) h
 | false =>
   simp only [hf, cond_false] at h
   cases he : opExt C o.op with
   | true => exact aGuard_mono (fun h => aop_mono (fun v H' h => ⟨⟨v, rfl⟩, fun _ => h.1, h.2⟩) (aop_ext he hf h)) (fun h => ⟨⟨_, rfl⟩, fun _ => AH.Sub.refl _, h⟩) h
   | false => exact aGuard_mono (aop_mono fun v H' h => ⟨⟨v, rfl⟩, fun h => by simp at h, h⟩) (fun h => ⟨⟨_, rfl⟩, fun h => by simp at h, h⟩) h
end
end Go.Proofs.YtgfkepebfaiepaaGreatDoor.Ax
