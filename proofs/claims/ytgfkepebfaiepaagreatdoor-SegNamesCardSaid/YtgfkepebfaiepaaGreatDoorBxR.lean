/-
  Operations: all of them, as transformers of what follows; calls.
-/
import Derived.Test.YtgfkepebfaiepaaGreatDoorBxQa
import Derived.RangeFuncLeaves
import Derived.OrdersIn
import Derived.LoopNIn
import Derived.TacticsIn
import Derived.RangeFuncSeq
import Derived.RangeFuncCalls
namespace Go.Proofs.YtgfkepebfaiepaaGreatDoor.Ax
open Go.RowKit
def Lift (K : AV → AH → Prop) (ρ : Rho) (ι : Imm) (H : AH) (w : World) (v : Value) (w' : World) : Prop :=
 ∃ r H' ρ' ι', K r H' ∧ r.R ρ' ι' v ∧ SR ρ' ι' H' w' ∧ Went ρ ι H w ρ' ι' H' w'
def CPost (K QP : AV → AH → Prop) (ρ : Rho) (ι : Imm) (H : AH) (w : World) : Ending → World → Prop
 | .returned v, w' => Lift K ρ ι H w v w'
 | .panicked chain, w' => ∃ v, chain = [{ v, recovered := false }] ∧ Lift QP ρ ι H w v w'
 | .outgrown, _ => False
structure ACall (P : Program) (f : FuncId) (args : List AV) (H : AH) (K QP : AV → AH → Prop) : Prop where
 fn : ∃ fn, P.funcs[f]? = some fn ∧ (fn.name == "runtime.NumGoroutine") = false ∧ fn.body.isNone = false
 run : ∀ ρ ι w cargs, GOk ι → SR ρ ι H w → AV.Rs ρ ι args cargs → Calls P f cargs.toArray w (CPost K QP ρ ι H w)
theorem Lift.mono {K K' : AV → AH → Prop} {ρ ι H w v w'} (h : Lift K ρ ι H w v w') (hk : ∀ r H', K r H' → K' r H') : Lift K' ρ ι H w v w' :=
 let ⟨r, H', ρ', ι', a, b⟩ := h
 ⟨r, H', ρ', ι', hk _ _ a, b⟩
theorem CPost.mono {K K' QP QP' : AV → AH → Prop} {ρ ι H w} (hk : ∀ r H', K r H' → K' r H') (hq : ∀ r H', QP r H' → QP' r H') : ∀ e w', CPost K QP ρ ι H w e w' → CPost K' QP' ρ ι H w e w'
 | .returned _, _, h => Lift.mono h hk
 | .panicked _, _, h => let ⟨v, e, l⟩ := h; ⟨v, e, l.mono hq⟩
 | .outgrown, _, h => h
theorem ACall.mono {P f args H} {K K' QP QP' : AV → AH → Prop} (h : ACall P f args H K QP) (hk : ∀ r H', K r H' → K' r H') (hq : ∀ r H', QP r H' → QP' r H') : ACall P f args H K' QP' :=
 ⟨h.fn, fun ρ ι w cargs hG hS hr => (h.run ρ ι w cargs hG hS hr).mono fun e w' hp => CPost.mono hk hq e w' hp⟩
def FE (rb : Option Nat) : Fence := { Fence.wide with round := rb }
theorem calls_FE {rb : Option Nat} {P : Program} {f : Nat} {as : Array Value} {w : World} {R : Ending → World → Prop} (h : Calls P f as w R) : CallsIn (FE rb) 0 P f as w R := by
 have h := (callsIn_wide (n := 0)).2 h
 cases rb with
 | none => exact h
 | some l => exact h.inRound l
theorem round_FE {rb : Option Nat} {P : Program} {l f : Nat} {tmps : Array Value} {asg body : Code} {w : World} {R : Ending → World → Prop} (h : RoundIn Fence.wide 0 P l f tmps asg body w R) : RoundIn (FE rb) 0 P l f tmps asg body w R := by
 cases rb with
 | none => exact h
 | some b => exact h
structure YCall (P : Program) (l : Nat) (args : List AV) (H : AH) (K QP : AV → AH → Prop) : Prop where
 run : ∀ ρ ι w cargs, GOk ι → SR ρ ι H w → AV.Rs ρ ι args cargs → ∃ fn tmps asg body, (Instr.yield l cargs.toArray).run P w = .ok (.round l fn tmps asg body) w ∧ RoundIn Fence.wide 0 P l fn tmps asg body w (CPost K QP ρ ι H w)
theorem YCall.mono {P l args H} {K K' QP QP' : AV → AH → Prop} (h : YCall P l args H K QP) (hk : ∀ r H', K r H' → K' r H') (hq : ∀ r H', QP r H' → QP' r H') : YCall P l args H K' QP' :=
 ⟨fun ρ ι w cargs hG hS hr => let ⟨fn, tmps, asg, body, a, b⟩ := h.run ρ ι w cargs hG hS hr; ⟨fn, tmps, asg, body, a, b.mono fun e w' hp => CPost.mono hk hq e w' hp⟩⟩
inductive Cal where
 | fn (f : FuncId)
 | yl (l : Nat)
def Called (P : Program) (c : Cal) (args : List AV) (H : AH) (K QP : AV → AH → Prop) : Prop :=
 match c with
 | .fn f => ACall P f args H K QP
 | .yl l => YCall P l args H K QP
theorem Called.mono {P c args H} {K K' QP QP' : AV → AH → Prop} (h : Called P c args H K QP) (hk : ∀ r H', K r H' → K' r H') (hq : ∀ r H', QP r H' → QP' r H') : Called P c args H K' QP' := by
 cases c with
 | fn f => exact ACall.mono h hk hq
 | yl l => exact YCall.mono h hk hq
noncomputable def wop (fz : Op → Bool) (T : TT) (g : Operand → AV) (H : AH) : Op → WOut
 | .store t a x => storeW T H t (g a) (g x)
 | .mapUpdate t m k v => updW T H t (g m) (g k) (g v)
 | .convert s d x => litW (fz (.convert s d x)) T H s d (g x)
 | .range t x => rangeW T H t (g x)
 | .makeFunc fn f c => cloW fz g H fn f c
 | .call c => match c.callee, c.argTypes.toList, c.args.toList with
   | .builtin .append, [t, t2], [s, x] => appW T H t t2 (g s) (g x)
   | .builtin .delete, [t, _], [m, k] => delW T H t (g m) (g k)
   | .builtin .clear, [t], [x] => clearW T H t (g x)
   | .builtin .copy, [t, _], [s, x] => copyW T H t (g s) (g x)
   | _, _, _ => none
 | _ => none
def callOf (g : Operand → AV) : Op → Option (Cal × List AV)
 | .call c => match c.callee with
   | .value f => match g f with
     | .iv (.v (.func (.func f) ⟨[]⟩ ⟨[]⟩)) => some (.fn f, c.args.toList.map g)
     | .iv (.v (.func (.yield l) ⟨[]⟩ ⟨[]⟩)) => some (.yl l, c.args.toList.map g)
     | .fnc (.func f) a b => some (.fn f, a ++ c.args.toList.map g ++ b)
     | .iv (.fnc (.func f) a b) => some (.fn f, a.map .iv ++ c.args.toList.map g ++ b.map .iv)
     | _ => none
   | .invoke r n => match g r with
     | .ifc t x => (mget meths t n).map fun f => (.fn f, x :: c.args.toList.map g)
     | .iv (.ifc t x) => (mget meths t n).map fun f => (.fn f, .iv x :: c.args.toList.map g)
     | _ => none
   | _ => none
 | _ => none
def panicOf (g : Operand → AV) : Op → Option AV
 | .panic x => match g x with
   | .ifc t y => some (.ifc t y)
   | .iv (.ifc t y) => some (.iv (.ifc t y))
   | _ => none
 | _ => none
structure Cfg where
 P : Program
 T : TT
 wr : Bool
 N : Nat
 pure : List Nat
 base : Nat
 frz : Op → Bool := fun _ => false
 cuts : List Nat := []
 ro : Option Nat := none
def frzOp (C : Cfg) (op : Op) (c : Chunk) : Option AV :=
 bif C.frz op then (match c with
  | .cells _ l => bif l.all AV.one then frzV c else none
  | c => frzV c) else none
theorem xop_cells {T : TT} {g : Operand → AV} {op : Op} {cs : List Cnd} {e : TypeId} {l : List AV} {f : Nat → AV} (h : xop T g op = some (cs, .cells e l, f)) : toIVs l = none ∨ f = fun h => .ptr h 0 := by
 cases op <;> simp only [xop] at h <;> try cases h
 case alloc e =>
  split at h
  ·obtain ⟨zs, hz, hq⟩ := Option.map_eq_some_iff.1 h
   simp only [Prod.mk.injEq] at hq
   exact .inr hq.2.2.symm
  ·cases h
 case box e x =>
  obtain ⟨zs, hz, hq⟩ := Option.map_eq_some_iff.1 h
  simp only [Prod.mk.injEq] at hq
  exact .inr hq.2.2.symm
 case buildSlice t len ps =>
  split at h
  ·rename_i e' de he
   split at h
   ·rename_i z hz
    split at h
    ·rename_i flat hf
     cases hb : (Nat.beq z.length de.size && !(Nat.beq de.size 0) && Nat.ble (len * de.size) 1000) with
     | false => rw [hb] at h; cases h
     | true =>
       rw [hb] at h
       simp only [cond_true] at h
       obtain ⟨⟨cs', c'⟩, hp, hq⟩ := Option.map_eq_some_iff.1 h
       simp only [Prod.mk.injEq] at hq
       obtain ⟨rfl, rfl, rfl⟩ := hq
       unfold rowOf at hp
       cases hby : isByte de with
       | true =>
         rw [hby] at hp
         simp only [cond_true] at hp
         obtain ⟨_, _, hq⟩ := Option.map_eq_some_iff.1 hp
         simp only [Prod.mk.injEq] at hq
         cases hq.2
       | false =>
         rw [hby] at hp
         simp only [cond_false] at hp
         cases hone : flat.all AV.one with
         | false => rw [hone] at hp; cases hp
         | true =>
           rw [hone] at hp
           simp only [Bool.not_true, cond_false] at hp
           cases hiv : toIVs flat with
           | none =>
             rw [hiv] at hp
             simp only [Option.some.injEq, Prod.mk.injEq, Chunk.cells.injEq] at hp
             obtain ⟨_, _, rfl⟩ := hp
             exact .inl hiv
           | some l =>
             rw [hiv] at hp
             simp only [Option.some.injEq, Prod.mk.injEq] at hp
             cases hp.2
    ·cases h
   ·cases h
  ·cases h
 case makeMap t r =>
  cases r with
  | some r => cases h
  | none =>
    simp only at h
    split at h
    ·split at h
     ·split at h
      ·cases h
      ·cases h
     ·cases h
    ·cases h
 case makeSlice t l0 c0 =>
  split at h
  ·rename_i e de n m he hl hm
   split at h
   ·rename_i z _
    cases hb : (Nat.beq z.length de.size && !(Nat.beq de.size 0)) with
    | false => rw [hb] at h; cases h
    | true =>
      rw [hb] at h
      simp only [cond_true] at h
      cases hbt : isByte de with
      | true => rw [hbt] at h; cases h
      | false =>
        rw [hbt] at h
        simp only [cond_false] at h
        cases hone : z.all AV.one with
        | false => rw [hone] at h; cases h
        | true =>
          rw [hone] at h
          simp only [Bool.not_true, cond_false] at h
          obtain ⟨_, _, hq⟩ := Option.map_eq_some_iff.1 h
          simp only [Prod.mk.injEq] at hq
          cases hq.2.1
   ·cases h
  ·cases h
 case convert s d x =>
  split at h
  ·split at h
   ·cases h
   ·cases h
  ·cases h
theorem frzOp_sound {ρ : Rho} {ι : Imm} {w : World} {H : AH} {C : Cfg} {P : Program} {s : Sem Next} {op : Op} {g : Operand → AV} {cs : List Cnd} {c : Chunk} {f : Nat → AV} {r : AV} (hS : SR ρ ι H w) (hx : xop C.T g op = some (cs, c, f)) (h : XOk P w s ρ ι H c f) (hr : frzOp C op c = some r) :
 ∃ v w' ι', s.run P w = .ok (.value v) w' ∧ SR ρ ι' H w' ∧ Went ρ ι H w ρ ι' H w' ∧ r.R ρ ι' v := by
 unfold frzOp at hr
 cases hf : C.frz op with
 | false => rw [hf] at hr; cases hr
 | true =>
   rw [hf] at hr
   simp only [cond_true] at hr
   split at hr
   ·rename_i e l
    cases hl : l.all AV.one with
    | false => rw [hl] at hr; cases hr
    | true =>
      rw [hl] at hr
      exact h.frz hS hr fun e' cs' he => by cases he; exact ⟨hl, (xop_cells hx).resolve_left fun hn => by simp [frzV, hn] at hr⟩
   ·rename_i hne
    exact h.frz hS hr fun e' cs' he => (hne e' cs' he).elim
def aop (C : Cfg) (g : Operand → AV) (H : AH) (op : Op) (K QP : AV → AH → Prop) : Prop :=
 match xop C.T g op with
 | some (cs, c, f) => match frzOp C op c with
   | some v => ands cs (K v H)
   | none => ands cs (K (f H.next) (H.add c))
 | none => match wop C.frz C.T g H op with
   | some (cs, r, H') => ands cs (K r H')
   | none => match callOf g op with
     | some (c, args) => Called C.P c args H K QP
     | none => match panicOf g op with
       | some x => QP x H
       | none => match nextOf C.T g H op with
         | some x => nextP H x K
         | none => (rop C.T C.wr g H op).K fun v => K v H
structure Cfg.Ok (C : Cfg) : Prop where
 T : TOk C.P C.T
 by_ : TBytes C.T
 mix : C.P.follows .mixedOrders = true
theorem aop_mono {C : Cfg} {g : Operand → AV} {H : AH} {op : Op} {K K' QP : AV → AH → Prop} (hk : ∀ r H', K r H' → K' r H') (h : aop C g H op K QP) : aop C g H op K' QP := by
 have mo : ∀ (cs : List Cnd) (p q : Prop), (p → q) → ands cs p → ands cs q := fun cs p q hpq => by
  induction cs with
  | nil => exact hpq
  | cons c cs ih => rw [ands_cons, ands_cons]; exact fun ⟨a, b⟩ => ⟨a, ih b⟩
 unfold aop at h ⊢
 split
 ·simp_all only
  split
  ·simp_all only
   exact mo _ _ _ (hk _ _) h
  ·simp_all only
   exact mo _ _ _ (hk _ _) h
 ·simp_all only
  split
  ·simp_all only
   exact mo _ _ _ (hk _ _) h
  ·simp_all only
   split
   ·simp_all only
    exact Called.mono h hk fun _ _ q => q
   ·simp_all only
    split
    ·simp_all only
    ·simp_all only
     split
     ·simp_all only
      exact nextP_mono hk h
     ·simp_all only
      generalize rop C.T C.wr g H op = r at h
      cases r with
      | no => exact h
      | one cs v => exact mo _ _ _ (hk _ _) h
      | opt o s n => exact ⟨fun x e => hk _ _ (h.1 x e), fun e => hk _ _ (h.2 e)⟩
section
variable {ρ : Rho} {ι : Imm} {w : World} {H : AH} {C : Cfg}
theorem wop_sound (hC : C.Ok) (hS : SR ρ ι H w) {g : Operand → AV} {ev : Operand → Value} (hg : ∀ x, (g x).R ρ ι (ev x)) (o : Oper) {cs : List Cnd} {r : AV} {H' : AH} (h : wop C.frz C.T g H o.op = some (cs, r, H')) (hc : ands cs True) :
 ∃ v w' ρ' ι', ((execOp ev o).run C.P w = .ok (.value v) w' ∨ ((execOp ev o).run C.P w = .ok .skip w' ∧ v = undef)) ∧ SR ρ' ι' H' w' ∧ Went ρ ι H w ρ' ι' H' w' ∧ r.R ρ' ι' v := by
 obtain ⟨dst, op, type, pos, after, guard⟩ := o
 cases op <;> simp only [wop] at h <;> try cases h
 case store t a x =>
  obtain ⟨w', h1, rfl, h2, h3⟩ := storeW_ok hC.T hS t _ _ (hg a) (hg x) h hc
  exact ⟨undef, w', ρ, ι, .inr ⟨by simp [execOp, h1], rfl⟩, h2, h3, AV.R_junk _ _ _⟩
 case mapUpdate t m k x =>
  obtain ⟨w', h1, rfl, h2, h3⟩ := updW_ok hC.T hS t _ _ _ (hg m) (hg k) (hg x) h
  exact ⟨undef, w', ρ, ι, .inr ⟨by simp [execOp, h1], rfl⟩, h2, h3, AV.R_junk _ _ _⟩
 case convert s d x =>
  obtain ⟨_, w', ι', h1, h2, h3, h4⟩ := litW_ok _ hC.T hS s d _ (hg x) h hc
  exact ⟨_, w', ρ, ι', .inl (by simp [execOp, h1]), h2, h3, h4⟩
 case range t x =>
  obtain ⟨v, w', ρ', h1, h2, h3, h4⟩ := rangeW_ok (P := C.P) hC.T hS t _ (hg x) h
  exact ⟨v, w', ρ', ι, .inl (by simp [execOp, h1]), h3, h4, h2⟩
 case makeFunc fn f c =>
  obtain ⟨ρ', ι', h1, h2, h3⟩ := cloW_ok hS hg h
  exact ⟨_, w, ρ', ι', .inl (by simp [execOp, Instr.makeFunc]), h1, h2, h3⟩
 case call c =>
  obtain ⟨callee, ⟨args⟩, ⟨ats⟩⟩ := c
  split at h
  ·rename_i t t2 s x h1 h2 h3
   simp only at h1 h2 h3
   subst h1 h2 h3
   obtain ⟨v, w', ρ', g1, g2, g3, g4⟩ := appW_ok (ty := type) hC.T hC.by_ hS t t2 _ _ (hg s) (hg x) h hc
   exact ⟨v, w', ρ', ι, .inl (by simp [execOp, resolve, invoke, builtin, g1]), g2, g3, g4⟩
  ·rename_i t t2 m k h1 h2 h3
   simp only at h1 h2 h3
   subst h1 h2 h3
   obtain ⟨w', g1, rfl, g2, g3⟩ := delW_ok hC.T hS t [t2] type _ _ (hg m) (hg k) h
   exact ⟨.tuple #[], w', ρ, ι, .inl (by simp [execOp, resolve, invoke, builtin, g1]), g2, g3, AV.R_junk _ _ _⟩
  ·rename_i t x h1 h2 h3
   simp only at h1 h2 h3
   subst h1 h2 h3
   obtain ⟨w', g1, rfl, g2, g3⟩ := clearW_ok hC.T hS t type _ (hg x) h
   exact ⟨.tuple #[], w', ρ, ι, .inl (by simp [execOp, resolve, invoke, builtin, g1]), g2, g3, AV.R_junk _ _ _⟩
  ·rename_i t t2 s x h1 h2 h3
   simp only at h1 h2 h3
   subst h1 h2 h3
   obtain ⟨z, w', g1, g2, g3, g4⟩ := copyW_ok hC.T hS t t2 type _ _ (hg s) (hg x) h hc
   exact ⟨z, w', ρ, ι, .inl (by simp [execOp, resolve, invoke, builtin, g1]), g2, g3, g4⟩
  ·cases h
theorem invoke_run {t : TypeId} {n : String} {f : Nat} (hm : methC C.P t n = some f) (u : Value) (al : List Operand) (ev : Operand → Value) {r : Operand} (hr : ev r = .iface t u) (ats : Array TypeId) (ty : TypeId) :
 (do let d ← resolve ev { callee := .invoke r n, args := ⟨al⟩, argTypes := ats } ty; invoke d.target d.args : Sem Next).run C.P w = (callFunc f (u :: al.map ev).toArray).run C.P w := by
 have := methC_ok (w := w) hm u ((⟨al⟩ : Array Operand).map ev)
 have e0 : (#[u] ++ (⟨al⟩ : Array Operand).map ev) = (u :: al.map ev).toArray := by
  apply Array.ext'
  simp
 rw [e0] at this
 rw [← this]
 have e1 : (#[Value.iface t u] ++ (⟨al⟩ : Array Operand).map ev).extract 1 (#[Value.iface t u] ++ (⟨al⟩ : Array Operand).map ev).size = (⟨al⟩ : Array Operand).map ev := by
  apply Array.ext'
  simp [List.take_of_length_le]
 have e2 : (#[Value.iface t u] ++ (⟨al⟩ : Array Operand).map ev)[0]? = some (.iface t u) := by simp
 simp only [resolve, hr, Sem.run_bind, Sem.run_pure, Result.andThen_ok, invoke, e1, e2]
theorem callOf_sound (hC : C.Ok) {g : Operand → AV} {ev : Operand → Value} (hg : ∀ x, (g x).R ρ ι (ev x)) (o : Oper) {f : FuncId} {args : List AV} (h : callOf g o.op = some (.fn f, args)) (hf : ∃ fn, C.P.funcs[f]? = some fn ∧ (fn.name == "runtime.NumGoroutine") = false ∧ fn.body.isNone = false) :
 ∃ cargs : List Value, (execOp ev o).run C.P w = .ok (.enter f cargs.toArray) w ∧ AV.Rs ρ ι args cargs := by
 obtain ⟨fn, f1, f2, f3⟩ := hf
 obtain ⟨dst, op, type, pos, after, guard⟩ := o
 cases op <;> simp only [callOf] at h <;> try cases h
 case call c =>
  obtain ⟨callee, ⟨al⟩, ats⟩ := c
  have hcall : ∀ as : Array Value, (callFunc f as).run C.P w = .ok (.enter f as) w := fun as => by
   simp only [callFunc, Sem.run_bind, run_program, Result.andThen_ok, f1, f2, f3, Bool.false_eq_true, if_false, Sem.run_pure]
  cases callee with
  | builtin b => simp only at h; cases h
  | invoke r n =>
    simp only at h
    have hx := hg r
    have key : ∀ {t : TypeId} {x : AV}, (.ifc t x : AV).R ρ ι (ev r) → (mget meths t n).map (fun f => (Cal.fn f, x :: al.map g)) = some (.fn f, args) → ∃ cargs : List Value, (execOp ev ⟨dst, .call ⟨.invoke r n, ⟨al⟩, ats⟩, type, pos, after, guard⟩).run C.P w = .ok (.enter f cargs.toArray) w ∧ AV.Rs ρ ι args cargs := by
     intro t x hx h
     simp only [AV.R] at hx
     obtain ⟨u, e, hu⟩ := hx
     obtain ⟨f', hm, hq⟩ := Option.map_eq_some_iff.1 h
     simp only [Prod.mk.injEq, Cal.fn.injEq] at hq
     obtain ⟨rfl, rfl⟩ := hq
     refine ⟨u :: al.map ev, ?_, by simp only [AV.Rs]; exact ⟨_, _, rfl, hu, Rs_mapA g ev hg al⟩⟩
     show (do let d ← resolve ev { callee := .invoke r n, args := ⟨al⟩, argTypes := ats } type; invoke d.target d.args : Sem Next).run C.P w = _
     rw [invoke_run (hC.T.meth hm) u al ev e, hcall]
    split at h
    ·rename_i t x he
     rw [he] at hx
     exact key hx h
    ·rename_i t x he
     rw [he] at hx
     refine key (t := t) (x := .iv x) ?_ h
     simp only [AV.R, IV.R] at hx ⊢
     exact hx
    ·cases h
  | value fo =>
  simp only at h
  have hx := hg fo
  split at h
  ·rename_i f' he
   simp only [Option.some.injEq, Prod.mk.injEq, Cal.fn.injEq] at h
   obtain ⟨rfl, rfl⟩ := h
   rw [he] at hx
   simp only [AV.R, IV.R] at hx
   refine ⟨al.map ev, ?_, Rs_mapA g ev hg al⟩
   simp [execOp, resolve, hx, Deferred.ofValue, invoke, hcall]
  ·simp only [Option.some.injEq, Prod.mk.injEq, reduceCtorEq, false_and] at h
  ·rename_i f' a b he
   simp only [Option.some.injEq, Prod.mk.injEq, Cal.fn.injEq] at h
   obtain ⟨rfl, rfl⟩ := h
   rw [he] at hx
   simp only [AV.R] at hx
   obtain ⟨as, bs, e, ra, rb⟩ := hx
   refine ⟨as ++ al.map ev ++ bs, ?_, Rs_append (Rs_append ra (Rs_mapA g ev hg al)) rb⟩
   simp [execOp, resolve, e, Deferred.ofValue, invoke, hcall]
  ·rename_i f' a b he
   simp only [Option.some.injEq, Prod.mk.injEq, Cal.fn.injEq] at h
   obtain ⟨rfl, rfl⟩ := h
   rw [he] at hx
   simp only [AV.R, IV.R] at hx
   obtain ⟨as, bs, e, ra, rb⟩ := hx
   refine ⟨as ++ al.map ev ++ bs, ?_, Rs_append (Rs_append ((Rs_iv _ _).2 ra) (Rs_mapA g ev hg al)) ((Rs_iv _ _).2 rb)⟩
   simp [execOp, resolve, e, Deferred.ofValue, invoke, hcall]
  ·cases h
theorem callOf_yield {g : Operand → AV} {ev : Operand → Value} (hg : ∀ x, (g x).R ρ ι (ev x)) (o : Oper) {l : Nat} {args : List AV} (h : callOf g o.op = some (.yl l, args)) :
 ∃ cargs : List Value, (execOp ev o).run C.P w = (Instr.yield l cargs.toArray).run C.P w ∧ AV.Rs ρ ι args cargs := by
 obtain ⟨dst, op, type, pos, after, guard⟩ := o
 cases op <;> simp only [callOf] at h <;> try cases h
 case call c =>
  obtain ⟨callee, ⟨al⟩, ats⟩ := c
  cases callee with
  | builtin b => simp only at h; cases h
  | invoke r n =>
    simp only at h
    split at h
    ·obtain ⟨f', hm, hq⟩ := Option.map_eq_some_iff.1 h
     simp only [Prod.mk.injEq, reduceCtorEq, false_and] at hq
    ·obtain ⟨f', hm, hq⟩ := Option.map_eq_some_iff.1 h
     simp only [Prod.mk.injEq, reduceCtorEq, false_and] at hq
    ·cases h
  | value fo =>
  simp only at h
  have hx := hg fo
  split at h
  ·simp only [Option.some.injEq, Prod.mk.injEq, reduceCtorEq, false_and] at h
  ·rename_i f' he
   simp only [Option.some.injEq, Prod.mk.injEq, Cal.yl.injEq] at h
   obtain ⟨rfl, rfl⟩ := h
   rw [he] at hx
   simp only [AV.R, IV.R] at hx
   refine ⟨al.map ev, ?_, Rs_mapA g ev hg al⟩
   simp [execOp, resolve, hx, Deferred.ofValue, invoke]
  ·simp only [Option.some.injEq, Prod.mk.injEq, reduceCtorEq, false_and] at h
  ·simp only [Option.some.injEq, Prod.mk.injEq, reduceCtorEq, false_and] at h
  ·cases h
theorem aop_sound (hC : C.Ok) (hS : SR ρ ι H w) {N : Nat} {e : Env} {a : Act} (hE : ER ρ ι N e a) (o : Oper) {K QP : AV → AH → Prop} (h : aop C (opd e) H o.op K QP) {next : Act → World → Prop} {Q : Exit → Act → World → Prop}
 (hn : ∀ v w', Lift K ρ ι H w v w' → next (a.put o.dst v) w') (hq : ∀ v w', Lift QP ρ ι H w v w' → Q (.panic [{ v, recovered := false }]) a w') : o.wpIn (FE C.ro) 0 C.P a w next Q := by
 have hg := opd_ok hE
 have hnd : ∀ c, o.op ≠ .defer c := by
  intro c e
  rw [e] at h
  simp only [aop, xop, wop, callOf, panicOf, nextOf, rop, ROut.K] at h
 unfold aop at h
 unfold Oper.wpIn
 refine ⟨fun _ _ => trivial, ?_⟩
 rw [Oper.semAt_eq _ _ _ hnd]
 split at h
 ·rename_i cs c f hx
  split at h
  ·rename_i r hr
   have h' := (ands_iff _ _).1 h
   obtain ⟨v, w', ι', g1, g2, g3, g4⟩ := frzOp_sound hS hx (xop_sound hC.T hC.by_ hS hg o hx h'.1) hr
   rw [g1]
   exact hn v w' ⟨_, _, ρ, ι', h'.2, g4, g2, g3⟩
  ·have h' := (ands_iff _ _).1 h
   obtain ⟨v, w', ρ', g1, g2, g3, g4, _⟩ := xop_sound hC.T hC.by_ hS hg o hx h'.1
   rw [g1]
   exact hn v w' ⟨_, _, ρ', ι, h'.2, g4, g2, g3⟩
 ·split at h
  ·rename_i cs r H' hx
   have h' := (ands_iff _ _).1 h
   obtain ⟨v, w', ρ', ι', g1, g2, g3, g4⟩ := wop_sound hC hS hg o hx h'.1
   rcases g1 with g1 | ⟨g1, rfl⟩
   ·rw [g1]; exact hn v w' ⟨_, _, ρ', ι', h'.2, g4, g2, g3⟩
   ·rw [g1]; exact hn _ w' ⟨_, _, ρ', ι', h'.2, g4, g2, g3⟩
  ·split at h
   ·rename_i cal args hx
    cases cal with
    | fn f =>
      have h : ACall C.P f args H K QP := h
      obtain ⟨cargs, g1, g2⟩ := callOf_sound (C := C) (w := w) hC hg o hx h.fn
      rw [g1, Oper.uponIn_enter]
      refine ⟨fun hd => Bool.noConfusion (show false = true from hd), (calls_FE (h.run ρ ι w cargs hE.glob hS g2)).mono fun e w' hp => ?_⟩
      cases e with
      | returned v => exact hn v w' hp
      | panicked ch => obtain ⟨v, rfl, hl⟩ := hp; exact hq v w' hl
      | outgrown => exact hp.elim
    | yl l =>
      have h : YCall C.P l args H K QP := h
      obtain ⟨cargs, g1, g2⟩ := callOf_yield (C := C) (w := w) hg o hx
      obtain ⟨fn, tmps, asg, body, g3, g4⟩ := h.run ρ ι w cargs hE.glob hS g2
      rw [g1, g3, Oper.uponIn_round]
      refine ⟨fun hd => Bool.noConfusion (show false = true from hd), (round_FE g4).mono fun e w' hp => ?_⟩
      cases e with
      | returned v => exact hn v w' hp
      | panicked ch => obtain ⟨v, rfl, hl⟩ := hp; exact hq v w' hl
      | outgrown => exact hp.elim
   ·split at h
    ·rename_i x hx
     obtain ⟨dst, op, type, pos, after, guard⟩ := o
     cases op with
     | panic y =>
       simp only [panicOf] at hx
       have hy := hg y
       have run : ∀ t u, a.eval y = .iface t u → (execOp a.eval ⟨dst, .panic y, type, pos, after, guard⟩).run C.P w = .halt (.panic (.iface t u)) w := fun t u he => by
        simp [execOp, he, Instr.panic]
       split at hx
       ·rename_i t z he
        injection hx with hx
        subst hx
        rw [he] at hy
        have hy' := hy
        simp only [AV.R] at hy
        obtain ⟨u, e1, _⟩ := hy
        rw [run t u e1, Oper.uponIn_panic]
        exact hq _ _ ⟨_, H, ρ, ι, h, by rw [← e1]; exact hy', hS, Went.refl ..⟩
       ·rename_i t z he
        injection hx with hx
        subst hx
        rw [he] at hy
        have hy' := hy
        simp only [AV.R, IV.R] at hy
        obtain ⟨u, e1, _⟩ := hy
        rw [run t u e1, Oper.uponIn_panic]
        exact hq _ _ ⟨_, H, ρ, ι, h, by rw [← e1]; exact hy', hS, Went.refl ..⟩
       ·cases hx
     | _ => simp only [panicOf] at hx; cases hx
    ·split at h
     ·rename_i x hx
      obtain ⟨v, w', ρ', r, H', g1, g2, g3, g4, g5⟩ := next_ok (P := C.P) hC.T hS hg o hx h
      rw [g1]
      exact hn v w' ⟨r, H', ρ', ι, g2, g3, g4, g5⟩
     ·obtain ⟨v, r, g1, g2, g3⟩ := rop_sound hC.T C.wr hS hg o (fun v => K v H) h
      rw [g1]
      exact hn v w ⟨_, H, ρ, ι, g3, g2, hS, Went.refl ..⟩
end
end Go.Proofs.YtgfkepebfaiepaaGreatDoor.Ax
