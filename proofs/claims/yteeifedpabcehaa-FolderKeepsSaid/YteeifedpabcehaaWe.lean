/-
  Closed runs: code is sound.
-/
import Derived.Test.YteeifedpabcehaaWd
import Derived.Lib.Bytealg
import Derived.Laws.Externs
namespace Go.Proofs.Yteeifedpabcehaa.Cx
open Go.RowKit Go.Proofs.Yteeifedpabcehaa.Bm

section
variable {X : Cx} {rb : Option Nat} {L : List Fin} {W : World} {Q : Exit → Act → World → Prop}
def RdOk (X : Cx) (rb : Option Nat) (ρ : Rho) : Prop := (X.rd = none ∧ rb = none) ∨ ∃ l b m, X.rd = some l ∧ rb = some b ∧ ρ l = some (b, m)
theorem RdOk.mono {ρ ρ' : Rho} (h : RdOk X rb ρ) (hle : Rho.le ρ ρ') : RdOk X rb ρ' := h.imp id fun ⟨l, b, m, h1, h2, h3⟩ => ⟨l, b, m, h1, h2, hle _ _ h3⟩
theorem opd_ok {ρ : Rho} {N : Nat} {e : Tr CV} {ds : List Nat} {a : Act} (hE : EvS ρ N e ds a (fun _ => False)) (x : Operand) : (opd e x).R ρ (a.eval x) := by
  rw [← mop_eq (S := fun _ => False) (fun _ _ h => h)]
  exact mop_ok hE x
theorem callC_res {C : Cf} {ρ : Rho} {f : CV} {args : List CV} {fv : Value} {as : List Value} {f' : Nat} {args' : List CV} (hf : f.R ρ fv) (ha : CV.Rs ρ args as) (h : callC C f args = .call f' args') :
    ∃ d : Deferred, Deferred.ofValue fv as.toArray = pure d ∧ ∃ as' : List Value, invoke d.target d.args = callFunc f' as'.toArray ∧ CV.Rs ρ args' as' := by
  unfold callC at h
  split at h
  · rename_i g
    injection h with h1 h2
    subst h1 h2
    simp only [CV.R] at hf
    subst hf
    exact ⟨_, rfl, as, by simp [invoke], ha⟩
  · rename_i g x y
    injection h with h1 h2
    subst h1 h2
    simp only [CV.R] at hf
    obtain ⟨xs, ys, rfl, r1, r2⟩ := hf
    exact ⟨_, rfl, xs ++ (as ++ ys), by simp [invoke], by rw [catL_eq, catL_eq]; exact Rs_append r1 (Rs_append ha r2)⟩
  · cases h
  · cases h
theorem run_getLoop {P : Program} {w : World} {b : Nat} {r : Loop} (h : w.heap[b]? = some (.loop r)) : (Instr.getLoop b).run P w = .ok r w := by
  have := run_getObj (P := P) h (fun _ _ _ => by simp)
  simp [Instr.getLoop, this]
/-- A record of a loop that is written. -/
theorem SR.loop {ρ : Rho} {H : CH} {w : World} (hS : SR W ρ H w) {l b m : Nat} {st st' : LoopState} {pend pend' : Option Code} {fid N : Nat} {tmps : Tr CV} {params : List Nat} {asg body : Code} {dh : Nat} {fn bd : Nat} {tv : Array Value}
    (hg : H.get l = some (.loop st pend fid N tmps params asg body dh)) (hl : ρ l = some (b, m)) (hw : w.heap[b]? = some (.loop { state := st, pending := pend, fn, tmps := tv, params := params.toArray, assign := asg, body, defers := bd })) :
    (∀ P : Program, (setObj b (.loop { state := st', pending := pend', fn, tmps := tv, params := params.toArray, assign := asg, body, defers := bd })).run P w = .ok () (putObj w b (.loop { state := st', pending := pend', fn, tmps := tv, params := params.toArray, assign := asg, body, defers := bd }))) ∧
    SR W ρ ((Cmd.set l (.loop st' pend' fid N tmps params asg body dh)).app H) (putObj w b (.loop { state := st', pending := pend', fn, tmps := tv, params := params.toArray, assign := asg, body, defers := bd })) := by
  refine ⟨fun P => run_setObj hw (fun _ _ _ => by simp), ?_⟩
  obtain ⟨fn', tv', bd', md', h1, h2, h3, h4⟩ := hS.p hg hl
  have h2' : w.heap[b]? = _ := h2
  rw [hw] at h2'
  injection h2' with h2'
  injection h2' with h2'
  injection h2' with _ _ e1 e2 _ _ _ e3
  subst e1 e2 e3
  exact hS.put hg hl _ ⟨fn, tv, bd, md', h1, putObj_same hw, h3, h4⟩ (fun _ _ _ _ h => by cases h) (fun _ _ _ h => by cases h)
theorem rangeG_ok (hC : CallOk X.C W X.call) {ρ : Rho} {H : CH} {w : World} {e : Tr CV} {ds : List Nat} {a : Act} {f : Operand} {ps : Array Tmp} {asg body : Code} {k : Option Code → List Nat → CH → Ans} {dh bd md : Nat} (mark : List Deferred)
    (hdh : ρ dh = some (bd, md)) (hS : SR W ρ H w) (hE : EvS ρ X.N e ds { a with defers := mark ++ a.defers } (fun _ => False)) (h : OkIn (rangeG X f ps asg body e k dh ds H) L)
    (hk : ∀ pend H' ρ' w', OkIn (k pend ds H') L → Rho.le ρ ρ' → SR W ρ' H' w' → match pend with
      | none => Q .normal { a with defers := mark ++ a.defers } w'
      | some c => c.wpIn (FE rb) 0 X.C.P Q { a with defers := mark ++ a.defers } w') (fn : Nat) {w0 : World}
    (hent : (Instr.enterLoop fn a.tmps ps asg body rb).run X.C.P w0 = .ok (w.heap.size, mark) (w.alloc (.loop { state := .ready, pending := none, fn, tmps := a.tmps, params := ps, assign := asg, body, defers := bd }))) :
    ∃ (l : Nat) (mark : List Deferred) (w₁ : World) (d : Deferred) (w₁' : World) (f' : FuncId) (args : Array Value) (w₂ : World),
      (Instr.enterLoop fn a.tmps ps asg body (FE rb).round).run X.C.P w0 = .ok (l, mark) w₁ ∧
      (resolve a.eval (rangeCall f l) 0).run X.C.P w₁ = .ok d w₁' ∧
      (∀ f', Target.leads X.C.P w₁' d.target d.args = some f' → (FE rb).fn f') ∧
      (invoke d.target d.args).run X.C.P w₁' = .ok (.enter f' args) w₂ ∧
      ((FE rb).depth.isSome = true → 1 ≤ 0) ∧
      CallsIn (FE rb) (0 - 1) X.C.P f' args w₂ (rangePost (FE rb) 0 X.C.P l Q { a with defers := mark ++ a.defers }) := by
  unfold rangeG at h
  rw [Cmd.appK_eq] at h
  have hle := Rho.le_ext (p := (w.heap.size, 0)) (hS.fresh H.next (Nat.le_refl _))
  have hS1 := (hS.push (.loop { state := .ready, pending := none, fn, tmps := a.tmps, params := ps, assign := asg, body, defers := bd }))
  have hS1 : SR W (ρ.ext H.next (w.heap.size, 0)) ((Cmd.add (.loop .ready none X.fid X.N e ps.toList asg body dh)).app H) (w.alloc (.loop { state := .ready, pending := none, fn, tmps := a.tmps, params := ps, assign := asg, body, defers := bd })) :=
    hS.fresh1 hS1 (by simp) (fun _ _ _ _ h => by cases h) ⟨fn, a.tmps, bd, md, hle _ _ hdh, by simpa using alloc_new w _, hE.size, fun t v ht => ⟨(hE.slot t v ht (fun h => h)).1, CV.R_mono hle _ _ (hE.slot t v ht (fun h => h)).2⟩⟩
  have hff : (opd e f).R (ρ.ext H.next (w.heap.size, 0)) (a.eval f) := CV.R_mono hle _ _ (opd_ok hE f)
  have hy : CV.Rs (ρ.ext H.next (w.heap.size, 0)) [.yld H.next] [.func (.yield w.heap.size) #[] #[]] := by
    simp only [CV.Rs, CV.R]
    exact ⟨_, [], rfl, ⟨_, _, Rho.ext_same .., rfl⟩, rfl⟩
  split at h
  · rename_i f' args' hcc
    obtain ⟨d, hd, as', hinv, hR⟩ := callC_res hff hy hcc
    split at h
    · rename_i hX
      obtain ⟨l, hl, k1, k2⟩ := h.bind
      rcases hC.fn f' args' _ l hl _ _ as' hS1 hR with ⟨f2, as2, w2, e1, e2⟩ | ⟨hn, _⟩
      · refine ⟨w.heap.size, mark, _, d, _, f2, as2, w2, hent, ?_, fun _ _ => trivial, by rw [hinv]; exact e1, fun h => (by cases h), (calls_FE e2).mono fun en w3 hg => ?_⟩
        · have he : (rangeCall f w.heap.size).args.map a.eval = #[.func (.yield w.heap.size) #[] #[]] := by simp [Act.eval]
          show (Deferred.ofValue (a.eval f) ((rangeCall f w.heap.size).args.map a.eval)).run X.C.P _ = _
          rw [he]
          have hd' : Deferred.ofValue (a.eval f) #[.func (.yield w.heap.size) #[] #[]] = pure d := hd
          rw [hd']
          rfl
        · cases en with
          | returned u =>
            obtain ⟨v, H', ρ', g1, g2, g3, g4⟩ := hg
            have hK := k1 v H' g1
            have hlp : ρ' H.next = some (w.heap.size, 0) := g2 _ _ (Rho.ext_same ..)
            unfold endL at hK
            split at hK
            · exact (OkIn.bad hK).elim
            · rename_i st pend f0 N0 tm pr as0 bo dh0 hbusy hgl
              rw [Cmd.appK_eq] at hK
              obtain ⟨fn0, tv0, bd0, md0, q1, q2, q3, q4⟩ := g3.p hgl hlp
              obtain ⟨r1, r2⟩ := g3.loop (st' := .exhausted) (pend' := pend) hgl hlp q2
              have hgl0 := run_getLoop (P := X.C.P) q2
              refine ⟨pend, _, ?_, hk pend _ ρ' _ hK (hle.trans g2) r2⟩
              have hst : (st == LoopState.busy) = false := by
                cases st <;> first | rfl | exact (hbusy rfl).elim
              have r1 := r1 X.C.P
              simp only at r1 hgl0
              have hst' : st ≠ .busy := fun e => by subst e; cases hst
              simp [Instr.endLoop, hgl0, hst', r1]
            · exact (OkIn.bad hK).elim
          | panicked ch =>
            obtain ⟨u, v, H', ρ', _, g1, _⟩ := hg
            exact (OkIn.bad (k2 v H' g1)).elim
          | outgrown => exact hg.elim
      · exact absurd hX hn
    · exact (OkIn.bad h).elim
  · exact (OkIn.bad h).elim
/-- **A range over a function.** -/
theorem rangeR_ok (hC : CallOk X.C W X.call) {ρ : Rho} {H : CH} {w : World} {e : Tr CV} {ds : List Nat} {a : Act} {f : Operand} {ps : Array Tmp} {asg body : Code} {k : Option Code → List Nat → CH → Ans} (hrd : RdOk X rb ρ) (hS : SR W ρ H w) (hE : EvS ρ X.N e ds a (fun _ => False))
    (h : OkIn (rangeR X f ps asg body ds e H k) L)
    (hk : ∀ pend ds' H' ρ' a' w', OkIn (k pend ds' H') L → Rho.le ρ ρ' → SR W ρ' H' w' → EvS ρ' X.N e ds' a' (fun _ => False) → match pend with
      | none => Q .normal a' w'
      | some c => c.wpIn (FE rb) 0 X.C.P Q a' w') : (Code.rangeFunc f ps asg body).wpIn (FE rb) 0 X.C.P Q a w := by
  unfold rangeR at h
  refine wpIn_rangeFunc fun fn _ => ?_
  rcases hrd with ⟨h1, rfl⟩ | ⟨l, b, m, h1, rfl, h3⟩
  · rw [h1] at h
    simp only [Cmd.appK_eq] at h
    have hle := Rho.le_ext (p := (w.heap.size, 0)) (hS.fresh H.next (Nat.le_refl _))
    have hS1 : SR W (ρ.ext H.next (w.heap.size, 0)) ((Cmd.add .dfr).app H) (w.alloc (.deferred (some []))) := hS.fresh1 (hS.push _) (by simp) (fun _ _ _ _ h => by cases h) (alloc_new w _)
    have hE1 : EvS (ρ.ext H.next (w.heap.size, 0)) X.N e (H.next :: ds) { a with defers := [{ target := .collected w.heap.size, args := #[] }] ++ a.defers } (fun _ => False) :=
      ⟨hE.size, fun t v ht hs => ⟨(hE.slot t v ht hs).1, CV.R_mono hle _ _ (hE.slot t v ht hs).2⟩, ⟨_, _, a.defers, Rho.ext_same .., rfl, hE.marks.mono hle⟩⟩
    exact rangeG_ok hC (a := a) [{ target := .collected w.heap.size, args := #[] }] (Rho.ext_same ..) hS1 hE1 h (fun pend H' ρ' w' q1 q2 q3 => hk pend _ H' ρ' _ w' q1 (hle.trans q2) q3 (hE1.mono q2)) fn (by simp [Instr.enterLoop])
  · rw [h1] at h
    simp only at h
    split at h
    · rename_i st0 pend0 f0 N0 tm pr as0 bo dh hgl
      obtain ⟨fn0, tv0, bd0, md0, q1, q2, q3, q4⟩ := hS.p hgl h3
      have hgl0 := run_getLoop (P := X.C.P) q2
      have q2' : (Instr.getLoop b).run X.C.P w = _ := hgl0
      exact rangeG_ok hC (a := a) [] q1 hS hE h (fun pend H' ρ' w' k1 k2 k3 => hk pend _ H' ρ' _ w' k1 k2 k3 (hE.mono k2)) fn (by simp [Instr.enterLoop, q2'])
    · exact (OkIn.bad h).elim
end
end Go.Proofs.Yteeifedpabcehaa.Cx

namespace Go.Proofs.Yteeifedpabcehaa.Cx
open Go.RowKit Go.Proofs.Yteeifedpabcehaa.Bm

def Td.item : Td → Item
  | .seq c => .code c
  | .blk id => .inBlock id
  | .lp c => .inLoop c
def items (l : List Td) : List Item := l.map Td.item
def Lv.exit : Lv → Exit
  | .nrm => .normal
  | .ret => .ret
  | .ext id => .exit id
theorem exitT_some {id : Nat} (k0 : List Item) : ∀ {k k' : List Td}, exitT id k = some k' → exitTo id (items k ++ k0) = some (items k' ++ k0)
  | [], _, h => by cases h
  | t :: k, k', h => by
    cases t with
    | seq c => exact exitT_some k0 (k := k) h
    | lp c => exact exitT_some k0 (k := k) h
    | blk j =>
      have h : (bif Nat.beq j id then some k else exitT id k) = some k' := h
      show (if j == id then some (items k ++ k0) else exitTo id (items k ++ k0)) = _
      cases hb : Nat.beq j id with
      | true =>
        rw [hb] at h
        have := Nat.eq_of_beq_eq_true hb
        subst this
        simp only [cond_true, Option.some.injEq] at h
        subst h
        simp
      | false =>
        rw [hb] at h
        have hne : j ≠ id := fun e => by subst e; simp at hb
        rw [if_neg (by simpa using hne)]
        exact exitT_some k0 h
theorem exitT_none {id : Nat} (k0 : List Item) : ∀ {k : List Td}, exitT id k = none → exitTo id (items k ++ k0) = exitTo id k0
  | [], _ => rfl
  | t :: k, h => by
    cases t with
    | seq c => exact exitT_none k0 (k := k) h
    | lp c => exact exitT_none k0 (k := k) h
    | blk j =>
      have h : (bif Nat.beq j id then some k else exitT id k) = none := h
      show (if j == id then some (items k ++ k0) else exitTo id (items k ++ k0)) = _
      cases hb : Nat.beq j id with
      | true => rw [hb] at h; cases h
      | false =>
        rw [hb] at h
        have hne : j ≠ id := fun e => by subst e; simp at hb
        rw [if_neg (by simpa using hne)]
        exact exitT_none k0 h
theorem fenced_FE (P : Program) (rb : Option Nat) (m : Machine) : m.fenced P (FE rb) := by
  cases rb with
  | none => exact fenced_wide P m
  | some b => exact fenced_wide P m
section
variable {X : Cx} {rb : Option Nat} {L : List Fin} {W : World} {Q0 : Exit → Act → World → Prop} {ρ0 : Rho}
/-- How an activation may be left. -/
structure EndOk (X : Cx) (W : World) (L : List Fin) (ρ0 : Rho) (Q0 : Exit → Act → World → Prop) : Prop where
  lv : ∀ j ds e H ρ a w, OkIn (X.lv j ds e H) L → Rho.le ρ0 ρ → SR W ρ H w → EvS ρ X.N e ds a (fun _ => False) → Q0 j.exit a w
  pan : PanOk X W L ρ0 Q0
/-- What is left to be done, behind a piece of code. -/
def RestQ (X : Cx) (W : World) (L : List Fin) (ρ0 : Rho) (Q0 : Exit → Act → World → Prop) (n : Nat) (k : List Td) : Exit → Act → World → Prop
  | .normal, a, w => ∃ ρ ds e H, OkIn (run X n k ds e H) L ∧ Rho.le ρ0 ρ ∧ SR W ρ H w ∧ EvS ρ X.N e ds a (fun _ => False)
  | .ret, a, w => ∃ ρ ds e H, OkIn (run X n (.seq .ret :: k) ds e H) L ∧ Rho.le ρ0 ρ ∧ SR W ρ H w ∧ EvS ρ X.N e ds a (fun _ => False)
  | .exit id, a, w => ∃ ρ ds e H, OkIn (run X n (.seq (.exit id) :: k) ds e H) L ∧ Rho.le ρ0 ρ ∧ SR W ρ H w ∧ EvS ρ X.N e ds a (fun _ => False)
  | .panic c, a, w => Q0 (.panic c) a w
  | _, _, _ => False
def Lands (X : Cx) (rb : Option Nat) (Q0 : Exit → Act → World → Prop) (m : Machine) (b : Frame) (k0 : List Item) (cs : List Frame) : Prop :=
  ∃ ex a' w', Q0 ex a' w' ∧ ArrivesIn (Machine.fenced X.C.P (FE rb)) X.C.P m b k0 cs ex a' w'
theorem Lands.of_steps {m m' : Machine} {b : Frame} {k0 : List Item} {cs : List Frame} (h : StepsIn (Machine.fenced X.C.P (FE rb)) X.C.P m m') (h' : Lands X rb Q0 m' b k0 cs) : Lands X rb Q0 m b k0 cs :=
  let ⟨ex, a, w, q, r⟩ := h'
  ⟨ex, a, w, q, .of_steps h r⟩
theorem run_ok (hC : CallOk X.C W X.call) (hG : GOk X.C.G W) (hm : X.C.P.follows .mixedOrders = true) (hrd : RdOk X rb ρ0) (hQ : EndOk X W L ρ0 Q0) (b : Frame) (k0 : List Item) (cs : List Frame) (hb : b.roundOf = rb) :
    ∀ (n : Nat) (stk : List Td) (ds : List Nat) (e : Tr CV) (H : CH) (ρ : Rho) (a : Act) (w : World), OkIn (run X n stk ds e H) L → Rho.le ρ0 ρ → SR W ρ H w → EvS ρ X.N e ds a (fun _ => False) →
      Lands X rb Q0 (lone (b.atR a (items stk ++ k0)) cs w) b k0 cs := by
  intro n
  induction n using Nat.strongRecOn with
  | _ n ih =>
    intro stk ds e H ρ a w h hle hS hE
    cases n with
    | zero => exact (OkIn.bad h).elim
    | succ n =>
      have ih0 := ih n (Nat.lt_succ_self n)
      have one : ∀ {m m' : Machine}, step X.C.P m = .next m' → StepsIn (Machine.fenced X.C.P (FE rb)) X.C.P m m' := fun h => .one (fenced_FE _ _ _) h
      -- behind a piece of code
      have rest : ∀ (c : Code) (k : List Td) (a : Act) (w : World), c.wpIn (FE rb) 0 X.C.P (RestQ X W L ρ0 Q0 n k) a w → Lands X rb Q0 (lone (b.atR a (.code c :: (items k ++ k0))) cs w) b k0 cs := by
        intro c k a w hw
        obtain ⟨ex, a', w', hq, har⟩ := hw b (items k ++ k0) cs hb trivial (fun d hd => by cases hd)
        cases ex with
        | normal =>
          obtain ⟨ρ', ds', e', H', h1, h2, h3, h4⟩ := hq
          exact .of_steps har (ih0 k ds' e' H' ρ' a' w' h1 h2 h3 h4)
        | ret =>
          obtain ⟨ρ', ds', e', H', h1, h2, h3, h4⟩ := hq
          cases n with
          | zero => exact (OkIn.bad h1).elim
          | succ n => exact ⟨.ret, a', w', hQ.lv .ret ds' e' H' ρ' a' w' h1 h2 h3 h4, har⟩
        | exit id =>
          obtain ⟨ρ', ds', e', H', h1, h2, h3, h4⟩ := hq
          cases n with
          | zero => exact (OkIn.bad h1).elim
          | succ n =>
            have h1 : OkIn (kExit id X (run X n) k ds' e' H') L := h1
            unfold kExit at h1
            split at h1
            · rename_i k' hk'
              exact .of_steps (har.1 _ (exitT_some k0 hk')) (ih n (by omega) k' ds' e' H' ρ' a' w' h1 h2 h3 h4)
            · rename_i hk'
              refine ⟨.exit id, a', w', hQ.lv (.ext id) ds' e' H' ρ' a' w' h1 h2 h3 h4, fun k' hk => har.1 k' (by rw [exitT_none k0 hk']; exact hk), fun hro hk => har.2 hro (by rw [exitT_none k0 hk']; exact hk)⟩
        | goto l => exact hq.elim
        | panic ch => exact ⟨.panic ch, a', w', hq, har⟩
        | outgrown => exact hq.elim
      cases stk with
      | nil =>
        have h : OkIn (X.lv .nrm ds e H) L := h
        exact ⟨.normal, a, w, hQ.lv .nrm ds e H ρ a w h hle hS hE, .refl _⟩
      | cons t k =>
        cases t with
        | blk id =>
          have h : OkIn (run X n k ds e H) L := h
          exact .of_steps (one stepR_inBlock) (ih0 k ds e H ρ a w h hle hS hE)
        | lp c =>
          have h : OkIn (run X n (.seq c :: .lp c :: k) ds e H) L := h
          exact .of_steps (one stepR_inLoop) (ih0 (.seq c :: .lp c :: k) ds e H ρ a w h hle hS hE)
        | seq c =>
          cases c with
          | skip =>
            have h : OkIn (run X n k ds e H) L := h
            exact .of_steps (one stepR_skip) (ih0 k ds e H ρ a w h hle hS hE)
          | region id ops draw =>
            refine rest (.region id ops draw) k a w ?_
            have hp : PanOk X W L ρ (RestQ X W L ρ0 Q0 n k) := fun r v u H' w' a' h1 h2 h3 h4 h5 h6 => hQ.pan r v u H' w' a' h1 h2 (hle.trans h3) h4 h5 h6
            cases draw with
            | false =>
              have h : OkIn (listR X ds ops ops.toList e H (run X n k ds)) L := h
              refine wpIn_region ?_
              have := listR_ok (rb := rb) (K := run X n k ds) (Q := RestQ X W L ρ0 Q0 n k) (ops := ops) hC hG ops.size 0 ρ H w e a (by omega) hS hE (by simpa using h) (fun ρ' e' H' a' w' g1 g2 g3 g4 => ⟨ρ', ds, e', H', g4, hle.trans g1, g2, g3⟩) hp
              rw [← List.range_eq_range'] at this
              exact this
            | true =>
              have h : OkIn (drawC X ds ops e H (run X n k ds)) L := h
              exact drawC_ok (K := run X n k ds) hC hG hm hS hE h (fun e' H' a' w' ρ' g1 g2 g3 g4 => ⟨ρ', ds, e', H', g3, hle.trans g4, g1, g2⟩) hp
          | seq x y =>
            have h : OkIn (run X n (.seq x :: .seq y :: k) ds e H) L := h
            exact .of_steps (one stepR_seq) (ih0 (.seq x :: .seq y :: k) ds e H ρ a w h hle hS hE)
          | cond c x y =>
            have h : OkIn (match opd e c with
              | .bool true => run X n (.seq x :: k) ds e H
              | .bool false => run X n (.seq y :: k) ds e H
              | _ => .bad X.fid 906) L := h
            have hc := opd_ok hE c
            split at h
            · rename_i hv
              rw [hv] at hc
              simp only [CV.R] at hc
              exact .of_steps (one (stepR_cond hc)) (ih0 (.seq x :: k) ds e H ρ a w h hle hS hE)
            · rename_i hv
              rw [hv] at hc
              simp only [CV.R] at hc
              exact .of_steps (one (stepR_cond hc)) (ih0 (.seq y :: k) ds e H ρ a w h hle hS hE)
            · exact (OkIn.bad h).elim
          | block id c =>
            have h : OkIn (run X n (.seq c :: .blk id :: k) ds e H) L := h
            exact .of_steps (one stepR_block) (ih0 (.seq c :: .blk id :: k) ds e H ρ a w h hle hS hE)
          | loop c =>
            have h : OkIn (run X n (.seq c :: .lp c :: k) ds e H) L := h
            exact .of_steps (one stepR_loop) (ih0 (.seq c :: .lp c :: k) ds e H ρ a w h hle hS hE)
          | rangeFunc f ps asg body =>
            have h : OkIn (rangeR X f ps asg body ds e H fun pend ds H => match pend with
              | none => run X n k ds e H
              | some .ret => run X n (.seq .ret :: k) ds e H
              | some (.exit id) => run X n (.seq (.exit id) :: k) ds e H
              | _ => .bad X.fid 933) L := h
            refine rest (.rangeFunc f ps asg body) k a w (rangeR_ok hC (hrd.mono hle) hS hE h fun pend ds' H' ρ' a' w' g1 g2 g3 g4 => ?_)
            split at g1
            · exact ⟨ρ', ds', e, H', g1, hle.trans g2, g3, g4⟩
            · exact wpIn_ret ⟨ρ', ds', e, H', g1, hle.trans g2, g3, g4⟩
            · exact wpIn_exit ⟨ρ', ds', e, H', g1, hle.trans g2, g3, g4⟩
            · exact (OkIn.bad g1).elim
          | exit id =>
            have h : OkIn (kExit id X (run X n) k ds e H) L := h
            unfold kExit at h
            split at h
            · rename_i k' hk'
              exact .of_steps (one (stepR_exit (exitT_some k0 hk'))) (ih0 k' ds e H ρ a w h hle hS hE)
            · rename_i hk'
              refine ⟨.exit id, a, w, hQ.lv (.ext id) ds e H ρ a w h hle hS hE, fun k' hk => one (stepR_exit (by rw [← hk]; exact exitT_none k0 hk')), fun hro hk => ⟨items k ++ k0, by rw [exitT_none k0 hk']; exact hk, .refl _⟩⟩
          | scope c => exact (OkIn.bad h).elim
          | label l =>
            have h : OkIn (run X n k ds e H) L := h
            exact .of_steps (one stepR_label) (ih0 k ds e H ρ a w h hle hS hE)
          | goto l => exact (OkIn.bad h).elim
          | ret =>
            have h : OkIn (X.lv .ret ds e H) L := h
            exact ⟨.ret, a, w, hQ.lv .ret ds e H ρ a w h hle hS hE, fun hn => ⟨_, one (stepR_ret hn)⟩, fun _ => ⟨items k ++ k0, .refl _⟩⟩
          | refuse y => exact (OkIn.bad h).elim
end
end Go.Proofs.Yteeifedpabcehaa.Cx

namespace Go.Proofs.Yteeifedpabcehaa.Cx
open Go.RowKit Go.Proofs.Yteeifedpabcehaa.Bm

section
variable {C : Cf} {W : World} {L : List Fin}
theorem loadVar_of {P : Program} {w : World} {t : TypeId} {x u : Value} (h : (Instr.loadAt t x).run P w = .ok u w) : (do loadVar t (← asAddr x) : Sem Value).run P w = .ok u w := by
  cases x with
  | pointer a => cases a with
    | some a => simpa [Instr.loadAt, Instr.sureAddr, asAddr] using h
    | none => simp [Instr.loadAt, Instr.sureAddr] at h
  | _ => simp [Instr.loadAt, Instr.sureAddr] at h
def resF (tmps : Array Value) (r : ResultVar) : Sem Value := match r with
  | .tmp t => pure (tmps.getD t undef)
  | .cell a t => do loadVar t (← asAddr (tmps.getD a undef))
theorem results_eq (fn : Func) (tmps : Array Value) : results fn tmps = (do
    let vs ← fn.results.mapM (resF tmps)
    pure (if h : vs.size = 1 then vs[0] else .tuple vs)) := by
  have : resF tmps = (fun
    | .tmp t => pure (tmps.getD t undef)
    | .cell a t => do loadVar t (← asAddr (tmps.getD a undef))) := by
    funext r
    cases r <;> rfl
  rw [this]
  rfl
theorem resC_ok (hG : GOk C.G W) {ρ : Rho} {N : Nat} {e : Tr CV} {ds : List Nat} {tmps : Array Value} {H : CH} {w : World} (hS : SR W ρ H w) (_ : EvS ρ N e ds { tmps := tmps, defers := [] } (fun _ => False) ∨ True)
    (hslot : ∀ t v, e.get t = some v → v.R ρ (tmps.getD t undef)) (r : ResultVar) {v : CV} (h : resC C e H r = some v) :
    ∃ u, (resF tmps r).run C.P w = .ok u w ∧ v.R ρ u := by
  cases r with
  | tmp t => exact ⟨_, rfl, hslot t v h⟩
  | cell a t =>
    have hx : (opd e (.tmp a)).R ρ (tmps.getD a undef) := by
      rw [opd_tmp]
      cases hv : e.get a with
      | none => simp only [Option.getD_none, CV.R]
      | some y => exact hslot a y hv
    have hl := loadC_ok (P := C.P) hG hS t (opd e (.tmp a)) hx
    have h : (match loadC C.T C.G H t (opd e (.tmp a)) with
      | .old v .nop => some v
      | .new v .nop => some v
      | _ => none) = some v := h
    split at h
    · rename_i v' he
      injection h with h
      subst h
      have he : loadC (mkTD C.P) C.G H t (opd e (.tmp a)) = .old v' .nop := he
      rw [he] at hl
      obtain ⟨u, h1, h2⟩ := hl
      exact ⟨u, loadVar_of h1, h2⟩
    · rename_i v' he
      injection h with h
      subst h
      have he : loadC (mkTD C.P) C.G H t (opd e (.tmp a)) = .new v' .nop := he
      rw [he] at hl
      obtain ⟨u, h1, h2⟩ := hl
      exact ⟨u, loadVar_of h1, h2⟩
    · cases h
theorem resL_cons (C : Cf) (e : Tr CV) (H : CH) (r : ResultVar) (rs : List ResultVar) : resL C e H (r :: rs) = match resC C e H r, resL C e H rs with
  | some v, some l => some (v :: l)
  | _, _ => none := rfl
theorem resL_ok (hG : GOk C.G W) {ρ : Rho} {e : Tr CV} {tmps : Array Value} {H : CH} {w : World} (hS : SR W ρ H w) (hslot : ∀ t v, e.get t = some v → v.R ρ (tmps.getD t undef)) : ∀ (rs : List ResultVar) (cs : List CV), resL C e H rs = some cs →
    ∃ us : List Value, (rs.mapM (resF tmps)).run C.P w = .ok us w ∧ CV.Rs ρ cs us
  | [], cs, h => by
    have h : some [] = some cs := h
    injection h with h
    subst h
    exact ⟨[], by simp, by simp [CV.Rs]⟩
  | r :: rs, cs, h => by
    rw [resL_cons] at h
    split at h
    · rename_i v l hv hl
      injection h with h
      subst h
      obtain ⟨u, h1, h2⟩ := resC_ok (N := 0) (ds := []) hG hS (.inr trivial) hslot r hv
      obtain ⟨us, h3, h4⟩ := resL_ok hG hS hslot rs l hl
      refine ⟨u :: us, ?_, by simp only [CV.Rs]; exact ⟨_, _, rfl, h2, h4⟩⟩
      rw [List.mapM_cons]
      simp only [Sem.run_bind]
      rw [h1]
      simp only [Result.andThen_ok]
      rw [h3]
      rfl
    · cases h
theorem valC_ok (hG : GOk C.G W) {ρ : Rho} {e : Tr CV} {tmps : Array Value} {H : CH} {w : World} (hS : SR W ρ H w) (hslot : ∀ t v, e.get t = some v → v.R ρ (tmps.getD t undef)) (fid : Nat) (fn : Func) {k : CV → Ans} (h : OkIn (valC C fid fn.results.toList e H k) L) :
    ∃ v u, OkIn (k v) L ∧ (results fn tmps).run C.P w = .ok u w ∧ v.R ρ u := by
  have run : ∀ us : List Value, (fn.results.toList.mapM (resF tmps)).run C.P w = .ok us w →
      (results fn tmps).run C.P w = .ok (if h : us.toArray.size = 1 then us.toArray[0] else .tuple us.toArray) w := fun us hu => by
    rw [results_eq, Array.mapM_eq_mapM_toList]
    simp only [Sem.run_bind, Sem.run_map]
    rw [hu]
    rfl
  generalize hrs : fn.results.toList = rs at h run
  cases rs with
  | nil =>
    obtain ⟨us, h1, h2⟩ := resL_ok hG hS hslot [] [] rfl
    simp only [CV.Rs] at h2
    subst h2
    exact ⟨.tup [], .tuple #[], h, run [] h1, R_unit⟩
  | cons r rs =>
    cases rs with
    | nil =>
      have h : OkIn (match resC C e H r with
        | some v => v.fK k
        | none => .bad fid 903) L := h
      split at h
      · rename_i v hv
        rw [CV.fK_eq] at h
        obtain ⟨us, h1, h2⟩ := resL_ok hG hS hslot [r] [v] (by rw [resL_cons, hv]; rfl)
        simp only [CV.Rs] at h2
        obtain ⟨u, us', rfl, h3, rfl⟩ := h2
        exact ⟨v, u, h, run [u] h1, h3⟩
      · exact (OkIn.bad h).elim
    | cons r2 rs =>
      have h : OkIn (match resL C e H (r :: r2 :: rs) with
        | some l => CV.listK l fun l => k (.tup l)
        | none => .bad fid 904) L := h
      split at h
      · rename_i l hl
        rw [CV.listK_eq] at h
        obtain ⟨us, h1, h2⟩ := resL_ok hG hS hslot _ _ hl
        have hlen : us.length ≠ 1 := by
          have e1 := Rs_len _ _ h2
          have e2 : l.length = (r :: r2 :: rs).length := by
            have : ∀ (rs : List ResultVar) (l : List CV), resL C e H rs = some l → l.length = rs.length := by
              intro rs
              induction rs with
              | nil => intro l h; have h : some [] = some l := h; injection h with h; subst h; rfl
              | cons r rs ih =>
                intro l h
                rw [resL_cons] at h
                split at h
                · rename_i v l' _ hl'; injection h with h; subst h; simp [ih l' hl']
                · cases h
            exact this _ _ hl
          rw [e1, e2]
          simp
        refine ⟨.tup l, .tuple us.toArray, h, ?_, by simp only [CV.R]; exact ⟨us, rfl, h2⟩⟩
        rw [run us h1, dif_neg (by simpa using hlen)]
      · exact (OkIn.bad h).elim
/-- The marks of a function are taken. -/
theorem delAll_ok {P : Program} {fn : Func} {tmps : Array Value} {R : Ending → World → Prop} {k : CH → Ans} {ρ : Rho} (fid : Nat) (hk : ∀ H w, OkIn (k H) L → SR W ρ H w → LeavesInM Fence.wide 0 P fn tmps R [] .returning w) : ∀ (ds : List Nat) (l : List Deferred) (H : CH) (w : World), MarksR ρ ds l → SR W ρ H w → OkIn (delAll fid ds k H) L →
    LeavesInM Fence.wide 0 P fn tmps R l .returning w
  | [], l, H, w, hm, hS, h => by
    have hm : l = [] := hm
    subst hm
    exact hk H w h hS
  | d :: ds, l, H, w, hm, hS, h => by
    obtain ⟨b, m, rest, h1, rfl, h3⟩ := hm
    have h : OkIn (match H.get d with
      | some .dfr => (Cmd.del d).appK H fun H => delAll fid ds k H
      | _ => .bad fid 935) L := h
    split at h
    · rename_i hg
      rw [Cmd.appK_eq] at h
      have h2 : w.heap[b]? = some (.deferred (some [])) := hS.p hg h1
      have hnew := hS.new _ _ _ hg h1
      have hS' : SR W ρ (H.del d) (putObj w b (.deferred none)) := (hS.del d).other rfl rfl rfl (by simp [putObj]) fun k hk hor => by
        have : k ≠ b := by
          rcases hor with h0 | ⟨h', c, p, k1, k2, rfl⟩
          · intro e; subst e; simp only at hnew; omega
          · rw [get_del] at k1
            split at k1
            · cases k1
            · rename_i hne
              exact hS.apart _ _ _ _ _ _ k1 hg hne k2 h1
        simp [putObj, Array.getElem?_setIfInBounds_ne (Ne.symm this)]
      have hobj := run_getObj (P := P) h2 (fun _ _ _ => by simp)
      have hset := run_setObj (P := P) (o' := .deferred none) h2 (fun _ _ _ => by simp)
      refine ⟨by simp, .inl ⟨b, _, rfl, ?_, delAll_ok fid hk ds rest (H.del d) _ h3 hS' h⟩⟩
      simp [Instr.takeDeferred, hobj, hset]
    · exact (OkIn.bad h).elim
theorem Rho.cut_le {ρ ρ' : Rho} {n : Nat} (hle : Rho.le ρ ρ') (h : ∀ j, n ≤ j → ρ j = none) : Rho.le ρ (fun j => if j < n then ρ' j else none) := fun j p hj => by
  have : j < n := by
    rcases Nat.lt_or_ge j n with h1 | h1
    · exact h1
    · rw [h j h1] at hj; cases hj
  simp only [this, if_true]
  exact hle j p hj
theorem lvF_ok (hG : GOk C.G W) (_ : True) {fid : Nat} {fn : Func} {call : CallT} {ρ0 : Rho} : EndOk ⟨C, call, fid, fn.ntmps, none, lvF C fid fn.results.toList⟩ W L ρ0 (bodyPostM Fence.wide 0 C.P fn (Got W ρ0 L)) := by
  refine ⟨fun j ds e H ρ a w h hle hS hE => ?_, fun ρ' v u H w' a hrd hmem hle hS hv hd => ?_⟩
  · have hslot : ∀ t v, e.get t = some v → v.R ρ (a.tmps.getD t undef) := fun t v ht => (hE.slot t v ht (fun h => h)).2
    have main : OkIn (delAll fid ds (fun H => valC C fid fn.results.toList e H fun v => .ok [.ret v H]) H) L → LeavesInM Fence.wide 0 C.P fn a.tmps (Got W ρ0 L) a.defers .returning w := fun h =>
      delAll_ok fid (fun H' w' h' hS' => by
        obtain ⟨v, u, h1, h2, h3⟩ := valC_ok hG hS' hslot fid fn h'
        obtain ⟨l, e1, h4⟩ := h1
        injection e1 with e1
        subst e1
        exact ⟨u, h2, v, H', ρ, h4 _ (List.mem_singleton.2 rfl), hle, hS', h3⟩) ds a.defers H w hE.marks hS h
    cases j with
    | nrm => exact main h
    | ret => exact main h
    | ext id => exact (OkIn.bad h).elim
  · show LeavesInM Fence.wide 0 C.P fn a.tmps (Got W ρ0 L) a.defers (.panicking [{ v := u, recovered := false }]) w'
    rw [hd]
    exact ⟨u, v, H, ρ', rfl, hmem, hle, hS, hv⟩
end
end Go.Proofs.Yteeifedpabcehaa.Cx

namespace Go.Proofs.Yteeifedpabcehaa.Cx
open Go.RowKit Go.Proofs.Yteeifedpabcehaa.Bm

/-! The same answers. -/
theorem ckeq_spec {a b : CK} (h : ckeq a b = true) : a = b := by
  cases a <;> cases b <;> simp only [ckeq] at h <;> try cases h
  · rw [lbeq_eq] at h; rw [of_decide_eq_true h]
  · rw [Bool.and_eq_true] at h; have h2 := h.2; rw [eqI_eq] at h2; rw [eqK_spec h.1, of_decide_eq_true h2]
theorem ckeqL_spec : ∀ {a b : List CK}, ckeqL a b = true → a = b
  | [], [], _ => rfl
  | [], _ :: _, h => by cases h
  | _ :: _, [], h => by cases h
  | x :: xs, y :: ys, h => by
    have h : (ckeq x y && ckeqL xs ys) = true := h
    rw [Bool.and_eq_true] at h
    rw [ckeq_spec h.1, ckeqL_spec h.2]
theorem meqL_spec : ∀ {a b : List (CK × CV)}, meqL a b = true → a = b
  | [], [], _ => rfl
  | [], _ :: _, h => by cases h
  | _ :: _, [], h => by cases h
  | (k, x) :: xs, (j, y) :: ys, h => by
    have h : (ckeq k j && ceq x y && meqL xs ys) = true := h
    simp only [Bool.and_eq_true] at h
    rw [ckeq_spec h.1.1, ceq_spec h.1.2, meqL_spec h.2]
theorem cheq_spec {a b : Chunk} (h : cheq a b = true) : a = b := by
  unfold cheq at h
  split at h
  · have := ceqF_spec _ _ _ h; injection this with this; rw [this]
  · simp only [Bool.and_eq_true] at h
    rw [eqKK_spec h.1.1, Nat.eq_of_beq_eq_true h.1.2, meqL_spec h.2]
  · simp only [Bool.and_eq_true] at h
    obtain ⟨⟨⟨h1, h2⟩, h3⟩, h4⟩ := h
    rw [Nat.eq_of_beq_eq_true h1, Nat.eq_of_beq_eq_true h2, ckeqL_spec h3]
    split at h4
    · rfl
    · rw [ckeq_spec h4]
    · cases h4
  · rw [Bool.and_eq_true] at h
    have h1 := h.1
    rw [lbeq_eq] at h1
    rw [of_decide_eq_true h1, Nat.eq_of_beq_eq_true h.2]
  · cases h
theorem treq_nd (v w : Option Chunk) (l r l' r' : Tr Chunk) : treq (.nd v l r) (.nd w l' r') = ((match v, w with
      | none, none => true
      | some x, some y => cheq x y
      | _, _ => false) && treq l l' && treq r r') := rfl
theorem treq_spec : ∀ {a b : Tr Chunk}, treq a b = true → a = b
  | .lf, .lf, _ => rfl
  | .lf, .nd .., h => by cases h
  | .nd .., .lf, h => by cases h
  | .nd v l r, .nd w l' r', h => by
    rw [treq_nd] at h
    simp only [Bool.and_eq_true] at h
    obtain ⟨⟨h1, h2⟩, h3⟩ := h
    rw [treq_spec h2, treq_spec h3]
    split at h1
    · rfl
    · rw [cheq_spec h1]
    · cases h1
theorem heq_spec {a b : CH} (h : heq a b = true) : a = b := by
  unfold heq at h
  rw [Bool.and_eq_true] at h
  obtain ⟨n, t⟩ := a
  obtain ⟨n', t'⟩ := b
  have h1 : n = n' := Nat.eq_of_beq_eq_true h.1
  have h2 : t = t' := treq_spec h.2
  rw [h1, h2]
theorem feq_spec {a b : Fin} (h : feq a b = true) : a = b := by
  unfold feq at h
  split at h
  · rw [Bool.and_eq_true] at h; rw [ceq_spec h.1, heq_spec h.2]
  · rw [Bool.and_eq_true] at h; rw [ceq_spec h.1, heq_spec h.2]
  · cases h
theorem anyF_mem {x : Fin} : ∀ {l : List Fin}, anyF x l = true → x ∈ l
  | [], h => by cases h
  | y :: ys, h => by
    have h : (bif feq x y then true else anyF x ys) = true := h
    cases hb : feq x y with
    | true => rw [feq_spec hb]; exact List.mem_cons_self ..
    | false => rw [hb] at h; exact List.mem_cons_of_mem _ (anyF_mem h)
theorem dedupL_cons (y : Fin) (ys : List Fin) : dedupL (y :: ys) = match dedupL ys with
  | [] => [y]
  | r => bif anyF y r then r else y :: r := rfl
theorem mem_dedupL {x : Fin} : ∀ {l : List Fin}, x ∈ l → x ∈ dedupL l
  | [], h => by cases h
  | y :: ys, h => by
    have ih : x ∈ ys → x ∈ dedupL ys := fun h => mem_dedupL h
    rw [dedupL_cons]
    generalize dedupL ys = r at ih
    cases r with
    | nil =>
      rcases List.mem_cons.1 h with rfl | h
      · exact List.mem_cons_self ..
      · cases ih h
    | cons z zs =>
      show x ∈ (bif anyF y (z :: zs) then z :: zs else y :: z :: zs)
      cases hb : anyF y (z :: zs) with
      | true =>
        rcases List.mem_cons.1 h with rfl | h
        · exact anyF_mem hb
        · exact ih h
      | false =>
        rcases List.mem_cons.1 h with rfl | h
        · exact List.mem_cons_self ..
        · exact List.mem_cons_of_mem _ (ih h)

/-! Memory that is kept. -/
theorem allLt_cat {n : Nat} : ∀ {a b : List Nat}, allLt n (catL a b) = true → allLt n a = true ∧ allLt n b = true
  | [], _, h => ⟨rfl, h⟩
  | x :: xs, b, h => by
    have h : (bif Nat.blt x n then allLt n (catL xs b) else false) = true := h
    cases hb : Nat.blt x n with
    | false => rw [hb] at h; cases h
    | true =>
      rw [hb] at h
      obtain ⟨h1, h2⟩ := allLt_cat h
      refine ⟨?_, h2⟩
      show (bif Nat.blt x n then allLt n xs else false) = true
      rw [hb]
      exact h1
theorem allLt_cons {n x : Nat} {xs : List Nat} (h : allLt n (x :: xs) = true) : x < n ∧ allLt n xs = true := by
  have h : (bif Nat.blt x n then allLt n xs else false) = true := h
  cases hb : Nat.blt x n with
  | false => rw [hb] at h; cases h
  | true => rw [hb] at h; exact ⟨by rw [← Nat.blt_eq]; exact hb, h⟩
def Rho.cut (ρ : Rho) (n : Nat) : Rho := fun j => if j < n then ρ j else none
theorem cut_some {ρ : Rho} {n j : Nat} {p : Nat × Nat} (h : ρ.cut n j = some p) : ρ j = some p := by
  unfold Rho.cut at h
  split at h
  · exact h
  · cases h
theorem cut_lt {ρ : Rho} {n j : Nat} (h : j < n) : ρ.cut n j = ρ j := if_pos h
section
variable {ρ : Rho} {n2 : Nat}
noncomputable def hsLn (n : Nat) (cs : List CV) : List Nat := List.rec (motive := fun _ => List Nat) [] (fun c _ r => catL (hsF n c) r) cs
theorem R_cut (hn : n2 ≤ 1000000000000) : ∀ (n : Nat) (x : CV) (u : Value), allLt n2 (hsF n x) = true → x.R ρ u → x.R (ρ.cut n2) u
  | 0, _, _, h, _ => by
    have := (allLt_cons (n := n2) (x := 1000000000000) (xs := []) h).1
    omega
  | n + 1, x, u, h, hx => by
    have lists : ∀ (cs : List CV) (vs : List Value), allLt n2 (hsLn n cs) = true → CV.Rs ρ cs vs → CV.Rs (ρ.cut n2) cs vs := by
      intro cs
      induction cs with
      | nil => intro vs _ h; simpa only [CV.Rs] using h
      | cons c cs ih =>
        intro vs h hr
        simp only [CV.Rs] at hr ⊢
        obtain ⟨y, ys, rfl, r, rs⟩ := hr
        obtain ⟨h1, h2⟩ := allLt_cat (a := hsF n c) (b := hsLn n cs) h
        exact ⟨y, ys, rfl, R_cut hn n c y h1 r, ih ys h2 rs⟩
    cases x with
    | v y => simpa only [CV.R] using hx
    | int k m => simpa only [CV.R] using hx
    | bool b => simpa only [CV.R] using hx
    | str l => simpa only [CV.R] using hx
    | gp g o => simpa only [CV.R] using hx
    | junk => simp only [CV.R]
    | ptr hh o =>
      have h1 := (allLt_cons (n := n2) (x := hh) (xs := []) h).1
      simp only [CV.R] at hx ⊢
      rw [cut_lt h1]; exact hx
    | row hh s o l c =>
      have h1 := (allLt_cons (n := n2) (x := hh) (xs := []) h).1
      simp only [CV.R] at hx ⊢
      rw [cut_lt h1]; exact hx
    | mp hh =>
      have h1 := (allLt_cons (n := n2) (x := hh) (xs := []) h).1
      simp only [CV.R] at hx ⊢
      rw [cut_lt h1]; exact hx
    | yld hh =>
      have h1 := (allLt_cons (n := n2) (x := hh) (xs := []) h).1
      simp only [CV.R] at hx ⊢
      rw [cut_lt h1]; exact hx
    | agg cs =>
      simp only [CV.R] at hx ⊢
      obtain ⟨vs, e, r⟩ := hx
      exact ⟨vs, e, lists cs vs h r⟩
    | tup cs =>
      simp only [CV.R] at hx ⊢
      obtain ⟨vs, e, r⟩ := hx
      exact ⟨vs, e, lists cs vs h r⟩
    | ifc t y =>
      simp only [CV.R] at hx ⊢
      obtain ⟨z, e, r⟩ := hx
      exact ⟨z, e, R_cut hn n y z h r⟩
    | fnc f a c =>
      simp only [CV.R] at hx ⊢
      obtain ⟨as, cs, e, r, s⟩ := hx
      obtain ⟨h1, h2⟩ := allLt_cat (a := hsLn n a) (b := hsLn n c) h
      exact ⟨as, cs, e, lists a as h1 r, lists c cs h2 s⟩
theorem Rs_cut (hn : n2 ≤ 1000000000000) : ∀ (cs : List CV) (vs : List Value), allLt n2 (hsL cs) = true → CV.Rs ρ cs vs → CV.Rs (ρ.cut n2) cs vs
  | [], _, _, h => by simpa only [CV.Rs] using h
  | c :: cs, _, h, hr => by
    simp only [CV.Rs] at hr ⊢
    obtain ⟨y, ys, rfl, r, rs⟩ := hr
    obtain ⟨h1, h2⟩ := allLt_cat (a := hsF 8 c) (b := hsL cs) h
    exact ⟨y, ys, rfl, R_cut hn 8 c y h1 r, Rs_cut hn cs ys h2 rs⟩
theorem ZipR.mem_mono {X : Type} {R R' : X → Value → Prop} : ∀ {l : List MapEntry} {m : List (MK × X)}, (∀ p ∈ m, ∀ v, R p.2 v → R' p.2 v) → ZipR R l m → ZipR R' l m
  | [], _, _, h => h
  | e :: es, m, hm, ⟨p, ps, e1, e2, e3, e4⟩ => by
    subst e1
    exact ⟨p, ps, rfl, e2, hm p (List.mem_cons_self ..) _ e3, ZipR.mem_mono (fun q hq => hm q (List.mem_cons_of_mem _ hq)) e4⟩
noncomputable def hsTr (t : Tr CV) : List Nat := Tr.rec (motive := fun _ => List Nat) [] (fun v _ _ l r => catL (match v with
  | some v => hsF 8 v
  | none => []) (catL l r)) t
def hsO (x : Option CV) (k : CV → List Nat) : List Nat := match x with
  | some v => k v
  | none => []
theorem hsTr_nd (x : Option CV) (l r : Tr CV) : hsTr (.nd x l r) = catL (hsO x (hsF 8)) (catL (hsTr l) (hsTr r)) := by cases x <;> rfl
theorem hsTr_get : ∀ (p : Pt) (t : Tr CV) (v : CV), allLt n2 (hsTr t) = true → Tr.getP p t = some v → allLt n2 (hsF 8 v) = true
  | p, .lf, v, _, h => by rw [Tr.getP_lf] at h; cases h
  | p, .nd x l r, v, ha, h => by
    rw [hsTr_nd] at ha
    obtain ⟨h1, h2⟩ := allLt_cat ha
    obtain ⟨h3, h4⟩ := allLt_cat (a := hsTr l) (b := hsTr r) h2
    cases p with
    | z =>
      have h : x = some v := h
      subst h
      exact h1
    | l p => exact hsTr_get p l v h3 h
    | r p => exact hsTr_get p r v h4 h
theorem Chunk.R_cut (hn : n2 ≤ 1000000000000) {p : Nat × Nat} {w : World} {c : Chunk} (ha : allLt n2 (hsC c) = true) (h : c.R ρ p w) : c.R (ρ.cut n2) p w := by
  cases c with
  | cells cs => obtain ⟨arr, e, fr, vs, h1, h2, h3, h4, h5⟩ := h; exact ⟨arr, e, fr, vs, h1, h2, h3, Rs_cut hn cs vs ha h4, h5⟩
  | map kk ver m =>
    obtain ⟨es, clock, h1, h2, h3⟩ := h
    refine ⟨es, clock, h1, ⟨h2.kind, ?_, h2.keys, h2.born, h2.clock⟩, h3⟩
    obtain ⟨l, hp, hz⟩ := h2.zip
    refine ⟨l, hp, ZipR.mem_mono (fun q hq v hv => ?_) hz⟩
    obtain ⟨q', hq', rfl⟩ := List.mem_map.1 hq
    refine Cx.R_cut hn 8 q'.2 v ?_ hv
    have key : ∀ m : List (CK × CV), allLt n2 (List.rec (motive := fun _ => List Nat) [] (fun p _ r => catL (hsF 8 p.2) r) m : List Nat) = true → ∀ q ∈ m, allLt n2 (hsF 8 q.2) = true := by
      intro m
      induction m with
      | nil => intro _ q hq; cases hq
      | cons x xs ih =>
        intro h q hq
        obtain ⟨h1, h2⟩ := allLt_cat (a := hsF 8 x.2) (b := (List.rec (motive := fun _ => List Nat) [] (fun p _ r => catL (hsF 8 p.2) r) xs : List Nat)) h
        rcases List.mem_cons.1 hq with rfl | hq
        · exact h1
        · exact ih h2 q hq
    exact key m ha q' hq'
  | miter hm ver left last =>
    obtain ⟨bm, mm, since, seen, st, h1, h2, h3⟩ := h
    exact ⟨bm, mm, since, seen, st, (cut_lt (allLt_cons ha).1).trans h1, h2, h3⟩
  | siter l pos => exact h
  | loop st pend fid N tmps params asg body dh =>
    obtain ⟨fn, tv, bd, md, h1, h2, h3, h4⟩ := h
    obtain ⟨a1, a2⟩ := allLt_cons (x := dh) (xs := hsTr tmps) ha
    exact ⟨fn, tv, bd, md, (cut_lt a1).trans h1, h2, h3, fun t v ht => ⟨(h4 t v ht).1, Cx.R_cut hn 8 v _ (hsTr_get _ _ _ a2 ht) (h4 t v ht).2⟩⟩
  | dfr => exact h
/-- Less memory. -/
structure Cut (n0 n2 : Nat) (v : CV) (H H2 : CH) : Prop where
  next : H2.next = n2
  lo : n0 ≤ n2
  hi : n2 ≤ 1000000000000
  val : allLt n2 (hsF 8 v) = true
  get : ∀ h c, H2.get h = some c → H.get h = some c ∧ h < n2 ∧ allLt n2 (hsC c) = true
theorem SR.cut {W : World} {H H2 : CH} {w : World} {v : CV} {n0 : Nat} (hS : SR W ρ H w) (hC : Cut n0 n2 v H H2) : SR W (ρ.cut n2) H2 w := by
  refine ⟨hS.base, fun h c hc => ?_, fun h hh => ?_, fun h c p hc hp => hS.new h c p (hC.get h c hc).1 (cut_some hp), fun h h' c c' p p' h1 h2 h3 h4 h5 => hS.apart h h' c c' p p' (hC.get _ _ h1).1 (hC.get _ _ h2).1 h3 (cut_some h4) (cut_some h5),
    fun h p hm q ver left last kk m bm since seen st es clock v h1 h2 h3 h4 => hS.iter h p hm q ver left last kk m bm since seen st es clock v (hC.get _ _ h1).1 (hC.get _ _ h2).1 (cut_some h3) (cut_some h4)⟩
  · obtain ⟨g1, g2, g3⟩ := hC.get h c hc
    obtain ⟨p, h1, h2⟩ := hS.rel h c g1
    exact ⟨p, (cut_lt g2).trans h1, Chunk.R_cut hC.hi g3 h2⟩
  · rw [hC.next] at hh
    exact if_neg (by omega)
end
theorem rootsT_ex (n0 : Nat) (_ : List Nat → List Fin) : ∀ (t : Tr Chunk) (a b : Nat) (s : List Nat) (k : List Nat → List Fin), ∃ s', rootsT n0 t a b s k = k s'
  | .lf, _, _, s, k => ⟨s, rfl⟩
  | .nd v l r, a, b, s, k => by
    have e : rootsT n0 (.nd v l r) a b s k = (match v with
      | none => fun k => k s
      | some c => fun k => bif Nat.blt b n0 then natsK (newH n0 (hsC c) s) k else k s : (List Nat → List Fin) → List Fin) fun s => rootsT n0 l (2 * a) (a + b) s fun s => rootsT n0 r (2 * a) (2 * a + b) s k := rfl
    rw [e]
    have two : ∀ s, ∃ s', (rootsT n0 l (2 * a) (a + b) s fun s => rootsT n0 r (2 * a) (2 * a + b) s k) = k s' := fun s => by
      obtain ⟨s1, h1⟩ := rootsT_ex n0 k l (2 * a) (a + b) s (fun s => rootsT n0 r (2 * a) (2 * a + b) s k)
      obtain ⟨s2, h2⟩ := rootsT_ex n0 k r (2 * a) (2 * a + b) s1 k
      exact ⟨s2, h1.trans h2⟩
    cases v with
    | none => exact two s
    | some c =>
      simp only [natsK_eq]
      cases Nat.blt b n0 with
      | true => exact two _
      | false => exact two s
theorem reachF_ex (n0 : Nat) (H : CH) : ∀ (n : Nat) (todo s : List Nat) (k : List Nat → List Fin), ∃ s', reachF n0 H n todo s k = k s'
  | 0, _, s, _ => ⟨s, rfl⟩
  | n + 1, todo, s, k => by
    cases todo with
    | nil => exact ⟨s, rfl⟩
    | cons h todo =>
      have e : reachF n0 H (n + 1) (h :: todo) s k = (match H.get h with
        | none => reachF n0 H n todo s k
        | some c => natsK (newH n0 (hsC c) s) fun s' => natsK (catL (takeL s' (len s' - len s)) todo) fun todo => reachF n0 H n todo s' k) := rfl
      rw [e]
      split
      · exact reachF_ex n0 H n todo s k
      · rw [natsK_eq, natsK_eq]; exact reachF_ex n0 H n _ _ k
/-- What is made of a node. -/
noncomputable def keepN (n0 n2 b : Nat) (s : List Nat) (v : Option Chunk) (k : Option (Tr Chunk) → List Fin) (l r : Option (Tr Chunk)) : List Fin := match l, r with
  | some l, some r => (match v with
    | none => k (some (.nd none l r))
    | some c => bif Nat.blt b n0 || memN b s then (bif allLt n2 (hsC c) && Nat.blt b n2 then k (some (.nd (some c) l r)) else k none) else k (some (.nd none l r)))
  | _, _ => k none
theorem keepT_nd (n0 n2 : Nat) (s : List Nat) (v : Option Chunk) (l r : Tr Chunk) (a b : Nat) (k : Option (Tr Chunk) → List Fin) : keepT n0 n2 s (.nd v l r) a b k = keepT n0 n2 s l (2 * a) (a + b) fun l => keepT n0 n2 s r (2 * a) (2 * a + b) fun r => keepN n0 n2 b s v k l r := rfl
theorem keepT_ex (n0 n2 : Nat) (s : List Nat) : ∀ (t : Tr Chunk) (a b : Nat) (k : Option (Tr Chunk) → List Fin), ∃ o, keepT n0 n2 s t a b k = k o ∧ ∀ t', o = some t' → ∀ p c, Tr.getP p t' = some c → Tr.getP p t = some c ∧ a * p.num + b < n2 ∧ allLt n2 (hsC c) = true
  | .lf, a, b, k => ⟨some .lf, rfl, fun t' h p c hp => by cases h; rw [Tr.getP_lf] at hp; cases hp⟩
  | .nd v l r, a, b, k => by
    rw [keepT_nd]
    obtain ⟨ol, h1, h2⟩ := keepT_ex n0 n2 s l (2 * a) (a + b) (fun l => keepT n0 n2 s r (2 * a) (2 * a + b) fun r => keepN n0 n2 b s v k l r)
    rw [h1]
    obtain ⟨or, h3, h4⟩ := keepT_ex n0 n2 s r (2 * a) (2 * a + b) (fun r => keepN n0 n2 b s v k ol r)
    rw [h3]
    have sub : ∀ l' r', ol = some l' → or = some r' → ∀ (x : Option Chunk), (∀ c, x = some c → v = some c ∧ b < n2 ∧ allLt n2 (hsC c) = true) → ∀ p c, Tr.getP p (.nd x l' r') = some c → Tr.getP p (.nd v l r) = some c ∧ a * p.num + b < n2 ∧ allLt n2 (hsC c) = true := by
      intro l' r' hl hr x hx p c hp
      cases p with
      | z =>
        have hp : x = some c := hp
        obtain ⟨g1, g2, g3⟩ := hx c hp
        exact ⟨g1, by simpa [Pt.num] using g2, g3⟩
      | l p =>
        obtain ⟨g1, g2, g3⟩ := h2 l' hl p c hp
        refine ⟨g1, ?_, g3⟩
        have : a * (2 * p.num + 1) + b = 2 * a * p.num + (a + b) := by
          rw [Nat.mul_add, Nat.mul_one, ← Nat.mul_assoc, Nat.mul_comm a 2, Nat.add_assoc]
        show a * (2 * p.num + 1) + b < n2
        rw [this]; exact g2
      | r p =>
        obtain ⟨g1, g2, g3⟩ := h4 r' hr p c hp
        refine ⟨g1, ?_, g3⟩
        have : a * (2 * p.num + 2) + b = 2 * a * p.num + (2 * a + b) := by
          rw [Nat.mul_add, ← Nat.mul_assoc, Nat.mul_comm a 2, Nat.add_assoc]
        show a * (2 * p.num + 2) + b < n2
        rw [this]; exact g2
    cases ol with
    | none => exact ⟨none, rfl, fun t' h => by cases h⟩
    | some l' =>
      cases or with
      | none => exact ⟨none, rfl, fun t' h => by cases h⟩
      | some r' =>
        cases v with
        | none => exact ⟨_, rfl, fun t' h p c hp => by cases h; exact sub l' r' rfl rfl none (fun c h => by cases h) p c hp⟩
        | some c0 =>
          show ∃ o, (bif Nat.blt b n0 || memN b s then (bif allLt n2 (hsC c0) && Nat.blt b n2 then k (some (.nd (some c0) l' r')) else k none) else k (some (.nd none l' r'))) = k o ∧ _
          cases (Nat.blt b n0 || memN b s) with
          | false => exact ⟨_, rfl, fun t' h p c hp => by cases h; exact sub l' r' rfl rfl none (fun c h => by cases h) p c hp⟩
          | true =>
            cases hb : (allLt n2 (hsC c0) && Nat.blt b n2) with
            | false => exact ⟨none, rfl, fun t' h => by cases h⟩
            | true =>
              rw [Bool.and_eq_true] at hb
              exact ⟨_, rfl, fun t' h p c hp => by cases h; exact sub l' r' rfl rfl (some c0) (fun c h => by cases h; exact ⟨rfl, by rw [← Nat.blt_eq]; exact hb.2, hb.1⟩) p c hp⟩
theorem gcF_ex (n0 : Nat) (v : CV) (H : CH) (k : Option CH → List Fin) : ∃ o, gcF n0 v H k = k o ∧ ∀ H2, o = some H2 → ∃ n2, Cut n0 n2 v H H2 := by
  unfold gcF
  rw [natsK_eq]
  obtain ⟨s1, h1⟩ := rootsT_ex n0 (fun _ => []) H.t 1 0 (newH n0 (hsF 8 v) []) (fun s => reachF n0 H 1000 s s (gcS n0 v H k))
  rw [h1]
  obtain ⟨s2, h2⟩ := reachF_ex n0 H 1000 s1 s1 (gcS n0 v H k)
  rw [h2]
  unfold gcS
  rw [natK_eq]
  generalize maxN n0 s2 = n2
  cases hb : (allLt n2 (hsF 8 v) && Nat.ble n0 n2 && Nat.ble n2 1000000000000) with
  | false => exact ⟨none, rfl, fun H2 h => by cases h⟩
  | true =>
    simp only [Bool.and_eq_true] at hb
    simp only [cond_true]
    obtain ⟨o, h3, h4⟩ := keepT_ex n0 n2 s2 H.t 1 0 (gcK n2 k)
    rw [h3]
    cases o with
    | none => exact ⟨none, rfl, fun H2 h => by cases h⟩
    | some t' =>
      refine ⟨some ⟨n2, t'⟩, rfl, fun H2 h => ?_⟩
      cases h
      refine ⟨n2, rfl, Nat.le_of_ble_eq_true hb.1.2, Nat.le_of_ble_eq_true hb.2, hb.1.1, fun j c hc => ?_⟩
      obtain ⟨g1, g2, g3⟩ := h4 t' rfl (path j) c hc
      have : (path j).num = j := pathF_num _ _ (Nat.lt_succ_self j)
      rw [this] at g2
      exact ⟨g1, by omega, g3⟩
/-- What stands for an answer. -/
inductive Stands (n0 : Nat) : Fin → Fin → Prop where
  | same (x : Fin) : Stands n0 x x
  | ret {n2 : Nat} {v : CV} {H H2 : CH} (h : Cut n0 n2 v H H2) : Stands n0 (.ret v H) (.ret v H2)
  | pan {n2 : Nat} {v : CV} {H H2 : CH} (h : Cut n0 n2 v H H2) : Stands n0 (.pan v H) (.pan v H2)
theorem stripF_ex (n0 : Nat) (x : Fin) (k : Fin → List Fin) : ∃ y, stripF n0 x k = k y ∧ Stands n0 x y := by
  cases x with
  | ret v H =>
    obtain ⟨o, h1, h2⟩ := gcF_ex n0 v H (stripK H (.ret v) k)
    cases o with
    | none => exact ⟨_, h1, .same _⟩
    | some H2 => obtain ⟨n2, hc⟩ := h2 H2 rfl; exact ⟨_, h1, .ret hc⟩
  | pan v H =>
    obtain ⟨o, h1, h2⟩ := gcF_ex n0 v H (stripK H (.pan v) k)
    cases o with
    | none => exact ⟨_, h1, .same _⟩
    | some H2 => obtain ⟨n2, hc⟩ := h2 H2 rfl; exact ⟨_, h1, .pan hc⟩
theorem stripL_ex (n0 : Nat) : ∀ (l : List Fin), ∀ x ∈ l, ∃ y ∈ stripL n0 l, Stands n0 x y
  | [], x, h => by cases h
  | z :: l, x, h => by
    obtain ⟨y, h1, h2⟩ := stripF_ex n0 z (fun y => y :: stripL n0 l)
    have e : stripL n0 (z :: l) = y :: stripL n0 l := h1
    rw [e]
    rcases List.mem_cons.1 h with rfl | h
    · exact ⟨y, List.mem_cons_self .., h2⟩
    · obtain ⟨y', h3, h4⟩ := stripL_ex n0 l x h
      exact ⟨y', List.mem_cons_of_mem _ h3, h4⟩
theorem dedup_ex {n0 : Nat} {a : Ans} {l : List Fin} (h : dedup n0 a = .ok l) : ∃ l0, a = .ok l0 ∧ ∀ x ∈ l0, ∃ y ∈ l, Stands n0 x y := by
  unfold dedup at h
  split at h
  · cases h
  · injection h with h
    subst h
    exact ⟨_, rfl, fun x hx => ⟨x, hx, .same x⟩⟩
  · injection h with h
    subst h
    refine ⟨_, rfl, fun x hx => ?_⟩
    obtain ⟨y, h1, h2⟩ := stripL_ex n0 _ x hx
    exact ⟨y, mem_dedupL h1, h2⟩
theorem Got.dedup {W : World} {ρ : Rho} {n0 : Nat} {l l0 : List Fin} (hf : ∀ j, n0 ≤ j → ρ j = none) (hs : ∀ x ∈ l0, ∃ y ∈ l, Stands n0 x y) : ∀ (en : Ending) (w : World), Got W ρ l0 en w → Got W ρ l en w
  | .returned u, w, ⟨v, H, ρ', h1, h2, h3, h4⟩ => by
    obtain ⟨y, hy, hst⟩ := hs _ h1
    cases hst with
    | same => exact ⟨v, H, ρ', hy, h2, h3, h4⟩
    | ret hc => exact ⟨v, _, ρ'.cut _, hy, Rho.cut_le h2 fun j hj => hf j (Nat.le_trans hc.lo hj), h3.cut hc, R_cut hc.hi 8 v u hc.val h4⟩
  | .panicked ch, w, ⟨u, v, H, ρ', h0, h1, h2, h3, h4⟩ => by
    obtain ⟨y, hy, hst⟩ := hs _ h1
    cases hst with
    | same => exact ⟨u, v, H, ρ', h0, hy, h2, h3, h4⟩
    | pan hc => exact ⟨u, v, _, ρ'.cut _, h0, hy, Rho.cut_le h2 fun j hj => hf j (Nat.le_trans hc.lo hj), h3.cut hc, R_cut hc.hi 8 v u hc.val h4⟩
  | .outgrown, _, h => h
end Go.Proofs.Yteeifedpabcehaa.Cx

namespace Go.Proofs.Yteeifedpabcehaa.Cx
open Go.RowKit Go.Proofs.Yteeifedpabcehaa.Bm

section
variable {C : Cf} {W : World} {L : List Fin}
theorem wp_of_run {X : Cx} {rb : Option Nat} {Q0 : Exit → Act → World → Prop} {ρ0 : Rho} (hC : CallOk X.C W X.call) (hG : GOk X.C.G W) (hm : X.C.P.follows .mixedOrders = true) (hrd : RdOk X rb ρ0) (hQ : EndOk X W L ρ0 Q0) {n : Nat} {c : Code} {ds : List Nat} {e : Tr CV} {H : CH} {ρ : Rho} {a : Act} {w : World}
    (h : OkIn (run X n [.seq c] ds e H) L) (hle : Rho.le ρ0 ρ) (hS : SR W ρ H w) (hE : EvS ρ X.N e ds a (fun _ => False)) : c.wpIn (FE rb) 0 X.C.P Q0 a w :=
  fun b k cs hb _ _ => run_ok hC hG hm hrd hQ b k cs hb n [.seq c] ds e H ρ a w h hle hS hE
/-- A round's end. -/
theorem endRound_run {P : Program} {w : World} {b : Nat} {st : LoopState} {pend : Option Code} {fn bd : Nat} {tv : Array Value} {params : List Nat} {asg body : Code} (hw : w.heap[b]? = some (.loop { state := st, pending := pend, fn, tmps := tv, params := params.toArray, assign := asg, body, defers := bd })) (jump : Option Code)
    (hset : (setObj b (.loop { state := if jump.isNone then .ready else .done, pending := jump, fn, tmps := tv, params := params.toArray, assign := asg, body, defers := bd })).run P w = .ok () (putObj w b (.loop { state := if jump.isNone then .ready else .done, pending := jump, fn, tmps := tv, params := params.toArray, assign := asg, body, defers := bd }))) :
    (Instr.endRound b jump).run P w = .ok (.bool jump.isNone) (putObj w b (.loop { state := if jump.isNone then .ready else .done, pending := jump, fn, tmps := tv, params := params.toArray, assign := asg, body, defers := bd })) := by
  have hgl := run_getLoop (P := P) hw
  simp only [Instr.endRound, Sem.run_bind, hgl, Result.andThen_ok, hset, Sem.run_pure]
theorem lvB_ok {fid l b m N : Nat} {call : CallT} {ρ0 : Rho} (hl : ρ0 l = some (b, m)) : EndOk ⟨C, call, fid, N, some l, lvB fid l⟩ W L ρ0 (roundPost C.P b (Got W ρ0 L)) := by
  refine ⟨fun j ds e H ρ a w h hle hS hE => ?_, fun ρ' v u H w' a hrd => (by cases hrd)⟩
  have h : OkIn (lvB fid l j ds e H) L := h
  unfold lvB at h
  have hlp := hle _ _ hl
  split at h
  · unfold endR at h
    split at h
    · rename_i st pend f0 N0 tm pr as0 bo dh hg
      obtain ⟨fn0, tv0, bd0, md0, q1, q2, q3, q4⟩ := hS.p hg hlp
      have fin : ∀ (jump : Option Code) (ret : Bool) (st' : LoopState), st' = (if jump.isNone then .ready else .done) → ret = jump.isNone → OkIn ((Cmd.set l (.loop st' jump f0 N0 tm pr as0 bo dh)).appK H fun H => .ok [.ret (.bool ret) H]) L →
          ∃ v w', (Instr.endRound b jump).run C.P w = .ok v w' ∧ Got W ρ0 L (.returned v) w' := by
        intro jump ret st' e1 e2 h
        subst e1 e2
        rw [Cmd.appK_eq] at h
        obtain ⟨ll, e3, h4⟩ := h
        injection e3 with e3
        subst e3
        obtain ⟨r1, r2⟩ := hS.loop (st' := if jump.isNone then .ready else .done) (pend' := jump) hg hlp q2
        exact ⟨_, _, endRound_run q2 jump (r1 C.P), _, _, ρ, h4 _ (List.mem_singleton.2 rfl), hle, r2, R_bool _⟩
      cases j with
      | nrm => exact fin none true .ready rfl rfl h
      | ret => exact fin (some .ret) false .done rfl rfl h
      | ext id => exact fin (some (.exit id)) false .done rfl rfl h
    · exact (OkIn.bad h).elim
  · exact (OkIn.bad h).elim
theorem lvA_ok {fid l b m N : Nat} {call : CallT} {ρ0 : Rho} {k : Tr CV → CH → Ans} {R : Exit → Act → World → Prop} {body : Code} (hl : ρ0 l = some (b, m))
    (hk : ∀ e H ρ a w, OkIn (k e H) L → Rho.le ρ0 ρ → SR W ρ H w → EvS ρ N e [] a (fun _ => False) → body.wpIn (FE (some b)) 0 C.P R a w) :
    EndOk ⟨C, call, fid, N, some l, lvA fid l k⟩ W L ρ0 (Exit.then (fun a₁ w₁ => ∃ w₂, (Instr.beginRound b).run C.P w₁ = .ok () w₂ ∧ body.wpIn (FE (some b)) 0 C.P R a₁ w₂) (fun _ _ _ => False)) := by
  refine ⟨fun j ds e H ρ a w h hle hS hE => ?_, fun ρ' v u H w' a hrd => (by cases hrd)⟩
  have h : OkIn (lvA fid l k j ds e H) L := h
  unfold lvA at h
  have hlp := hle _ _ hl
  split at h
  · split at h
    · rename_i pend f0 N0 tm pr as0 bo dh hg
      rw [Cmd.appK_eq] at h
      obtain ⟨fn0, tv0, bd0, md0, q1, q2, q3, q4⟩ := hS.p hg hlp
      obtain ⟨r1, r2⟩ := hS.loop (st' := .busy) (pend' := pend) hg hlp q2
      have hgl := run_getLoop (P := C.P) q2
      refine ⟨_, ?_, hk e _ ρ a _ h hle r2 hE⟩
      have r1 := r1 C.P
      simp only at r1 hgl
      simp only [Instr.beginRound, Sem.run_bind, hgl, Result.andThen_ok, r1, Sem.run_pure]
    · exact (OkIn.bad h).elim
  · exact (OkIn.bad h).elim
theorem envK_ok {β : Type} : ∀ (l : List CV) (n : Nat) (t : Tr CV) (k : Tr CV → β), ∃ e, envK l n t k = k e ∧ ∀ j, e.get j = if n ≤ j ∧ j < n + l.length then l[j - n]? else t.get j
  | [], n, t, k => ⟨t, rfl, fun j => by rw [if_neg (by rintro ⟨h1, h2⟩; simp only [List.length_nil] at h2; omega)]⟩
  | x :: xs, n, t, k => by
    have e : envK (x :: xs) n t k = t.setK n (some x) fun t => natK (n + 1) fun n => envK xs n t k := rfl
    rw [e, Tr.setK_eq, natK_eq]
    obtain ⟨e', h1, h2⟩ := envK_ok xs (n + 1) (t.set n (some x)) k
    refine ⟨e', h1, fun j => ?_⟩
    rw [h2 j, Tr.get_set]
    simp only [List.length_cons]
    by_cases h : j = n
    · subst h
      rw [if_neg (by omega), if_pos rfl, if_pos (by omega)]
      simp
    · rw [if_neg h]
      by_cases h3 : n + 1 ≤ j ∧ j < n + 1 + xs.length
      · rw [if_pos h3, if_pos (by omega)]
        have : j - n = (j - (n + 1)) + 1 := by omega
        rw [this]
        simp
      · rw [if_neg h3, if_neg (by omega)]
theorem bindP_ok {ρ : Rho} {N : Nat} {k : Option (Tr CV) → Ans} (hk : ∀ {L : List Fin}, OkIn (k none) L → False) : ∀ (ps : List Nat) (vs : List CV) (as : List Value) (e : Tr CV) (tv : Array Value), CV.Rs ρ vs as → tv.size = N → (∀ t v, e.get t = some v → t < N ∧ v.R ρ (tv.getD t undef)) → OkIn (bindP N ps vs e k) L →
    ∃ e', OkIn (k (some e')) L ∧ ps.length = as.length ∧ ((ps.zip as).foldl (fun tmps p => tmps.setIfInBounds p.1 p.2) tv).size = N ∧ ∀ t v, e'.get t = some v → t < N ∧ v.R ρ (((ps.zip as).foldl (fun tmps p => tmps.setIfInBounds p.1 p.2) tv).getD t undef)
  | [], vs, as, e, tv, hr, hN, he, h => by
    cases vs with
    | nil =>
      simp only [CV.Rs] at hr
      subst hr
      exact ⟨e, h, rfl, hN, he⟩
    | cons v vs => exact (hk (L := L) h).elim
  | p :: ps, vs, as, e, tv, hr, hN, he, h => by
    cases vs with
    | nil => exact (hk (L := L) h).elim
    | cons v vs =>
      simp only [CV.Rs] at hr
      obtain ⟨u, us, rfl, r, rs⟩ := hr
      have h : OkIn (bif Nat.blt p N then e.setK p (some v) fun e => bindP N ps vs e k else k none) L := h
      cases hb : Nat.blt p N with
      | false => rw [hb] at h; exact (hk (L := L) h).elim
      | true =>
        rw [hb] at h
        have hb : p < N := by rw [← Nat.blt_eq]; exact hb
        simp only [cond_true, Tr.setK_eq] at h
        obtain ⟨e', h1, h2, h3, h4⟩ := bindP_ok hk ps vs us (e.set p (some v)) (tv.setIfInBounds p u) rs (by simpa using hN) (fun t x hx => by
          rw [Tr.get_set] at hx
          rw [getD_set]
          by_cases ht : t = p
          · subst ht
            rw [if_pos rfl] at hx
            injection hx with hx
            subst hx
            rw [if_pos ⟨rfl, by omega⟩]
            exact ⟨hb, r⟩
          · rw [if_neg ht] at hx
            rw [if_neg fun h => ht h.1]
            exact he t x hx) h
        exact ⟨e', h1, by simp [h2], h3, h4⟩
/-- The externs are what is said of them. -/
def XOk (C : Cf) (W : World) : Prop := ∀ f x args H l, C.X.get f = some x → extC f x args H = .ok l → ∀ ρ w (as : List Value), SR W ρ H w → CV.Rs ρ args as → Called C W ρ l f ((callFunc f as.toArray).run C.P w)
theorem callN_ok (hG : GOk C.G W) (hm : C.P.follows .mixedOrders = true) (hX : XOk C W) : ∀ n, CallOk C W (callN C n)
  | 0 => ⟨fun f args H l h => (by cases h), fun h args H l hh => (by cases hh)⟩
  | n + 1 => by
    have ih := callN_ok hG hm hX n
    refine ⟨fun f args H l h ρ w as hS hR => ?_, fun hh args H l h ρ w as b m hb hS hR => ?_⟩
    · have h : (match C.X.get f with
        | some x => extC f x args H
        | none => (match C.P.funcs[f]? with
          | none => .bad f 912
          | some fd => (match fd.body with
            | none => .bad f 913
            | some c => bif Nat.ble (len args) fd.ntmps && !(fd.name == "runtime.NumGoroutine") then envK args 0 .lf fun e => dedup H.next (run ⟨C, callN C n, f, fd.ntmps, none, lvF C f fd.results.toList⟩ 1000000 [.seq c] [] e H) else .bad f 926))) = .ok l := h
      split at h
      · rename_i x hx
        exact hX f x args H l hx h ρ w as hS hR
      · split at h
        · cases h
        · rename_i fd hfd
          split at h
          · cases h
          · rename_i c hbody
            cases hb : (Nat.ble (len args) fd.ntmps && !(fd.name == "runtime.NumGoroutine")) with
            | false => rw [hb] at h; cases h
            | true =>
              rw [hb] at h
              rw [Bool.and_eq_true, Bool.not_eq_true'] at hb
              have hlen := Nat.le_of_ble_eq_true hb.1
              rw [len_eq] at hlen
              simp only [cond_true] at h
              obtain ⟨e, h1, h2⟩ := envK_ok args 0 .lf (fun e => dedup H.next (run ⟨C, callN C n, f, fd.ntmps, none, lvF C f fd.results.toList⟩ 1000000 [.seq c] [] e H))
              rw [h1] at h
              obtain ⟨l0, h3, h4⟩ := dedup_ex h
              refine .inl ⟨f, as.toArray, w, ?_, ?_⟩
              · have hn : fd.body.isNone = false := by rw [hbody]; rfl
                simp only [callFunc, Sem.run_bind, run_program, Result.andThen_ok, hfd, hb.2, hn, Bool.false_eq_true, if_false, Sem.run_pure]
              · have hlas := Rs_len _ _ hR
                have hE : EvS ρ fd.ntmps e [] { tmps := as.toArray ++ Array.replicate (fd.ntmps - as.toArray.size) undef, defers := [] } (fun _ => False) := by
                  refine ⟨by simp; omega, fun t v ht _ => ?_, rfl⟩
                  rw [h2 t] at ht
                  split at ht
                  · rename_i hlt
                    rw [Nat.sub_zero] at ht
                    obtain ⟨u, hu, hvu⟩ := Rs_get _ _ _ _ hR ht
                    have hl2 : t < as.length := (List.getElem?_eq_some_iff.1 hu).1
                    refine ⟨by omega, ?_⟩
                    have : (as.toArray ++ Array.replicate (fd.ntmps - as.toArray.size) undef).getD t undef = u := by
                      rw [Array.getD_eq_getD_getElem?, Array.getElem?_append_left (by simpa using hl2)]
                      simp [hu]
                    rw [this]
                    exact hvu
                  · simp at ht
                have := wp_of_run (X := ⟨C, callN C n, f, fd.ntmps, none, lvF C f fd.results.toList⟩) (rb := none) (L := l0) (Q0 := bodyPostM Fence.wide 0 C.P fd (Got W ρ l0)) ih hG hm (.inl ⟨rfl, rfl⟩) (lvF_ok hG trivial) ⟨l0, h3, fun x hx => hx⟩ (Rho.le.refl _) hS hE
                exact (callsIn_of_wp_marks hfd hbody trivial this).mono (Got.dedup hS.fresh h4)
    · have h : (match H.get hh with
        | some (.loop _ _ f N tmps params asg body _) => bindP N params args tmps fun e => (match e with
          | some e => run ⟨C, callN C n, f, N, some hh, lvA f hh fun e H => run ⟨C, callN C n, f, N, some hh, lvB f hh⟩ 1000000 [.seq body] [] e H⟩ 1000000 [.seq asg] [] e H
          | none => .bad f 927)
        | _ => .bad 0 928) = .ok l := h
      split at h
      · rename_i st pend f N tmps params asg body dh hg
        obtain ⟨fn0, tv0, bd0, md0, q1, q2, q3, q4⟩ := hS.p hg hb
        obtain ⟨e', h1, h2, h3, h4⟩ := bindP_ok (L := l) (ρ := ρ) (N := N) (k := fun e => (match e with
          | some e => run ⟨C, callN C n, f, N, some hh, lvA f hh fun e H => run ⟨C, callN C n, f, N, some hh, lvB f hh⟩ 1000000 [.seq body] [] e H⟩ 1000000 [.seq asg] [] e H
          | none => .bad f 927)) (fun h => h.bad) params args as tmps tv0 hR q3 q4 ⟨l, h, fun x hx => hx⟩
        have hgl := run_getLoop (P := C.P) q2
        refine ⟨fn0, (params.zip as).foldl (fun tmps p => tmps.setIfInBounds p.1 p.2) tv0, asg, body, ?_, ?_⟩
        · have hgl : (Instr.getLoop b).run C.P w = _ := hgl
          have hsz : ¬ (as.toArray.size ≠ params.toArray.size) := by simp [h2]
          simp only [Instr.yield, Sem.run_bind, hgl, Result.andThen_ok, if_neg hsz, Sem.run_pure]
          simp
        · have hE : EvS ρ N e' [] { tmps := (params.zip as).foldl (fun tmps p => tmps.setIfInBounds p.1 p.2) tv0, defers := [] } (fun _ => False) := ⟨h3, fun t v ht _ => h4 t v ht, rfl⟩
          refine roundIn_of_wpIn trivial ?_
          exact wp_of_run (X := ⟨C, callN C n, f, N, some hh, lvA f hh fun e H => run ⟨C, callN C n, f, N, some hh, lvB f hh⟩ 1000000 [.seq body] [] e H⟩) (rb := some b) (L := l) ih hG hm (.inr ⟨hh, b, m, rfl, rfl, hb⟩)
            (lvA_ok (body := body) (R := roundPost C.P b (Got W ρ l)) hb fun e H ρ' a w' hk hle hS' hE' =>
              wp_of_run (X := ⟨C, callN C n, f, N, some hh, lvB f hh⟩) (rb := some b) (L := l) ih hG hm (.inr ⟨hh, b, m, rfl, rfl, hb⟩) (lvB_ok hb) hk hle hS' hE') h1 (Rho.le.refl _) hS hE
      · cases h
end
end Go.Proofs.Yteeifedpabcehaa.Cx

namespace Go.Proofs.Yteeifedpabcehaa.Cx
open Go.RowKit Go.Proofs.Yteeifedpabcehaa.Bm

noncomputable def allT (l : List Fin) : Bool := List.rec (motive := fun _ => Bool) true (fun x _ r => match x with
  | .ret (.bool true) _ => r
  | _ => false) l
/-- Every answer is 'true'. -/
noncomputable def goodA (a : Ans) : Bool := match a with
  | .ok l => allT l
  | _ => false
theorem allT_cons (y : Fin) (ys : List Fin) : allT (y :: ys) = match y with
  | .ret (.bool true) _ => allT ys
  | _ => false := rfl
theorem allT_spec : ∀ {l : List Fin}, allT l = true → ∀ x ∈ l, ∃ H, x = .ret (.bool true) H
  | [], _, x, hx => by cases hx
  | y :: ys, h, x, hx => by
    rw [allT_cons] at h
    split at h
    · rename_i H
      rcases List.mem_cons.1 hx with rfl | hx
      · exact ⟨H, rfl⟩
      · exact allT_spec h x hx
    · cases h
theorem SR.start (W : World) : SR W (fun _ => none) ⟨0, .lf⟩ W := by
  have no : ∀ h c, CH.get ⟨0, .lf⟩ h = some c → False := fun h c hc => by
    have : CH.get ⟨0, .lf⟩ h = none := Tr.get_lf _
    rw [this] at hc
    cases hc
  exact ⟨⟨rfl, rfl, rfl, Nat.le_refl _, fun _ _ => rfl⟩, fun h c hc => (no h c hc).elim, fun _ _ => rfl, fun h c p hc => (no h c hc).elim, fun h h' c c' p p' h1 => (no h c h1).elim, fun h p hm q ver left last kk m bm since seen st es clock v h1 => (no _ _ h1).elim⟩
theorem GOk.none (W : World) : GOk .lf W := fun g cs h => by
  rw [Tr.get_lf] at h
  cases h
theorem XOk.none {P : Program} {G : Tr (List CV)} (W : World) : XOk ⟨P, .lf, G⟩ W := fun f x args H l h => by
  have : (Tr.lf : Tr Nat).get f = Option.none := Tr.get_lf f
  rw [this] at h
  cases h
/-- **A law that takes nothing, reckoned.** -/
theorem calls_of_run {C : Cf} {W : World} (hG : GOk C.G W) (hm : C.P.follows .mixedOrders = true) (hX : XOk C W) {f : Nat} {fd : Func} (hf : C.P.funcs[f]? = some fd) (hn : (fd.name == "runtime.NumGoroutine") = false) (hb : fd.body.isNone = false) (hx : C.X.get f = Option.none) (h : goodA (mainC C f) = true) :
    Calls C.P f #[] W fun e W' => e = .returned (.bool true) ∧ Below W.heap.size W W' := by
  unfold goodA at h
  split at h
  · rename_i l hl
    have hc := (callN_ok hG hm hX 1000).fn f [] ⟨0, .lf⟩ l hl (fun _ => Option.none) W [] (SR.start W) (by simp only [CV.Rs])
    have hcf : (callFunc f #[]).run C.P W = .ok (.enter f #[]) W := by
      simp only [callFunc, Sem.run_bind, run_program, Result.andThen_ok, hf, hn, hb, Bool.false_eq_true, if_false, Sem.run_pure]
    rcases hc with ⟨f', as, w0, e1, e2⟩ | ⟨h1, _⟩
    · have e1 : (callFunc f #[]).run C.P W = .ok (.enter f' as) w0 := e1
      rw [hcf] at e1
      injection e1 with e1 e3
      injection e1 with e4 e5
      subst e3 e4 e5
      refine (callsIn_wide.1 e2).mono fun en w' hg => ?_
      cases en with
      | returned u =>
        obtain ⟨v, H', ρ', g1, g2, g3, g4⟩ := hg
        obtain ⟨H2, e6⟩ := allT_spec h _ g1
        injection e6 with e6 e7
        subst e6
        simp only [CV.R] at g4
        subst g4
        exact ⟨rfl, g3.base.os, g3.base.tape, g3.base.output, g3.base.size, g3.base.block⟩
      | panicked ch =>
        obtain ⟨u, v, H', ρ', _, g1, _⟩ := hg
        obtain ⟨H2, e6⟩ := allT_spec h _ g1
        cases e6
      | outgrown => exact hg.elim
    · exact absurd hx h1
  · cases h
end Go.Proofs.Yteeifedpabcehaa.Cx

namespace Go.Proofs.Yteeifedpabcehaa.Cx
open Go.RowKit Go.Proofs.Yteeifedpabcehaa.Bm

def IsExt (P : Program) (f : Nat) (e : Array Value → Sem Value) : Prop := ∃ fn, P.funcs[f]? = some fn ∧ (fn.name == "runtime.NumGoroutine") = false ∧ fn.body.isNone = true ∧ Extern.findNext fn = none ∧ Extern.find fn = some e
theorem cmpN_eq : ∀ {a b : List Nat}, (∀ c ∈ a, c < 256) → (∀ c ∈ b, c < 256) → cmpN a b = Lib.compareBytes (u8s a) (u8s b)
  | [], [], _, _ => by simp [cmpN, lless, lbeq, u8s, Lib.compareBytes]
  | [], _ :: _, _, _ => by simp [cmpN, lless, u8s, Lib.compareBytes]
  | _ :: _, [], _, _ => by simp [cmpN, lless, lbeq, u8s, Lib.compareBytes]
  | x :: xs, y :: ys, ha, hb => by
    have hx := ha x (by simp)
    have hy := hb y (by simp)
    have ih := cmpN_eq (a := xs) (b := ys) (fun c hc => ha c (by simp [hc])) (fun c hc => hb c (by simp [hc]))
    have e1 : lless (x :: xs) (y :: ys) = (bif Nat.beq x y then lless xs ys else Nat.blt x y) := rfl
    have e2 : lbeq (x :: xs) (y :: ys) = (bif Nat.beq x y then lbeq xs ys else false) := rfl
    have lt : ∀ {p q : Nat}, p < 256 → q < 256 → (UInt8.ofNat p < UInt8.ofNat q ↔ p < q) := fun hp hq => by
      rw [UInt8.lt_iff_toNat_lt, UInt8.toNat_ofNat', UInt8.toNat_ofNat', Nat.mod_eq_of_lt hp, Nat.mod_eq_of_lt hq]
    have e3 : Lib.compareBytes (u8s (x :: xs)) (u8s (y :: ys)) = if x < y then -1 else if y < x then 1 else Lib.compareBytes (u8s xs) (u8s ys) := by
      show (if UInt8.ofNat x < UInt8.ofNat y then (-1 : Int) else if UInt8.ofNat y < UInt8.ofNat x then 1 else Lib.compareBytes (u8s xs) (u8s ys)) = _
      simp only [lt hx hy, lt hy hx]
    rw [e3]
    unfold cmpN
    rw [e1, e2]
    cases hb : Nat.beq x y with
    | true =>
      have := Nat.eq_of_beq_eq_true hb
      subst this
      rw [if_neg (Nat.lt_irrefl x), if_neg (Nat.lt_irrefl x), ← ih]
      rfl
    | false =>
      have hne : x ≠ y := fun e => by subst e; simp at hb
      simp only [cond_false]
      cases hl : Nat.blt x y with
      | true =>
        have : x < y := by rw [← Nat.blt_eq]; exact hl
        rw [if_pos this]
        rfl
      | false =>
        have h1 : ¬ x < y := fun h => by rw [← Nat.blt_eq] at h; rw [h] at hl; cases hl
        rw [if_neg h1, if_pos (by omega)]
        rfl
theorem XOk.of {C : Cf} {W : World} (h : ∀ f x, C.X.get f = some x → (x = 0 ∧ IsExt C.P f Extern.MapsClone.clone) ∨ (x = 1 ∧ IsExt C.P f Extern.BytealgCompare.compare)) : XOk C W := by
  intro f x args H l hx hl ρ w as hS hR
  have hne : C.X.get f ≠ Option.none := by rw [hx]; simp
  have run : ∀ e, IsExt C.P f e → ∀ u w', (e as.toArray).run C.P w = .ok u w' → (callFunc f as.toArray).run C.P w = .ok (.value u) w' := by
    rintro e ⟨fn, h1, h2, h3, h4, h5⟩ u w' hr
    rw [run_callFunc_extern h1 h2 h3 h4 h5, hr]
    rfl
  unfold extC at hl
  split at hl
  · rename_i t hh
    rcases h f _ hx with ⟨_, he⟩ | ⟨h0, _⟩
    · split at hl
      · rename_i kk ver m hg
        rw [Cmd.appK_eq] at hl
        injection hl with hl
        subst hl
        simp only [CV.Rs, CV.R] at hR
        obtain ⟨u, us, rfl, ⟨z, rfl, b, q, g1, rfl⟩, rfl⟩ := hR
        obtain ⟨es, clock, g2, g3, g4⟩ := hS.p hg g1
        have hobj := run_getObj (P := C.P) g2 (fun _ _ _ => by simp)
        have hobj : (getObj b).run C.P w = .ok (.map es clock) w := hobj
        have hle := Rho.le_ext (p := (w.heap.size, 0)) (hS.fresh H.next (Nat.le_refl _))
        refine .inr ⟨hne, .iface t (.map (some w.heap.size)), w.alloc (.map es clock), run _ he _ _ ?_, .ifc t (.mp H.next), _, ρ.ext H.next (w.heap.size, 0), List.mem_singleton.2 rfl, hle, hS.fresh1 (hS.push _) (by simp) (fun _ _ _ _ h => by cases h) ⟨es, clock, alloc_new _ _, g3.mono (CV.R_mono hle), g4⟩, ?_⟩
        · show (Extern.MapsClone.clone #[.iface t (.map (some b))]).run C.P w = _
          have e : Extern.MapsClone.clone #[.iface t (.map (some b))] = (getObj b >>= fun o => match o with
              | .map entries clock => (newObj (.map entries clock) >>= fun n => pure (.iface t (.map (some n))))
              | _ => stuck "maps.clone: a map expected") := rfl
          rw [e]
          simp [hobj]
        · simp only [CV.R]
          exact ⟨_, rfl, _, _, Rho.ext_same .., rfl⟩
      · cases hl
    · cases h0
  · rename_i a b
    rcases h f _ hx with ⟨h0, _⟩ | ⟨_, he⟩
    · cases h0
    · rw [CV.fK_eq] at hl
      injection hl with hl
      subst hl
      simp only [CV.Rs, CV.R] at hR
      obtain ⟨u, us, rfl, ⟨h1, rfl⟩, u2, us2, rfl, ⟨h2, rfl⟩, rfl⟩ := hR
      refine .inr ⟨hne, .int .i64 (cmpN a b), w, run _ he _ _ ?_, .int .i64 (cmpN a b), H, ρ, List.mem_singleton.2 rfl, Rho.le.refl _, hS, R_int ..⟩
      show (Extern.BytealgCompare.compare #[.string ⟨(u8s a).toArray⟩, .string ⟨(u8s b).toArray⟩]).run C.P w = _
      rw [Lib.run_compareString, cmpN_eq h1 h2]
  · rcases h f _ hx with ⟨h0, _⟩ | ⟨h0, _⟩ <;> cases h0
  · cases hl
end Go.Proofs.Yteeifedpabcehaa.Cx
