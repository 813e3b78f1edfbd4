/-
  Closed runs: ranges over functions.
-/
import Derived.Test.YtjhaikcokbmdbaaGreatDoorCxW
namespace Go.Proofs.YtjhaikcokbmdbaaGreatDoor.Cx
open Go.RowKit Go.Proofs.YtjhaikcokbmdbaaGreatDoor.Ax

section
variable {X : Cx} {rb : Option Nat} {L : List Fin} {W : World} {Q : Exit → Act → World → Prop}
def RdOk (X : Cx) (rb : Option Nat) (ρ : Rho) : Prop := (X.rd = none ∧ rb = none) ∨ ∃ l b m, X.rd = some l ∧ rb = some b ∧ ρ l = some (b, m)
theorem RdOk.mono {ρ ρ' : Rho} (h : RdOk X rb ρ) (hle : Rho.le ρ ρ') : RdOk X rb ρ' := h.imp id fun ⟨l, b, m, h1, h2, h3⟩ => ⟨l, b, m, h1, h2, hle _ _ h3⟩
theorem opd_ok {ρ : Rho} {N : Nat} {e : Tr CV} {ds : Ds} {a : Act} (hE : EvS ρ N e ds a (fun _ => False)) (x : Operand) : (opd e x).R ρ (a.eval x) := by
  rw [← mop_eq (S := fun _ => False) (fun _ _ h => h)]
  exact mop_ok hE x
theorem callC_res {C : Cf} {ρ : Rho} {f : CV} {args : List CV} {fv : Value} {as : List Value} {f' : Nat} {args' : List CV} (hf : f.R ρ fv) (ha : CV.Rs ρ args as) (h : callC C f args = .call f' args') :
    ∃ d : Deferred, Deferred.ofValue fv as.toArray = pure d ∧ ∃ as' : List Value, invoke d.target d.args = callFunc f' as'.toArray ∧ CV.Rs ρ args' as' := by
  unfold callC at h
  split at h
  · rename_i g
    injection h with h1 h2
    subst h1 h2
    simp only [CV.R] at hf
    subst hf
    exact ⟨_, rfl, as, by simp [invoke], ha⟩
  · rename_i g x y
    injection h with h1 h2
    subst h1 h2
    simp only [CV.R] at hf
    obtain ⟨xs, ys, rfl, r1, r2⟩ := hf
    exact ⟨_, rfl, xs ++ (as ++ ys), by simp [invoke], by rw [catL_eq, catL_eq]; exact Rs_append r1 (Rs_append ha r2)⟩
  · cases h
  · cases h
theorem run_getLoop {P : Program} {w : World} {b : Nat} {r : Loop} (h : w.heap[b]? = some (.loop r)) : (Instr.getLoop b).run P w = .ok r w := by
  have := run_getObj (P := P) h (fun _ _ _ => by simp)
  simp [Instr.getLoop, this]
/-- A record of a loop that is written. -/
theorem SR.loop {ρ : Rho} {H : CH} {w : World} (hS : SR W ρ H w) {l b m : Nat} {st st' : LoopState} {pend pend' : Option Code} {fid N : Nat} {tmps : Tr CV} {params : List Nat} {asg body : Code} {dh : Nat} {fn bd : Nat} {tv : Array Value}
    (hg : H.get l = some (.loop st pend fid N tmps params asg body dh)) (hl : ρ l = some (b, m)) (hw : w.heap[b]? = some (.loop { state := st, pending := pend, fn, tmps := tv, params := params.toArray, assign := asg, body, defers := bd })) :
    (∀ P : Program, (setObj b (.loop { state := st', pending := pend', fn, tmps := tv, params := params.toArray, assign := asg, body, defers := bd })).run P w = .ok () (putObj w b (.loop { state := st', pending := pend', fn, tmps := tv, params := params.toArray, assign := asg, body, defers := bd }))) ∧
    SR W ρ ((Cmd.set l (.loop st' pend' fid N tmps params asg body dh)).app H) (putObj w b (.loop { state := st', pending := pend', fn, tmps := tv, params := params.toArray, assign := asg, body, defers := bd })) := by
  refine ⟨fun P => run_setObj hw (fun _ _ _ => by simp), ?_⟩
  obtain ⟨fn', tv', bd', md', h1, h2, h3, h4⟩ := hS.p hg hl
  have h2' : w.heap[b]? = _ := h2
  rw [hw] at h2'
  injection h2' with h2'
  injection h2' with h2'
  injection h2' with _ _ e1 e2 _ _ _ e3
  subst e1 e2 e3
  exact hS.put hg hl _ ⟨fn, tv, bd, md', h1, putObj_same hw, h3, h4⟩ (fun _ _ _ _ h => by cases h) (fun _ _ _ _ h => by cases h)
theorem rangeG_ok (hC : CallOk X.C W X.call) {ρ : Rho} {H : CH} {w : World} {e : Tr CV} {ds : Ds} {a : Act} {f : Operand} {ps : Array Tmp} {asg body : Code} {k : Option Code → Ds → CH → Ans} {dh bd md : Nat} (mark : List Deferred)
    (hdh : ρ dh = some (bd, md)) (hS : SR W ρ H w) (hE : EvS ρ X.N e ds { a with defers := mark ++ a.defers } (fun _ => False)) (h : OkIn (rangeG X f ps asg body e k dh ds H) L)
    (hk : ∀ pend H' ρ' w', OkIn (k pend ds H') L → Rho.le ρ ρ' → SR W ρ' H' w' → match pend with
      | none => Q .normal { a with defers := mark ++ a.defers } w'
      | some c => c.wpIn (FE rb) 0 X.C.P Q { a with defers := mark ++ a.defers } w') (fn : Nat) {w0 : World}
    (hent : (Instr.enterLoop fn a.tmps ps asg body rb).run X.C.P w0 = .ok (w.heap.size, mark) (w.alloc (.loop { state := .ready, pending := none, fn, tmps := a.tmps, params := ps, assign := asg, body, defers := bd }))) :
    ∃ (l : Nat) (mark : List Deferred) (w₁ : World) (d : Deferred) (w₁' : World) (f' : FuncId) (args : Array Value) (w₂ : World),
      (Instr.enterLoop fn a.tmps ps asg body (FE rb).round).run X.C.P w0 = .ok (l, mark) w₁ ∧
      (resolve a.eval (rangeCall f l) 0).run X.C.P w₁ = .ok d w₁' ∧
      (∀ f', Target.leads X.C.P w₁' d.target d.args = some f' → (FE rb).fn f') ∧
      (invoke d.target d.args).run X.C.P w₁' = .ok (.enter f' args) w₂ ∧
      ((FE rb).depth.isSome = true → 1 ≤ 0) ∧
      CallsIn (FE rb) (0 - 1) X.C.P f' args w₂ (rangePost (FE rb) 0 X.C.P l Q { a with defers := mark ++ a.defers }) := by
  unfold rangeG at h
  rw [Cmd.appK_eq] at h
  have hle := Rho.le_ext (p := (w.heap.size, 0)) (hS.fresh H.next (Nat.le_refl _))
  have hS1 := (hS.push (.loop { state := .ready, pending := none, fn, tmps := a.tmps, params := ps, assign := asg, body, defers := bd }))
  have hS1 : SR W (ρ.ext H.next (w.heap.size, 0)) ((Cmd.add (.loop .ready none X.fid X.N e ps.toList asg body dh)).app H) (w.alloc (.loop { state := .ready, pending := none, fn, tmps := a.tmps, params := ps, assign := asg, body, defers := bd })) :=
    hS.fresh1 hS1 (by simp) (fun _ _ _ _ h => by cases h) ⟨fn, a.tmps, bd, md, hle _ _ hdh, by simpa using alloc_new w _, hE.size, fun t v ht => ⟨(hE.slot t v ht (fun h => h)).1, CV.R_mono hle _ _ (hE.slot t v ht (fun h => h)).2⟩⟩
  have hff : (opd e f).R (ρ.ext H.next (w.heap.size, 0)) (a.eval f) := CV.R_mono hle _ _ (opd_ok hE f)
  have hy : CV.Rs (ρ.ext H.next (w.heap.size, 0)) [.yld H.next] [.func (.yield w.heap.size) #[] #[]] := by
    simp only [CV.Rs, CV.R]
    exact ⟨_, [], rfl, ⟨_, _, Rho.ext_same .., rfl⟩, rfl⟩
  split at h
  · rename_i f' args' hcc
    obtain ⟨d, hd, as', hinv, hR⟩ := callC_res hff hy hcc
    split at h
    · rename_i hX
      obtain ⟨l, hl, k1, k2⟩ := h.bind
      rcases hC.fn f' args' _ l hl _ _ as' hS1 hR with ⟨f2, as2, w2, e1, e2⟩ | ⟨hn, _⟩
      · refine ⟨w.heap.size, mark, _, d, _, f2, as2, w2, hent, ?_, fun _ _ => trivial, by rw [hinv]; exact e1, fun h => (by cases h), (calls_FE e2).mono fun en w3 hg => ?_⟩
        · have he : (rangeCall f w.heap.size).args.map a.eval = #[.func (.yield w.heap.size) #[] #[]] := by simp [Act.eval]
          show (Deferred.ofValue (a.eval f) ((rangeCall f w.heap.size).args.map a.eval)).run X.C.P _ = _
          rw [he]
          have hd' : Deferred.ofValue (a.eval f) #[.func (.yield w.heap.size) #[] #[]] = pure d := hd
          rw [hd']
          rfl
        · cases en with
          | returned u =>
            obtain ⟨v, H', ρ', g1, g2, g3, g4⟩ := hg
            have hK := k1 v H' g1
            have hlp : ρ' H.next = some (w.heap.size, 0) := g2 _ _ (Rho.ext_same ..)
            unfold endL at hK
            split at hK
            · exact (OkIn.bad hK).elim
            · rename_i st pend f0 N0 tm pr as0 bo dh0 hbusy hgl
              simp only [Cmd.appK_eq] at hK
              obtain ⟨fn0, tv0, bd0, md0, q1, q2, q3, q4⟩ := g3.p hgl hlp
              obtain ⟨r1, r2⟩ := g3.loop (st' := .exhausted) (pend' := pend) hgl hlp q2
              have hgl0 := run_getLoop (P := X.C.P) q2
              refine ⟨pend, _, ?_, hk pend _ ρ' _ hK (hle.trans g2) (r2.del _)⟩
              have hst : (st == LoopState.busy) = false := by
                cases st <;> first | rfl | exact (hbusy rfl).elim
              have r1 := r1 X.C.P
              simp only at r1 hgl0
              have hst' : st ≠ .busy := fun e => by subst e; cases hst
              simp [Instr.endLoop, hgl0, hst', r1]
            · exact (OkIn.bad hK).elim
          | panicked ch =>
            obtain ⟨u, v, H', ρ', _, g1, _⟩ := hg
            exact (OkIn.bad (k2 v H' g1)).elim
          | outgrown => exact hg.elim
      · exact absurd hX hn
    · exact (OkIn.bad h).elim
  · exact (OkIn.bad h).elim
/-- **A range over a function.** -/
theorem rangeR_ok (hC : CallOk X.C W X.call) {ρ : Rho} {H : CH} {w : World} {e : Tr CV} {ds : Ds} {a : Act} {f : Operand} {ps : Array Tmp} {asg body : Code} {k : Option Code → Ds → CH → Ans} (hrd : RdOk X rb ρ) (hS : SR W ρ H w) (hE : EvS ρ X.N e ds a (fun _ => False))
    (h : OkIn (rangeR X f ps asg body ds e H k) L)
    (hk : ∀ pend ds' H' ρ' a' w', OkIn (k pend ds' H') L → Rho.le ρ ρ' → SR W ρ' H' w' → EvS ρ' X.N e ds' a' (fun _ => False) → match pend with
      | none => Q .normal a' w'
      | some c => c.wpIn (FE rb) 0 X.C.P Q a' w') : (Code.rangeFunc f ps asg body).wpIn (FE rb) 0 X.C.P Q a w := by
  unfold rangeR at h
  refine wpIn_rangeFunc fun fn _ => ?_
  rcases hrd with ⟨h1, rfl⟩ | ⟨l, b, m, h1, rfl, h3⟩
  · rw [h1] at h
    simp only [Cmd.appK_eq] at h
    have hle := Rho.le_ext (p := (w.heap.size, 0)) (hS.fresh H.next (Nat.le_refl _))
    have hS1 : SR W (ρ.ext H.next (w.heap.size, 0)) ((Cmd.add .dfr).app H) (w.alloc (.deferred (some []))) := hS.fresh1 (hS.push _) (by simp) (fun _ _ _ _ h => by cases h) (alloc_new w _)
    have hE1 : EvS (ρ.ext H.next (w.heap.size, 0)) X.N e (.mark H.next :: ds) { a with defers := [{ target := .collected w.heap.size, args := #[] }] ++ a.defers } (fun _ => False) :=
      ⟨hE.size, fun t v ht hs => ⟨(hE.slot t v ht hs).1, CV.R_mono hle _ _ (hE.slot t v ht hs).2⟩, ⟨_, _, a.defers, Rho.ext_same .., rfl, hE.marks.mono hle⟩⟩
    exact rangeG_ok hC (a := a) [{ target := .collected w.heap.size, args := #[] }] (Rho.ext_same ..) hS1 hE1 h (fun pend H' ρ' w' q1 q2 q3 => hk pend _ H' ρ' _ w' q1 (hle.trans q2) q3 (hE1.mono q2)) fn (by simp [Instr.enterLoop])
  · rw [h1] at h
    simp only at h
    split at h
    · rename_i st0 pend0 f0 N0 tm pr as0 bo dh hgl
      obtain ⟨fn0, tv0, bd0, md0, q1, q2, q3, q4⟩ := hS.p hgl h3
      have hgl0 := run_getLoop (P := X.C.P) q2
      have q2' : (Instr.getLoop b).run X.C.P w = _ := hgl0
      exact rangeG_ok hC (a := a) [] q1 hS hE h (fun pend H' ρ' w' k1 k2 k3 => hk pend _ H' ρ' _ w' k1 k2 k3 (hE.mono k2)) fn (by simp [Instr.enterLoop, q2'])
    · exact (OkIn.bad h).elim
end
end Go.Proofs.YtjhaikcokbmdbaaGreatDoor.Cx
