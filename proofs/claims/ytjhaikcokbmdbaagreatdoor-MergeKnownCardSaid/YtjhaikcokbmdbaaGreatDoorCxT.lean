/-
  Closed runs: an operation of a region; calls.
-/
import Derived.Test.YtjhaikcokbmdbaaGreatDoorCxS
namespace Go.Proofs.YtjhaikcokbmdbaaGreatDoor.Cx
open Go.RowKit Go.Proofs.YtjhaikcokbmdbaaGreatDoor.Ax

/-- How a call ends. -/
def Got (W : World) (ρ : Rho) (l : List Fin) : Ending → World → Prop
  | .returned u, w' => ∃ v H' ρ', Fin.ret v H' ∈ l ∧ Rho.le ρ ρ' ∧ SR W ρ' H' w' ∧ v.R ρ' u
  | .panicked ch, w' => ∃ u v H' ρ', ch = [{ v := u, recovered := false }] ∧ Fin.pan v H' ∈ l ∧ Rho.le ρ ρ' ∧ SR W ρ' H' w' ∧ v.R ρ' u
  | .outgrown, _ => False
def FE (rb : Option Nat) : Fence := { Fence.wide with round := rb }
theorem calls_FE {rb : Option Nat} {P : Program} {f : Nat} {as : Array Value} {w : World} {R : Ending → World → Prop} (h : CallsIn Fence.wide 0 P f as w R) : CallsIn (FE rb) 0 P f as w R := by
  cases rb with
  | none => exact h
  | some l => exact h.inRound l
theorem round_FE {rb : Option Nat} {P : Program} {l f : Nat} {tmps : Array Value} {asg body : Code} {w : World} {R : Ending → World → Prop} (h : RoundIn Fence.wide 0 P l f tmps asg body w R) : RoundIn (FE rb) 0 P l f tmps asg body w R := by
  cases rb with
  | none => exact h
  | some b => exact h
def Called (C : Cf) (W : World) (ρ : Rho) (l : List Fin) (f : Nat) (r : Result Next) : Prop :=
  (∃ f as w0, r = .ok (.enter f as) w0 ∧ CallsIn Fence.wide 0 C.P f as w0 (Got W ρ l)) ∨ C.X.get f ≠ none ∧ ∃ u w', r = .ok (.value u) w' ∧ Got W ρ l (.returned u) w'
structure CallOk (C : Cf) (W : World) (call : CallT) : Prop where
  fn : ∀ f args H l, call (.fn f) args H = .ok l → ∀ ρ w (as : List Value), SR W ρ H w → CV.Rs ρ args as → Called C W ρ l f ((callFunc f as.toArray).run C.P w)
  rnd : ∀ h args H l, call (.rnd h) args H = .ok l → ∀ ρ w (as : List Value) b m, ρ h = some (b, m) → SR W ρ H w → CV.Rs ρ args as →
    ∃ f tmps asg body, (Instr.yield b as.toArray).run C.P w = .ok (.round b f tmps asg body) w ∧ RoundIn Fence.wide 0 C.P b f tmps asg body w (Got W ρ l)
  dfd : ∀ f args H l, call (.dfd f) args H = .ok l → ∀ ρ w (as : List Value), SR W ρ H w → CV.Rs ρ args as →
    (callFunc f as.toArray).run C.P w = .ok (.enter f as.toArray) w ∧ CallsDIn Fence.wide 0 C.P f as.toArray .returning w (fun e u' w' => u' = .returning ∧ Got W ρ l e w')
/-- A panic that leaves the function. -/
def PanOk (X : Cx) (W : World) (L : List Fin) (ρ : Rho) (Q : Exit → Act → World → Prop) : Prop :=
  ∀ ρ' v u H w' (a : Act), X.rd = none → Fin.pan v H ∈ L → Rho.le ρ ρ' → SR W ρ' H w' → v.R ρ' u → a.defers = [] → Q (.panic [{ v := u, recovered := false }]) a w'
theorem PanOk.mono {X : Cx} {W : World} {L : List Fin} {ρ ρ' : Rho} {Q : Exit → Act → World → Prop} (h : PanOk X W L ρ Q) (hle : Rho.le ρ ρ') : PanOk X W L ρ' Q :=
  fun r v u H w' a h0 h1 h2 => h r v u H w' a h0 h1 (hle.trans h2)
theorem panF_ok {X : Cx} {ds : Ds} {v : CV} {H : CH} {L : List Fin} (h : OkIn (panF X ds v H) L) : X.rd = none ∧ ds = [] ∧ Fin.pan v H ∈ L := by
  unfold panF at h
  split at h
  · rename_i h1
    obtain ⟨l, e, hl⟩ := h
    injection e with e
    subst e
    exact ⟨h1, rfl, hl _ (List.mem_singleton.2 rfl)⟩
  · exact h.bad.elim
section
variable {X : Cx} {rb : Option Nat} {L : List Fin} {W w : World} {ρ : Rho} {H : CH} {e : Tr CV} {ds : Ds} {K : KT} {next : Act → World → Prop} {Q : Exit → Act → World → Prop} {a : Act}
theorem useO_ok (hC : CallOk X.C W X.call) (hS : SR W ρ H w) {out : Out} (o : Oper) (hout : out.ok X.C.P W ρ H w (execOp a.eval o)) (hm : MarksR ρ ds a.defers) (h : OkIn (useO out o.dst X ds e H K) L)
    (hn : ∀ v H' ρ' u w', OkIn (K (putd X.N e o.dst v) H') L → Rho.le ρ ρ' → SR W ρ' H' w' → v.R ρ' u → next (a.put o.dst u) w') (hp : PanOk X W L ρ Q) : o.uponIn (FE rb) 0 X.C.P a next Q ((execOp a.eval o).run X.C.P w) := by
  have did : ∀ (v : CV) (c : Cmd) (u : Value) (w' : World) (ρ' : Rho), OkIn (K (putd X.N e o.dst v) (c.app H)) L → Did X.C.P (execOp a.eval o) w u w' → Rho.le ρ ρ' → SR W ρ' (c.app H) w' → v.R ρ' u → o.uponIn (FE rb) 0 X.C.P a next Q ((execOp a.eval o).run X.C.P w) := by
    intro v c u w' ρ' hk hd hle hS' hv
    have := hn v _ ρ' u w' hk hle hS' hv
    rcases hd with hd | ⟨hd, rfl⟩
    · rw [hd]; exact this
    · rw [hd]; exact this
  have pan : ∀ (v : CV) (u : Value) (H' : CH) (ρ' : Rho) (w' : World), OkIn (panF X ds v H') L → Rho.le ρ ρ' → SR W ρ' H' w' → v.R ρ' u → Q (.panic [{ v := u, recovered := false }]) a w' := by
    intro v u H' ρ' w' hk hle hS' hv
    obtain ⟨h1, rfl, h2⟩ := panF_ok hk
    exact hp ρ' v u H' w' a h1 h2 hle hS' hv hm
  cases out with
  | no y => exact (OkIn.bad h).elim
  | old v c =>
    have h : OkIn (c.appK H fun H => putK X.N e o.dst v fun e => K e H) L := h
    rw [Cmd.appK_eq, putK_eq] at h
    obtain ⟨u, w', ρ', h1, h2, h3, h4⟩ := hout
    exact did v c u w' ρ' h h1 h2 h3 h4
  | new v c =>
    have h : OkIn (v.fK fun v => c.appK H fun H => putK X.N e o.dst v fun e => K e H) L := h
    rw [CV.fK_eq, Cmd.appK_eq, putK_eq] at h
    obtain ⟨u, w', ρ', h1, h2, h3, h4⟩ := hout
    exact did v c u w' ρ' h h1 h2 h3 h4
  | many l =>
    obtain ⟨v, c, h0, u, w', ρ', h1, h2, h3, h4⟩ := hout
    have h := OkIn.each (fun p : CV × Cmd => p.1.fK fun v => p.2.appK H fun H => putK X.N e o.dst v fun e => K e H) h _ h0
    simp only [CV.fK_eq, Cmd.appK_eq, putK_eq] at h
    exact did v c u w' ρ' h h1 h2 h3 h4
  | call f args =>
    have h : OkIn (bindF (X.call (.fn f) args H) (fun v H => putK X.N e o.dst v fun e => K e H) (panF X ds)) L := h
    obtain ⟨l, hl, k1, k2⟩ := h.bind
    obtain ⟨as, hr, hR⟩ := hout
    rw [hr]
    rcases hC.fn f args H l hl ρ w as hS hR with ⟨f', as', w0, e1, e2⟩ | ⟨_, u, w', e1, v, H', ρ', e2, e3, e4, e5⟩
    · rw [e1, Oper.uponIn_enter]
      refine ⟨fun h => (by cases h), (calls_FE e2).mono fun en w' hg => ?_⟩
      cases en with
      | returned u =>
        obtain ⟨v, H', ρ', g1, g2, g3, g4⟩ := hg
        have := k1 v H' g1
        rw [putK_eq] at this
        exact hn v H' ρ' u w' this g2 g3 g4
      | panicked ch =>
        obtain ⟨u, v, H', ρ', rfl, g1, g2, g3, g4⟩ := hg
        exact pan v u H' ρ' w' (k2 v H' g1) g2 g3 g4
      | outgrown => exact hg.elim
    · rw [e1, Oper.uponIn_value]
      have := k1 v H' e2
      rw [putK_eq] at this
      exact hn v H' ρ' u w' this e3 e4 e5
  | rnd hh args =>
    have h : OkIn (bindF (X.call (.rnd hh) args H) (fun v H => putK X.N e o.dst v fun e => K e H) (panF X ds)) L := h
    obtain ⟨l, hl, k1, k2⟩ := h.bind
    obtain ⟨b, m, as, hb, hr, hR⟩ := hout
    obtain ⟨f, tmps, asg, body, e1, e2⟩ := hC.rnd hh args H l hl ρ w as b m hb hS hR
    rw [hr, e1, Oper.uponIn_round]
    refine ⟨fun h => (by cases h), (round_FE e2).mono fun en w' hg => ?_⟩
    cases en with
    | returned u =>
      obtain ⟨v, H', ρ', g1, g2, g3, g4⟩ := hg
      have := k1 v H' g1
      rw [putK_eq] at this
      exact hn v H' ρ' u w' this g2 g3 g4
    | panicked ch =>
      obtain ⟨u, v, H', ρ', rfl, g1, g2, g3, g4⟩ := hg
      exact pan v u H' ρ' w' (k2 v H' g1) g2 g3 g4
    | outgrown => exact hg.elim
  | pan v =>
    have h : OkIn (panF X ds v H) L := h
    obtain ⟨u, e1, hv⟩ := hout
    rw [e1, Oper.uponIn_panic]
    exact pan v u H ρ w h (Rho.le.refl _) hS hv
theorem tmpsL_cons (y : Operand) (ys : List Operand) : tmpsL (y :: ys) = match y with
  | .tmp t => t :: tmpsL ys
  | _ => tmpsL ys := rfl
theorem looks_ops {ops : Array Oper} {o : Oper} {x : Operand} (hx : x ∈ o.op.operands.toList) {t : Nat} (ht : x = .tmp t) : t ∈ looksL ops.toList o := by
  unfold looksL
  rw [catL_eq]
  refine List.mem_append_right _ ?_
  subst ht
  generalize o.op.operands.toList = l at hx
  induction l with
  | nil => cases hx
  | cons y ys ih =>
    rw [tmpsL_cons]
    rcases List.mem_cons.1 hx with rfl | hx
    · exact List.mem_cons_self ..
    · have := ih hx
      split
      · exact List.mem_cons_of_mem _ this
      · exact this
theorem looks_guard {ops : Array Oper} {o : Oper} {j : Nat} {want : Bool} (hg : o.guard = some (j, want)) {oj : Oper} (hj : ops[j]? = some oj) {t : Nat} (ht : oj.dst = some t) : t ∈ looksL ops.toList o := by
  unfold looksL
  rw [catL_eq]
  refine List.mem_append_left _ ?_
  rw [hg]
  simp only [nth_eq, Array.getElem?_toList, hj, dstL, ht]
  exact List.mem_singleton.2 rfl
/-- A guard's word. -/
inductive Wants (ops : Array Oper) (o : Oper) (e : Tr CV) : Bool → Prop where
  | free (h : o.guard = none) : Wants ops o e true
  | yes {j : Nat} {want b : Bool} (h : o.guard = some (j, want)) (hv : wantV ops.toList j e = .bool b) : Wants ops o e (wBool b want)
  | undef {j : Nat} {want : Bool} (h : o.guard = some (j, want)) (hv : wantV ops.toList j e = .tup []) : Wants ops o e false
theorem Wants.ok {S : Nat → Prop} {N : Nat} {ops : Array Oper} {o : Oper} {b : Bool} (h : Wants ops o e b) (hE : EvS ρ N e ds a S) (hl : ∀ t ∈ looksL ops.toList o, ¬ S t) : Region.wanted o (yielded ops a.tmps) = b := by
  have look : ∀ {j : Nat} {want : Bool}, o.guard = some (j, want) → (wantV ops.toList j e = .tup [] ∧ ((ops[j]?).bind (·.dst)) = none) ∨ ∃ t, (ops[j]?).bind (·.dst) = some t ∧ wantV ops.toList j e = dTmp t e ∧ ¬ S t := by
    intro j want hg
    unfold wantV
    rw [nth_eq]
    simp only [Array.getElem?_toList]
    cases hj : ops[j]? with
    | none => exact .inl ⟨rfl, rfl⟩
    | some oj =>
      simp only [Option.bind_some]
      cases hd : oj.dst with
      | none => exact .inl ⟨rfl, rfl⟩
      | some t => exact .inr ⟨t, rfl, rfl, hl t (looks_guard hg hj hd)⟩
  have slot : ∀ t v, dTmp t e = v → v ≠ .junk → ¬ S t → ∃ u, a.tmps[t]? = some u ∧ v.R ρ u := by
    intro t v hv hne hs
    have hv : opd e (.tmp t) = v := hv
    rw [opd_tmp] at hv
    cases hx : e.get t with
    | none => rw [hx] at hv; exact absurd hv.symm hne
    | some x =>
      rw [hx] at hv
      simp only [Option.getD_some] at hv
      subst hv
      obtain ⟨h1, h2⟩ := hE.slot t x hx hs
      have hlt : t < a.tmps.size := by rw [hE.size]; exact h1
      exact ⟨a.tmps[t], Array.getElem?_eq_getElem hlt, by simpa [Array.getD_eq_getD_getElem?, hlt] using h2⟩
  cases h with
  | free h => simp [Region.wanted, h]
  | @yes j want b hg hv =>
    rcases look hg with ⟨h1, _⟩ | ⟨t, h1, h2, h3⟩
    · rw [h1] at hv; cases hv
    · rw [h2] at hv
      obtain ⟨u, g1, g2⟩ := slot t _ hv (by simp) h3
      simp only [CV.R] at g2
      subst g2
      have : yielded ops a.tmps j = some b := by simp [yielded, h1, g1]
      cases b <;> cases want <;> simp [Region.wanted, hg, this, wBool]
  | @undef j want hg hv =>
    have : yielded ops a.tmps j = none := by
      rcases look hg with ⟨_, h1⟩ | ⟨t, h1, h2, h3⟩
      · simp [yielded, h1]
      · rw [h2] at hv
        obtain ⟨u, g1, g2⟩ := slot t _ hv (by simp) h3
        simp only [CV.R, CV.Rs] at g2
        obtain ⟨vs, rfl, _⟩ := g2
        simp [yielded, h1, g1]
    simp [Region.wanted, hg, this]
theorem stepO_ok {S : Nat → Prop} {ops : Array Oper} (hC : CallOk X.C W X.call) (hG : GOk X.C.G W) (hS : SR W ρ H w) (hE : EvS ρ X.N e ds a S) (o : Oper) (hl : ∀ t ∈ looksL ops.toList o, ¬ S t) (h : OkIn (stepO X ds ops o e H K) L)
    (hn : ∀ v H' ρ' u w', OkIn (K (putd X.N e o.dst v) H') L → Rho.le ρ ρ' → SR W ρ' H' w' → v.R ρ' u → next (a.put o.dst u) w') (hp : PanOk X W L ρ Q) :
    if Region.wanted o (yielded ops a.tmps) then o.wpIn (FE rb) 0 X.C.P a w next Q else (∀ f, o.about X.C.P w a.eval = some f → (FE rb).fn f) ∧ next (a.put o.dst undef) w := by
  have main : OkIn (doO X ds o e H K) L → o.wpIn (FE rb) 0 X.C.P a w next Q := by
    intro h
    unfold doO at h
    rw [← opC_congr X.C H (g := mop S e) o.op fun x hx => mop_eq fun t ht => hl t (looks_ops hx ht)] at h
    refine ⟨fun _ _ => trivial, ?_⟩
    rw [Oper.semAt_eq]
    · exact useO_ok hC hS o (opC_ok hG hS (mop_ok hE) (fun _ => rfl) o) hE.marks h hn hp
    · intro c hc
      rw [hc] at h
      exact OkIn.bad h
  have skip : OkIn (putK X.N e o.dst (.tup []) fun e => K e H) L → next (a.put o.dst undef) w := fun h => by
    rw [putK_eq] at h
    exact hn _ H ρ undef w h (Rho.le.refl _) hS R_unit
  unfold stepO at h
  cases hg : o.guard with
  | none =>
    rw [hg] at h
    rw [(Wants.free (e := e) hg).ok hE hl, if_pos rfl]
    exact main h
  | some g =>
    obtain ⟨j, want⟩ := g
    rw [hg] at h
    have h : OkIn (gPick X.fid (wantV ops.toList j e) want (doO X ds o e H K) (putK X.N e o.dst (.tup []) fun e => K e H)) L := h
    unfold gPick at h
    split at h
    · rename_i b hv
      rw [(Wants.yes hg hv).ok hE hl]
      cases hb : wBool b want with
      | true => rw [hb] at h; rw [if_pos rfl]; exact main h
      | false => rw [hb] at h; rw [if_neg (by simp)]; exact ⟨fun _ _ => trivial, skip h⟩
    · rename_i hv
      rw [(Wants.undef hg hv).ok hE hl, if_neg (by simp)]
      exact ⟨fun _ _ => trivial, skip h⟩
    · exact h.bad.elim
theorem listR_ok {ops : Array Oper} (hC : CallOk X.C W X.call) (hG : GOk X.C.G W) : ∀ (n s : Nat) (ρ : Rho) (H : CH) (w : World) (e : Tr CV) (a : Act), s + n = ops.size → SR W ρ H w → EvS ρ X.N e ds a (fun _ => False) → OkIn (listR X ds ops (ops.toList.drop s) e H K) L →
    (∀ ρ' e' H' a' w', Rho.le ρ ρ' → SR W ρ' H' w' → EvS ρ' X.N e' ds a' (fun _ => False) → OkIn (K e' H') L → Q .normal a' w') → PanOk X W L ρ Q → wpOpsIn (FE rb) 0 X.C.P ops Q (List.range' s n) a w := by
  intro n
  induction n with
  | zero =>
    intro s ρ H w e a hs hS hE h hk hp
    rw [List.drop_eq_nil_of_le (by simp; omega)] at h
    exact hk ρ e H a w (Rho.le.refl _) hS hE h
  | succ n ih =>
    intro s ρ H w e a hs hS hE h hk hp
    rw [List.range'_succ]
    have hlt : s < ops.size := by omega
    have hd : ops.toList.drop s = ops[s] :: ops.toList.drop (s + 1) := by
      rw [List.drop_eq_getElem_cons (by simpa using hlt)]
      simp
    rw [hd] at h
    have h : OkIn (stepO X ds ops ops[s] e H fun e H => listR X ds ops (ops.toList.drop (s + 1)) e H K) L := h
    simp only [wpOpsIn, Array.getElem?_eq_getElem hlt]
    exact stepO_ok hC hG hS hE ops[s] (fun _ _ h => h) h (fun v H' ρ' u w' hk' hle hS' hv => ih (s + 1) ρ' H' w' _ _ (by omega) hS' (hE.put hle _ hv) hk' (fun r e' H'' a' w'' g1 g2 g3 g4 => hk r e' H'' a' w'' (hle.trans g1) g2 g3 g4) (hp.mono hle)) hp
end
end Go.Proofs.YtjhaikcokbmdbaaGreatDoor.Cx
