/-
  Closed runs: regions that draw their order.
-/
import Derived.Test.YtjhaikcokbmdbaaGreatDoorCxU
namespace Go.Proofs.YtjhaikcokbmdbaaGreatDoor.Cx
open Go.RowKit Go.Proofs.YtjhaikcokbmdbaaGreatDoor.Ax

theorem lenC_pure (T : TTr) (H H' : CH) (t : Nat) (x : CV) (h : (match T t with
    | some d => isRd.isMp d
    | none => true) = false) : lenC T H t x = lenC T H' t x := by
  unfold lenC
  cases hT : T t with
  | none => rfl
  | some d =>
    rw [hT] at h
    simp only [isRd.isMp] at h ⊢
    generalize d.k = kk at h ⊢
    cases kk <;> first | (cases h; done) | (cases x <;> first | rfl | (rename_i y; cases y <;> rfl))
theorem opC_pure (C : Cf) (g : Operand → CV) (H H' : CH) (op : Op) (h1 : isEff C.T op = false) (h2 : isRd C.T op = false) : opC C g H op = opC C g H' op := by
  cases op <;> first | rfl | (cases h1; done) | (cases h2; done) | skip
  rename_i c
  obtain ⟨callee, ⟨al⟩, ⟨ts⟩⟩ := c
  cases callee with
  | value f => cases h1
  | invoke r n => cases h1
  | builtin b =>
    cases b <;> first | (cases h1; done) | rfl | skip
    case len =>
      show builtinC C.P C.T g H .len ts al = builtinC C.P C.T g H' .len ts al
      cases ts with
      | nil => cases h2
      | cons t ts =>
        cases al with
        | nil => rfl
        | cons x xs =>
          show lenC C.T H t (g x) = lenC C.T H' t (g x)
          exact lenC_pure C.T H H' t (g x) h2
    all_goals
      rcases ts with _ | ⟨t, ts⟩ <;> rcases al with _ | ⟨x, _ | ⟨y, _ | ⟨z, al⟩⟩⟩ <;> rfl
theorem readS_congr {C : Cf} {ops : Array Oper} {o : Oper} {e e' : Tr CV} {H H' : CH} (h : ∀ t ∈ looksL ops.toList o, e.get t = e'.get t) (hH : H = H' ∨ isEff C.T o.op = false ∧ isRd C.T o.op = false) :
    readS C ops.toList o e H = readS C ops.toList o e' H' := by
  have h1 : opC C (opd e) H o.op = opC C (opd e') H' o.op := by
    rw [opC_congr C H (g := opd e) (g' := opd e') o.op fun x hx => by
      cases x with
      | tmp t => rw [opd_tmp, opd_tmp, h t (looks_ops hx rfl)]
      | _ => rfl]
    rcases hH with rfl | ⟨h1, h2⟩
    · rfl
    · exact opC_pure C _ H H' o.op h1 h2
  unfold readS
  cases hg : o.guard with
  | none => simp only [h1]
  | some g =>
    obtain ⟨j, want⟩ := g
    have h2 : wantV ops.toList j e = wantV ops.toList j e' := by
      unfold wantV
      rw [nth_eq]
      simp only [Array.getElem?_toList]
      cases hj : ops[j]? with
      | none => rfl
      | some oj =>
        simp only
        cases hd : oj.dst with
        | none => rfl
        | some t =>
          have := h t (looks_guard hg hj hd)
          simp only [dTmp, this]
    simp only [h1, h2]
theorem readV_some {o : Out} {v : CV} (h : readV o = some v) : o = .old v .nop ∨ o = .new v .nop := by
  unfold readV at h
  split at h
  · injection h with h; subst h; exact .inl rfl
  · injection h with h; subst h; exact .inr rfl
  · cases h
section
variable {X : Cx} {rb : Option Nat} {L : List Fin} {W : World} {ds : Ds} {K : KT} {next : Act → World → Prop} {Q : Exit → Act → World → Prop}
theorem read_ok {S : Nat → Prop} {ρ : Rho} {H : CH} {w : World} {e : Tr CV} {a : Act} {C : Cf} {N : Nat} {ops : Array Oper} (hG : GOk C.G W) (hS : SR W ρ H w) (hE : EvS ρ N e ds a S) (o : Oper) (hl : ∀ t ∈ looksL ops.toList o, ¬ S t) {v : CV} (h : readS C ops.toList o e H = some v)
    (hn : ∀ ρ' u w', Rho.le ρ ρ' → SR W ρ' H w' → v.R ρ' u → next (a.put o.dst u) w') :
    if Region.wanted o (yielded ops a.tmps) then o.wpIn (FE rb) 0 C.P a w next Q else (∀ f, o.about C.P w a.eval = some f → (FE rb).fn f) ∧ next (a.put o.dst undef) w := by
  have main : readV (opC C (opd e) H o.op) = some v → o.wpIn (FE rb) 0 C.P a w next Q := by
    intro h
    rw [← opC_congr C H (g := mop S e) o.op fun x hx => mop_eq fun t ht => hl t (looks_ops hx ht)] at h
    refine ⟨fun _ _ => trivial, ?_⟩
    have hok := opC_ok (C := C) hG hS (mop_ok hE) (fun _ => rfl) o
    rw [Oper.semAt_eq]
    · have : ∃ u w' ρ', Did C.P (execOp a.eval o) w u w' ∧ Rho.le ρ ρ' ∧ SR W ρ' H w' ∧ v.R ρ' u := by
        rcases readV_some h with h | h
        · rw [h] at hok; exact hok
        · rw [h] at hok; exact hok
      obtain ⟨u, w', ρ', hd, h2, h3, h4⟩ := this
      have := hn ρ' u w' h2 h3 h4
      rcases hd with hd | ⟨hd, rfl⟩
      · rw [hd]; exact this
      · rw [hd]; exact this
    · intro c hc
      rw [hc] at h
      cases h
  have skip : v = .tup [] → next (a.put o.dst undef) w := fun h => hn ρ undef w (Rho.le.refl _) hS (by rw [h]; exact R_unit)
  unfold readS at h
  cases hg : o.guard with
  | none =>
    rw [hg] at h
    rw [(Wants.free (e := e) hg).ok hE hl, if_pos rfl]
    exact main h
  | some g =>
    obtain ⟨j, want⟩ := g
    rw [hg] at h
    simp only at h
    split at h
    · rename_i b hv
      rw [(Wants.yes hg hv).ok hE hl]
      cases hb : wBool b want with
      | true => rw [hb] at h; rw [if_pos rfl]; exact main h
      | false => rw [hb] at h; rw [if_neg (by simp)]; injection h with h; exact ⟨fun _ _ => trivial, skip h.symm⟩
    · rename_i hv
      rw [(Wants.undef hg hv).ok hE hl, if_neg (by simp)]
      injection h with h
      exact ⟨fun _ _ => trivial, skip h.symm⟩
    · cases h
/-! Where a region stands: what the model has done, what is done ahead. -/
def Lst (l : Array Bool) (i : Nat) : Prop := l.getD i false = true
def PendOk (ops : Array Oper) (l : Array Bool) : List Nat → Prop
  | [] => True
  | i :: rest => (∀ o, ops[i]? = some o → ∀ ed ∈ o.after, Region.binds .any ed = true → Lst l ed.on ∨ ed.on ∈ rest) ∧ PendOk ops l rest
structure Inv (T : TTr) (ops : Array Oper) (l : Array Bool) (m : Nat) (pend : List Nat) : Prop where
  size : l.size = ops.size
  split : ∀ i, m.testBit i = true ↔ Lst l i ∨ i ∈ pend
  pd : ∀ i ∈ pend, (∃ o, ops[i]? = some o ∧ isE T (ovsL ops.toList) o = false) ∧ ¬ Lst l i
  nodup : pend.Nodup
  order : PendOk ops l pend
  down : ∀ i o, ops[i]? = some o → Lst l i → ∀ ed ∈ o.after, Region.binds .any ed = true → Lst l ed.on
def Sl (ops : Array Oper) (pend : List Nat) (t : Nat) : Prop := ∃ i ∈ pend, ∃ o, ops[i]? = some o ∧ o.dst = some t
def Ahead (C : Cf) (N : Nat) (ops : Array Oper) (e : Tr CV) (H : CH) (i : Nat) : Prop := ∀ o, ops[i]? = some o → ∃ v, readS C ops.toList o e H = some v ∧ ∀ t, o.dst = some t → (t < N ∧ e.get t = some v) ∨ e.get t = none
theorem PendOk.edge {ops : Array Oper} {l : Array Bool} : ∀ {pend : List Nat}, PendOk ops l pend → ∀ i ∈ pend, ∀ o, ops[i]? = some o → ∀ ed ∈ o.after, Region.binds .any ed = true → Lst l ed.on ∨ ed.on ∈ pend
  | [], _, i, hi, _, _, _, _, _ => by cases hi
  | j :: rest, h, i, hi, o, ho, ed, hed, hb => by
    rcases List.mem_cons.1 hi with rfl | hi
    · exact (h.1 o ho ed hed hb).imp id fun h => List.mem_cons_of_mem _ h
    · exact (h.2.edge i hi o ho ed hed hb).imp id fun h => List.mem_cons_of_mem _ h
theorem PendOk.first {ops : Array Oper} {l : Array Bool} : ∀ {pend : List Nat}, PendOk ops l pend → pend ≠ [] → ∃ i ∈ pend, ∀ o, ops[i]? = some o → ∀ ed ∈ o.after, Region.binds .any ed = true → Lst l ed.on
  | [], _, h => absurd rfl h
  | [i], h, _ => ⟨i, List.mem_singleton.2 rfl, fun o ho ed hed hb => (h.1 o ho ed hed hb).resolve_right (by simp)⟩
  | i :: j :: rest, h, _ => let ⟨k, h1, h2⟩ := h.2.first (by simp); ⟨k, List.mem_cons_of_mem _ h1, h2⟩
theorem PendOk.mono {ops : Array Oper} {l l' : Array Bool} (hl : ∀ i, Lst l i → Lst l' i) : ∀ {pend : List Nat}, PendOk ops l pend → PendOk ops l' pend
  | [], _ => trivial
  | _ :: _, h => ⟨fun o ho ed hed hb => (h.1 o ho ed hed hb).imp (hl _) id, h.2.mono hl⟩
theorem PendOk.erase {ops : Array Oper} {l l' : Array Bool} {i : Nat} (hl : ∀ k, Lst l k → Lst l' k) (hi : Lst l' i) : ∀ {pend : List Nat}, PendOk ops l pend → PendOk ops l' (pend.erase i)
  | [], _ => trivial
  | j :: rest, h => by
    rw [List.erase_cons]
    split
    · exact h.2.mono hl
    · refine ⟨fun o ho ed hed hb => ?_, PendOk.erase hl hi h.2⟩
      rcases h.1 o ho ed hed hb with h1 | h1
      · exact .inl (hl _ h1)
      · by_cases e : ed.on = i
        · rw [e]; exact .inl hi
        · exact .inr ((List.mem_erase_of_ne e).2 h1)
theorem lst_set {l : Array Bool} {i j : Nat} : Lst (l.setIfInBounds i true) j ↔ Lst l j ∨ (j = i ∧ i < l.size) := by
  unfold Lst
  simp only [Array.getD_eq_getD_getElem?, Array.getElem?_setIfInBounds]
  by_cases h : i = j
  · subst h
    by_cases h2 : i < l.size <;> simp [h2]
  · have : ¬ (j = i) := fun e => h e.symm
    simp [h, this]
theorem ready_iff {ops : Array Oper} {l : Array Bool} (hs : l.size = ops.size) {j : Nat} : j ∈ Region.ready .any ops l ↔ ¬ Lst l j ∧ ∃ o, ops[j]? = some o ∧ ∀ ed ∈ o.after, Region.binds .any ed = true → Lst l ed.on := by
  rw [mem_ready]
  constructor
  · rintro ⟨h1, o, h2, h3⟩
    refine ⟨fun h => ?_, o, h2, h3⟩
    have hlt : j < l.size := by rw [hs]; exact (Array.getElem?_eq_some_iff.1 h2).1
    unfold Lst at h
    simp [Array.getD_eq_getD_getElem?, hlt] at h h1
    rw [h] at h1
    cases h1
  · rintro ⟨h1, o, h2, h3⟩
    refine ⟨?_, o, h2, h3⟩
    have hlt : j < l.size := by rw [hs]; exact (Array.getElem?_eq_some_iff.1 h2).1
    unfold Lst at h1
    simp [Array.getD_eq_getD_getElem?, hlt] at h1 ⊢
    exact h1
end
end Go.Proofs.YtjhaikcokbmdbaaGreatDoor.Cx
