/-
  Closed runs: a region in any order.
-/
import Derived.Test.YtjhaikcokbmdbaaGreatDoorCxZb
namespace Go.Proofs.YtjhaikcokbmdbaaGreatDoor.Cx
open Go.RowKit Go.Proofs.YtjhaikcokbmdbaaGreatDoor.Ax

section
variable {X : Cx} {rb : Option Nat} {L : List Fin} {W : World} {ds : Ds} {K : KT} {Q : Exit → Act → World → Prop} {ops : Array Oper}
structure Rel (X : Cx) (W : World) (ds : Ds) (ops : Array Oper) (ρ : Rho) (H : CH) (w : World) (e : Tr CV) (a : Act) (pend : List Nat) : Prop where
  sr : SR W ρ H w
  ev : EvS ρ X.N e ds a (Sl ops pend)
  ah : ∀ i ∈ pend, Ahead X.C X.N ops e H i
theorem testBit_add {m i j : Nat} : (m ||| 2 ^ i).testBit j = true ↔ m.testBit j = true ∨ j = i := by
  rw [Nat.testBit_or, Bool.or_eq_true, Nat.testBit_two_pow, decide_eq_true_eq]
  exact or_congr Iff.rfl eq_comm
/-- A panic that stands for one that is among those that may be. -/
inductive CovP (n0 : Nat) (L : List Fin) : CV → CH → Prop where
  | mem {v : CV} {H : CH} (h : Fin.pan v H ∈ L) : CovP n0 L v H
  | ren {s : List Nat} {v v2 : CV} {H H2 : CH} (h : Cut n0 s v v2 H H2) (g : CovP n0 L v2 H2) : CovP n0 L v H
theorem CovP.ok {ρ0 : Rho} {n0 : Nat} (hp : PanOk X W L ρ0 Q) (hf : ∀ j, n0 ≤ j → ρ0 j = none) {v : CV} {H : CH} (h : CovP n0 L v H) : ∀ (ρ' : Rho) (u : Value) (w' : World) (a : Act), X.rd = none → Rho.le ρ0 ρ' → SR W ρ' H w' → v.R ρ' u → a.defers = [] → Q (.panic [{ v := u, recovered := false }]) a w' := by
  induction h with
  | mem h => exact fun ρ' u w' a h0 h2 h3 h4 h5 => hp ρ' _ u _ w' a h0 h h2 h3 h4 h5
  | ren hc _ ih => exact fun ρ' u w' a h0 h2 h3 h4 h5 => ih _ u w' a h0 (ren_le h2 hf) (h3.ren hc) (by rw [hc.val2]; exact R_ren hc.nd hc.hi 8 _ _ hc.val h4) h5
/-- Slots and memory, named anew. -/
def Ren (N n0 : Nat) (e : Tr CV) (H : CH) (e2 : Tr CV) (H2 : CH) : Prop := ∃ T : Rho → Rho, (∀ W ρ w, SR W ρ H w → SR W (T ρ) H2 w) ∧ (∀ ρ0 ρ : Rho, Rho.le ρ0 ρ → (∀ j, n0 ≤ j → ρ0 j = none) → Rho.le ρ0 (T ρ)) ∧
  (∀ (ρ0 ρ : Rho) (ds : Ds) l l', noFn ds = true → (∀ j, n0 ≤ j → ρ0 j = none) → MarksR ρ0 ds l → MarksR ρ ds l' → MarksR (T ρ) ds l') ∧ ∀ t v2, e2.get t = some v2 → t < N ∧ ∀ (ρ : Rho) u, ((e.get t).getD .junk).R ρ u → v2.R (T ρ) u
/-- From here on every order is looked after. -/
inductive Good (X : Cx) (ds : Ds) (ops : Array Oper) (K : KT) (L : List Fin) (n0 : Nat) : Nat → Tr CV → CH → Prop where
  | fin {m : Nat} {e : Tr CV} {H : CH} (h1 : cands X.C.T (ovsL ops.toList) false m ops.toList 0 = []) (h2 : cands X.C.T (ovsL ops.toList) true m ops.toList 0 = []) (h : OkIn (K e H) L) : Good X ds ops K L n0 m e H
  | rd {m i : Nat} {e : Tr CV} {H : CH} {o : Oper} {v : CV} (hc : i ∈ cands X.C.T (ovsL ops.toList) false m ops.toList 0) (ho : ops[i]? = some o) (hv : readS X.C ops.toList o e H = some v) (g : Good X ds ops K L n0 (m ||| 2 ^ i) (putd X.N e o.dst v) H) : Good X ds ops K L n0 m e H
  | ef {m : Nat} {e : Tr CV} {H : CH} (h1 : cands X.C.T (ovsL ops.toList) false m ops.toList 0 = []) (h2 : cands X.C.T (ovsL ops.toList) true m ops.toList 0 ≠ []) (Kx : Nat → KT) (Lx : Nat → List Fin)
      (h : ∀ j ∈ cands X.C.T (ovsL ops.toList) true m ops.toList 0, OkIn (pEf X ds ops j (again X.C.T (ovsL ops.toList) ((nth (masks ops.toList []) j).getD 0) m ops.toList 0) e H (Kx j)) (Lx j)) (hp : ∀ j v H', Fin.pan v H' ∈ Lx j → CovP n0 L v H')
      (hk : ∀ j ∈ cands X.C.T (ovsL ops.toList) true m ops.toList 0, ∀ e' H', OkIn (Kx j e' H') (Lx j) → Good X ds ops K L n0 (m ||| 2 ^ j) e' H') : Good X ds ops K L n0 m e H
  | ren {m : Nat} {e e2 : Tr CV} {H H2 : CH} (hn : noFn ds = true) (hr : Ren X.N n0 e H e2 H2) (hs : stayL X.C ops.toList e2 H2 (again2 X.C.T (ovsL ops.toList) (mskE X.C.T (ovsL ops.toList) m (masks ops.toList []) ops.toList 0 0) m ops.toList 0) = true) (g : Good X ds ops K L n0 m e2 H2) : Good X ds ops K L n0 m e H
/-- Where an effect comes next, or nothing. -/
def Hd (X : Cx) (ds : Ds) (ops : Array Oper) (K : KT) (L : List Fin) (n0 m : Nat) (e : Tr CV) (H : CH) : Prop := cands X.C.T (ovsL ops.toList) false m ops.toList 0 = [] ∧
  ((cands X.C.T (ovsL ops.toList) true m ops.toList 0 = [] ∧ OkIn (K e H) L) ∨ (cands X.C.T (ovsL ops.toList) true m ops.toList 0 ≠ [] ∧ ∃ (Kx : Nat → KT) (Lx : Nat → List Fin),
    (∀ j ∈ cands X.C.T (ovsL ops.toList) true m ops.toList 0, OkIn (pEf X ds ops j (again X.C.T (ovsL ops.toList) ((nth (masks ops.toList []) j).getD 0) m ops.toList 0) e H (Kx j)) (Lx j)) ∧ (∀ j v H', Fin.pan v H' ∈ Lx j → CovP n0 L v H') ∧
      ∀ j ∈ cands X.C.T (ovsL ops.toList) true m ops.toList 0, ∀ e' H', OkIn (Kx j e' H') (Lx j) → Good X ds ops K L n0 (m ||| 2 ^ j) e' H'))
theorem stayL_spec {C : Cf} {ops : List Oper} {e : Tr CV} {H : CH} : ∀ {ag : List Nat}, stayL C ops e H ag = true → ∀ k ∈ ag, stays C ops e H k = true
  | [], _, k, hk => by cases hk
  | y :: ys, hst, k, hk => by
    have hst : (bif stays C ops e H y then stayL C ops e H ys else false) = true := hst
    cases hy : stays C ops e H y with
    | false => rw [hy] at hst; cases hst
    | true =>
      rw [hy] at hst
      rcases List.mem_cons.1 hk with rfl | hk
      · exact hy
      · exact stayL_spec hst k hk
theorem again2_spec (T : TTr) (vs : List Nat) (mm m : Nat) : ∀ (l : List Oper) (s k : Nat) (o : Oper), l[k]? = some o → m.testBit (s + k) = true → isE T vs o = false → mm.testBit (s + k) = false → s + k ∈ again2 T vs mm m l s
  | [], _, _, _, h, _, _, _ => by simp at h
  | o :: l, s, k, o', h, h1, h3, h4 => by
    show s + k ∈ (bif Nat.testBit m s && !(isE T vs o) && !(Nat.testBit mm s) then s :: again2 T vs mm m l (s + 1) else again2 T vs mm m l (s + 1))
    cases k with
    | zero =>
      have h : some o = some o' := h
      injection h with h
      subst h
      have h1 : m.testBit s = true := h1
      have h4 : mm.testBit s = false := h4
      rw [h1, h3, h4]
      exact List.mem_cons_self ..
    | succ k =>
      have := again2_spec T vs mm m l (s + 1) k o' (by simpa using h) (by rw [show s + 1 + k = s + (k + 1) by omega]; exact h1) h3 (by rw [show s + 1 + k = s + (k + 1) by omega]; exact h4)
      rw [show s + 1 + k = s + (k + 1) by omega] at this
      cases (Nat.testBit m s && !(isE T vs o) && !(Nat.testBit mm s)) with
      | true => exact List.mem_cons_of_mem _ this
      | false => exact this
theorem mskE_spec (T : TTr) (vs : List Nat) (m : Nat) (ms : List Nat) (k : Nat) : ∀ (l : List Oper) (s acc : Nat), (mskE T vs m ms l s acc).testBit k = true → acc.testBit k = true ∨ ∃ i o, l[i]? = some o ∧ m.testBit (s + i) = true ∧ isE T vs o = true ∧ ((nth ms (s + i)).getD 0).testBit k = true
  | [], _, _, h => .inl h
  | o :: l, s, acc, h => by
    have e : mskE T vs m ms (o :: l) s acc = bif Nat.testBit m s && isE T vs o then natK (Nat.lor acc ((nth ms s).getD 0)) fun acc => mskE T vs m ms l (s + 1) acc else mskE T vs m ms l (s + 1) acc := rfl
    rw [e] at h
    have next : ∀ acc', (mskE T vs m ms l (s + 1) acc').testBit k = true → acc'.testBit k = true ∨ ∃ i o', (o :: l)[i]? = some o' ∧ m.testBit (s + i) = true ∧ isE T vs o' = true ∧ ((nth ms (s + i)).getD 0).testBit k = true := by
      intro acc' h'
      rcases mskE_spec T vs m ms k l (s + 1) acc' h' with h1 | ⟨i, o', h1, h2, h3, h4⟩
      · exact .inl h1
      · have e2 : s + 1 + i = s + (i + 1) := by omega
        rw [e2] at h2 h4
        exact .inr ⟨i + 1, o', by simpa using h1, h2, h3, h4⟩
    cases hb : (Nat.testBit m s && isE T vs o) with
    | false =>
      rw [hb] at h
      exact next _ h
    | true =>
      rw [hb] at h
      simp only [cond_true, natK_eq] at h
      rw [Bool.and_eq_true] at hb
      rcases next _ h with h1 | h1
      · have h1 : (acc ||| (nth ms s).getD 0).testBit k = true := h1
        rw [Nat.testBit_or, Bool.or_eq_true] at h1
        rcases h1 with h1 | h1
        · exact .inl h1
        · exact .inr ⟨0, o, rfl, hb.1, hb.2, h1⟩
      · exact .inr h1
/-- What can be read is read; what is named anew is taken so. -/
theorem norm (hchk : chkR ops.toList = true) {n0 : Nat} {l : Array Bool} {w : World} {a : Act} {ρ0 : Rho} {l0 : List Deferred} (hf : ∀ j, n0 ≤ j → ρ0 j = none) (hm0 : MarksR ρ0 ds l0) {m : Nat} {e : Tr CV} {H : CH} (hg : Good X ds ops K L n0 m e H) : ∀ (ρ : Rho) (pend : List Nat), Inv X.C.T ops l m pend → Rel X W ds ops ρ H w e a pend → Rho.le ρ0 ρ →
    ∃ m' pend' ρ' e' H', Inv X.C.T ops l m' pend' ∧ Rel X W ds ops ρ' H' w e' a pend' ∧ Rho.le ρ0 ρ' ∧ Hd X ds ops K L n0 m' e' H' := by
  induction hg with
  | fin h1 h2 h => exact fun ρ pend hI hR hle => ⟨_, pend, ρ, _, _, hI, hR, hle, h1, .inl ⟨h2, h⟩⟩
  | ef h1 h2 Kx Lx h hp hk _ => exact fun ρ pend hI hR hle => ⟨_, pend, ρ, _, _, hI, hR, hle, h1, .inr ⟨h2, Kx, Lx, h, hp, hk⟩⟩
  | @rd m i e H o v hc ho' hv g ih =>
    intro ρ pend hI hR hle
    obtain ⟨k, o1, ho1, hik, hbit, heff, hrdy⟩ := (cands_spec X.C.T (ovsL ops.toList) false m ops.toList 0 i).1 hc
    rw [Nat.zero_add] at hik
    subst hik
    have ho2 : ops[i]? = some o1 := by simpa using ho1
    rw [ho'] at ho2
    injection ho2 with ho2
    subst ho2
    have ho := ho1
    have hedge := rdy_spec hrdy
    have hnl : ¬ Lst l i := fun hl => by rw [(hI.split i).2 (.inl hl)] at hbit; cases hbit
    have hnp : i ∉ pend := fun hl => by rw [(hI.split i).2 (.inr hl)] at hbit; cases hbit
    have hself : ∀ t ∈ looksL ops.toList o, o.dst ≠ some t := fun t ht hd => by
      obtain ⟨ed, h1, h2, h3⟩ := ((chkR_spec (T := X.C.T) hchk ho' ho' hd).1 ht).resolve_right fun h => (by rw [heff] at h; cases h.1)
      have := hedge ed h1 h2
      rw [h3, hbit] at this
      cases this
    refine ih ρ (i :: pend) ⟨hI.size, fun j => ?_, fun j hj => ?_, List.nodup_cons.2 ⟨hnp, hI.nodup⟩, ⟨fun o2 ho2 ed hed hb => ?_, hI.order⟩, hI.down⟩ ⟨hR.sr, ⟨hR.ev.size, fun t x hx hs => ?_, hR.ev.marks⟩, fun j hj => ?_⟩ hle
    · rw [testBit_add, hI.split j, List.mem_cons, or_assoc, or_comm (a := j ∈ pend)]
    · rcases List.mem_cons.1 hj with rfl | hj
      · exact ⟨⟨o, ho', heff⟩, hnl⟩
      · exact hI.pd j hj
    · rw [ho'] at ho2
      injection ho2 with ho2
      subst ho2
      exact (hI.split _).1 (hedge ed hed hb)
    · rw [get_putd] at hx
      split at hx
      · rename_i hd
        exact absurd ⟨i, List.mem_cons_self .., o, ho', hd.1⟩ hs
      · exact hR.ev.slot t x hx fun ⟨j, hj, o2, h1, h2⟩ => hs ⟨j, List.mem_cons_of_mem _ hj, o2, h1, h2⟩
    · intro o2 ho2
      rcases List.mem_cons.1 hj with rfl | hj
      · rw [ho'] at ho2
        injection ho2 with ho2
        subst ho2
        refine ⟨v, ?_, fun t ht => ?_⟩
        · rw [← hv]
          refine (readS_congr (fun t ht => ?_) (.inl rfl)).symm
          rw [get_putd, if_neg fun h => hself t ht h.1]
        · rw [get_putd]
          by_cases hN : t < X.N
          · rw [if_pos ⟨ht, hN⟩]; exact .inl ⟨hN, rfl⟩
          · rw [if_neg fun h => hN h.2]
            cases hx : e.get t with
            | none => exact .inr rfl
            | some x =>
              exact absurd (hR.ev.slot t x hx fun ⟨j2, hj2, o3, h1, h2⟩ => (chkR_spec (T := X.C.T) hchk h1 ho' ht).2 (fun e => hnp (e ▸ hj2)) h2).1 hN
      · obtain ⟨v2, g1, g2⟩ := hR.ah j hj o2 ho2
        have hne : i ≠ j := fun e => hnp (e ▸ hj)
        refine ⟨v2, ?_, fun t ht => ?_⟩
        · rw [← g1]
          refine (readS_congr (fun t ht => ?_) (.inl rfl)).symm
          rw [get_putd, if_neg]
          rintro ⟨hd, _⟩
          obtain ⟨ed, h1, h2, h3⟩ := ((chkR_spec (T := X.C.T) hchk ho2 ho' hd).1 ht).resolve_right fun h => (by rw [heff] at h; cases h.1)
          rcases hI.order.edge j hj o2 ho2 ed h1 h2 with h4 | h4
          · rw [h3] at h4; exact hnl h4
          · rw [h3] at h4; exact hnp h4
        · rw [get_putd, if_neg]
          · exact g2 t ht
          · rintro ⟨hd, _⟩
            exact (chkR_spec (T := X.C.T) hchk ho' ho2 ht).2 hne hd
  | @ren m e e2 H H2 hn hr hs g ih =>
    intro ρ pend hI hR hle
    obtain ⟨T, t1, t2, t3, t4⟩ := hr
    have hst := stayL_spec hs
    refine ih (T ρ) pend hI ⟨t1 W ρ w hR.sr, ⟨hR.ev.size, fun t v2 ht hnp => ?_, t3 ρ0 ρ ds l0 a.defers hn hf hm0 hR.ev.marks⟩, fun k hk o ho => ?_⟩ (t2 ρ0 ρ hle hf)
    · obtain ⟨q1, q2⟩ := t4 t v2 ht
      refine ⟨q1, q2 ρ _ ?_⟩
      cases hx : e.get t with
      | none => simp only [Option.getD_none, CV.R]
      | some v => exact (hR.ev.slot t v hx hnp).2
    · obtain ⟨⟨o', ho', hek⟩, hnl⟩ := hI.pd k hk
      rw [ho] at ho'
      injection ho' with ho'
      subst ho'
      have hmk : (mskE X.C.T (ovsL ops.toList) m (masks ops.toList []) ops.toList 0 0).testBit k = false := by
        cases hm : (mskE X.C.T (ovsL ops.toList) m (masks ops.toList []) ops.toList 0 0).testBit k with
        | false => rfl
        | true =>
          rcases mskE_spec _ _ _ _ _ _ _ _ hm with h1 | ⟨i, oi, h1, h2, h3, h4⟩
          · simp at h1
          · rw [Nat.zero_add] at h2 h4
            have hli : Lst l i := by
              rcases (hI.split i).1 h2 with h5 | h5
              · exact h5
              · obtain ⟨⟨oi', g1, g2⟩, _⟩ := hI.pd i h5
                rw [show ops[i]? = some oi by simpa using h1] at g1
                injection g1 with g1
                rw [← g1, h3] at g2
                cases g2
            exact absurd (mask_ok (D := Lst l) (fun j oj hj hl ed hed hbd => hI.down j oj (by simpa using hj) hl ed hed hbd) h1 (hI.down i oi (by simpa using h1) hli) k h4) hnl
      have hag := again2_spec X.C.T (ovsL ops.toList) (mskE X.C.T (ovsL ops.toList) m (masks ops.toList []) ops.toList 0 0) m ops.toList 0 k o (by simpa using ho) (by rw [Nat.zero_add]; exact (hI.split k).2 (.inr hk)) hek (by rw [Nat.zero_add]; exact hmk)
      rw [Nat.zero_add] at hag
      have hs := hst k hag
      unfold stays at hs
      rw [nth_eq] at hs
      simp only [Array.getElem?_toList, ho] at hs
      cases hrs : readS X.C ops.toList o e2 H2 with
      | none => rw [hrs] at hs; cases hs
      | some v1 =>
        refine ⟨v1, rfl, fun t ht => ?_⟩
        rw [hrs, ht] at hs
        simp only at hs
        cases hx : e2.get t with
        | none => exact .inr rfl
        | some u =>
          rw [hx] at hs
          exact .inl ⟨(t4 t u hx).1, by rw [ceq_spec hs]⟩
/-- The region is through. -/
theorem any_done {n0 : Nat} {l : Array Bool} {ρ ρ0 : Rho} {H : CH} {w : World} {a : Act} {m : Nat} {pend : List Nat} {e : Tr CV} (hI : Inv X.C.T ops l m pend) (hR : Rel X W ds ops ρ H w e a pend) (hle : Rho.le ρ0 ρ) (h : Hd X ds ops K L n0 m e H)
    (hr : Region.ready .any ops l = []) (hk : ∀ e' H' a' w' ρ', SR W ρ' H' w' → EvS ρ' X.N e' ds a' (fun _ => False) → OkIn (K e' H') L → Rho.le ρ0 ρ' → Q .normal a' w') : Q .normal a w := by
  have noready : ∀ i, i ∉ Region.ready .any ops l := fun i hi => by rw [hr] at hi; cases hi
  have hpend : pend = [] := by
    refine Classical.byContradiction fun hne => ?_
    obtain ⟨i, hi, hed⟩ := hI.order.first hne
    obtain ⟨⟨o, ho, _⟩, hnl⟩ := hI.pd i hi
    exact noready i ((ready_iff hI.size).2 ⟨hnl, o, ho, hed o ho⟩)
  subst hpend
  rcases h.2 with ⟨_, h2⟩ | ⟨hc, _⟩
  · exact hk e H a w ρ hR.sr ⟨hR.ev.size, fun t x hx _ => hR.ev.slot t x hx fun ⟨i, hi, _⟩ => (by cases hi), hR.ev.marks⟩ h2 hle
  · obtain ⟨j, hj⟩ := List.exists_mem_of_ne_nil _ hc
    obtain ⟨k, o, ho, hjk, hbit, heff, hrdy⟩ := (cands_spec X.C.T (ovsL ops.toList) true m ops.toList 0 j).1 hj
    rw [Nat.zero_add] at hjk
    subst hjk
    have hnl : ¬ Lst l j := fun hl => by rw [(hI.split j).2 (.inl hl)] at hbit; cases hbit
    exact absurd ((ready_iff hI.size).2 ⟨hnl, o, by simpa using ho, fun ed hed hbd => ((hI.split _).1 (rdy_spec hrdy ed hed hbd)).resolve_right (by simp)⟩) (noready j)
def cnt (l : Array Bool) : Nat := l.toList.countP (· == true)
theorem cnt_set : ∀ {l : List Bool} {i : Nat}, l[i]? = some false → (l.set i true).countP (· == true) = l.countP (· == true) + 1
  | [], _, h => by simp at h
  | b :: l, 0, h => by
    have : b = false := by simpa using h
    subst this
    simp
  | b :: l, i + 1, h => by
    have := cnt_set (l := l) (i := i) (by simpa using h)
    simp only [List.set_cons_succ, List.countP_cons, this]
    omega
theorem cnt_full {l : List Bool} (h : l.countP (· == true) = l.length) : ∀ b ∈ l, b = true := by
  have := List.countP_eq_length.1 h
  intro b hb
  simpa using this b hb
theorem any_ok {n0 : Nat} {ρ0 : Rho} {l0 : List Deferred} (hchk : chkR ops.toList = true) (hC : CallOk X.C W X.call) (hG : GOk X.C.G W) (hf : ∀ j, n0 ≤ j → ρ0 j = none) (hm0 : MarksR ρ0 ds l0)
    (hk : ∀ e' H' a' w' ρ', SR W ρ' H' w' → EvS ρ' X.N e' ds a' (fun _ => False) → OkIn (K e' H') L → Rho.le ρ0 ρ' → Q .normal a' w') (hp : PanOk X W L ρ0 Q) : ∀ (fuel : Nat) (l : Array Bool) (m : Nat) (pend : List Nat) (ρ : Rho) (H : CH) (w : World) (e : Tr CV) (a : Act),
    Hd X ds ops K L n0 m e H → Inv X.C.T ops l m pend → Rel X W ds ops ρ H w e a pend → Rho.le ρ0 ρ → cnt l + fuel = ops.size → wpAnyIn (FE rb) 0 X.C.P .any ops Q fuel l a w := by
  intro fuel
  induction fuel with
  | zero =>
    intro l m pend ρ H w e a hd hI hR hle0 hcnt
    have hr : Region.ready .any ops l = [] := by
      refine List.eq_nil_iff_forall_not_mem.2 fun i hi => ?_
      obtain ⟨h1, o, h2, _⟩ := (ready_iff hI.size).1 hi
      have hlt : i < l.size := by rw [hI.size]; exact (Array.getElem?_eq_some_iff.1 h2).1
      have hfull := cnt_full (l := l.toList) (by have := hI.size; unfold cnt at hcnt; rw [Array.length_toList]; omega) l[i] (by simp)
      exact h1 (by unfold Lst; simp [Array.getD_eq_getD_getElem?, hlt, hfull])
    exact ⟨hr, any_done hI hR hle0 hd hr hk⟩
  | succ fuel ih =>
    intro l m pend ρ H w e a hd hI hR hle0 hcnt
    have hb := hd.1
    refine ⟨fun hr => any_done hI hR hle0 hd hr hk, fun i hi => ?_⟩
    obtain ⟨hnl, o, ho, hedge⟩ := (ready_iff hI.size).1 hi
    have hlt : i < l.size := by rw [hI.size]; exact (Array.getElem?_eq_some_iff.1 ho).1
    have hcnt' : cnt (l.setIfInBounds i true) + fuel = ops.size := by
      have hf : l.toList[i]? = some false := by
        have : l[i]? = some l[i] := Array.getElem?_eq_getElem hlt
        unfold Lst at hnl
        simp [Array.getD_eq_getD_getElem?, hlt] at hnl
        simp [hlt, hnl]
      have := cnt_set hf
      unfold cnt at hcnt ⊢
      rw [Array.toList_setIfInBounds, this]
      omega
    have hlst : ∀ k, Lst l k → Lst (l.setIfInBounds i true) k := fun k hk => lst_set.2 (.inl hk)
    have hlsti : Lst (l.setIfInBounds i true) i := lst_set.2 (.inr ⟨rfl, hlt⟩)
    have hdown : ∀ k o', ops[k]? = some o' → Lst (l.setIfInBounds i true) k → ∀ ed ∈ o'.after, Region.binds .any ed = true → Lst (l.setIfInBounds i true) ed.on := fun k o' ho' hk ed hed hbd => by
      rcases lst_set.1 hk with hk | ⟨rfl, _⟩
      · exact hlst _ (hI.down k o' ho' hk ed hed hbd)
      · rw [ho] at ho'
        injection ho' with ho'
        subst ho'
        exact hlst _ (hedge ed hed hbd)
    have hlook : ∀ t ∈ looksL ops.toList o, ¬ Sl ops pend t := fun t ht ⟨k, hkp, ok, h1, h2⟩ => by
      obtain ⟨⟨ok', hok', hek⟩, _⟩ := hI.pd k hkp
      rw [h1] at hok'
      injection hok' with hok'
      subst hok'
      obtain ⟨ed, g1, g2, g3⟩ := ((chkR_spec (T := X.C.T) hchk ho h1 h2).1 ht).resolve_right fun h => (by rw [hek] at h; cases h.1)
      have := hedge ed g1 g2
      rw [g3] at this
      exact (hI.pd k hkp).2 this
    unfold wpOpIn
    simp only [ho]
    by_cases hpi : i ∈ pend
    · -- done ahead
      obtain ⟨v, hv, hslot⟩ := hR.ah i hpi o ho
      refine read_ok hG hR.sr hR.ev o hlook hv fun ρ' u w' hle hS' hvu => ?_
      refine ih (l.setIfInBounds i true) m (pend.erase i) ρ' H w' e (a.put o.dst u) hd ⟨by simpa using hI.size, fun j => ?_, fun j hj => ?_, hI.nodup.erase i, hI.order.erase hlst hlsti, hdown⟩ ⟨hS', ⟨(put_size ..).trans hR.ev.size, fun t x hx hs => ?_, by rw [put_defers]; exact hR.ev.marks.mono hle⟩, fun j hj => hR.ah j (List.mem_of_mem_erase hj)⟩ (hle0.trans hle) hcnt'
      · rw [hI.split j, lst_set, hI.nodup.mem_erase_iff]
        by_cases e : j = i
        · subst e; exact ⟨fun _ => .inl (.inr ⟨rfl, hlt⟩), fun _ => .inr hpi⟩
        · simp [e]
      · obtain ⟨hj1, hj2⟩ := hI.nodup.mem_erase_iff.1 hj
        exact ⟨(hI.pd j hj2).1, fun hl => (lst_set.1 hl).elim (hI.pd j hj2).2 fun h => hj1 h.1⟩
      · rw [put_getD, hR.ev.size]
        by_cases hd : o.dst = some t
        · rcases hslot t hd with ⟨h1, h2⟩ | h2
          · rw [h2] at hx
            injection hx with hx
            subst hx
            rw [if_pos ⟨hd, h1⟩]
            exact ⟨h1, hvu⟩
          · rw [h2] at hx; cases hx
        · rw [if_neg fun h => hd h.1]
          refine (hR.ev.mono hle).slot t x hx fun ⟨k, hkp, ok, h1, h2⟩ => hs ⟨k, ?_, ok, h1, h2⟩
          refine hI.nodup.mem_erase_iff.2 ⟨fun e => ?_, hkp⟩
          subst e
          rw [ho] at h1
          injection h1 with h1
          subst h1
          exact hd h2
    · -- the next effect
      have hbit : m.testBit i = false := by
        cases hbt : m.testBit i with
        | false => rfl
        | true => exact (((hI.split i).1 hbt).elim hnl hpi).elim
      have hrdy : rdy o m = true := rdy_of fun ed hed hbd => (hI.split _).2 (.inl (hedge ed hed hbd))
      have heff : isE X.C.T (ovsL ops.toList) o = true := by
        cases he : isE X.C.T (ovsL ops.toList) o with
        | true => rfl
        | false =>
          have : i ∈ cands X.C.T (ovsL ops.toList) false m ops.toList 0 := (cands_spec ..).2 ⟨i, o, by simpa using ho, by omega, hbit, he, hrdy⟩
          rw [hb] at this
          cases this
      have hci : i ∈ cands X.C.T (ovsL ops.toList) true m ops.toList 0 := (cands_spec ..).2 ⟨i, o, by simpa using ho, by omega, hbit, heff, hrdy⟩
      obtain ⟨Kx, Lx, g1, g2, g3⟩ : ∃ (Kx : Nat → KT) (Lx : Nat → List Fin), OkIn (pEf X ds ops i (again X.C.T (ovsL ops.toList) ((nth (masks ops.toList []) i).getD 0) m ops.toList 0) e H (Kx i)) (Lx i) ∧ (∀ v H', Fin.pan v H' ∈ Lx i → CovP n0 L v H') ∧ ∀ e' H', OkIn (Kx i e' H') (Lx i) → Good X ds ops K L n0 (m ||| 2 ^ i) e' H' := by
        rcases hd.2 with ⟨h1, _⟩ | ⟨_, Kx, Lx, h1, h2, h3⟩
        · rw [h1] at hci; cases hci
        · exact ⟨Kx, Lx, h1 i hci, h2 i, h3 i hci⟩
      · have h := g1
        unfold pEf at h
        rw [nth_eq] at h
        simp only [Array.getElem?_toList, ho] at h
        refine stepO_ok hC hG hR.sr hR.ev o hlook h (fun v H' ρ' u w' hk' hle hS' hvu => ?_) (fun ρ' v u H' w' a' q0 q1 q2 q3 q4 q5 => (g2 v H' q1).ok hp hf ρ' u w' a' q0 (hle0.trans q2) q3 q4 q5)
        cases hst : stayL X.C ops.toList (putd X.N e o.dst v) H' (again X.C.T (ovsL ops.toList) ((nth (masks ops.toList []) i).getD 0) m ops.toList 0) with
        | false => rw [hst] at hk'; exact (OkIn.bad hk').elim
        | true =>
          rw [hst] at hk'
          have hk' := g3 _ _ hk'
          have hstay := stayL_spec hst
          have hI' : Inv X.C.T ops (l.setIfInBounds i true) (m ||| 2 ^ i) pend := by
            refine ⟨by simpa using hI.size, fun j => ?_, fun j hj => ⟨(hI.pd j hj).1, fun hl => (lst_set.1 hl).elim (hI.pd j hj).2 fun h => hpi (h.1 ▸ hj)⟩, hI.nodup, hI.order.mono hlst, hdown⟩
            rw [testBit_add, hI.split j, lst_set]
            by_cases e : j = i
            · subst e; simp [hlt]
            · simp [e]
          have hR' : Rel X W ds ops ρ' H' w' (putd X.N e o.dst v) (a.put o.dst u) pend := by
            refine ⟨hS', hR.ev.put hle _ hvu, fun k hkp ok hok => ?_⟩
            obtain ⟨v0, g1, g2⟩ := hR.ah k hkp ok hok
            have hne : i ≠ k := fun e => hpi (e ▸ hkp)
            have hsl : ∀ t, ok.dst = some t → (putd X.N e o.dst v).get t = e.get t := fun t ht => by
              rw [get_putd, if_neg]
              rintro ⟨hd, _⟩
              exact (chkR_spec (T := X.C.T) hchk ho hok ht).2 hne hd
            have hbk : m.testBit k = true := (hI.split k).2 (.inr hkp)
            obtain ⟨⟨ok', hok', heffk⟩, hnlk⟩ := hI.pd k hkp
            rw [hok] at hok'
            injection hok' with hok'
            subst hok'
            have hlookk : ∀ t ∈ looksL ops.toList ok, e.get t = (putd X.N e o.dst v).get t := fun t ht => by
              rw [get_putd, if_neg]
              rintro ⟨hd, _⟩
              have hmask : ∀ k, ((nth (masks ops.toList []) i).getD 0).testBit k = true → Lst l k := mask_ok (D := Lst l) (fun j oj hj hl ed hed hbd => hI.down j oj (by simpa using hj) hl ed hed hbd) (by simpa using ho) hedge
              obtain ⟨ed, q1, q2, q3⟩ := ((chkR_spec (T := X.C.T) hchk hok ho hd).1 ht).resolve_right fun h => hnlk (hmask k h.2)
              rcases hI.order.edge k hkp ok hok ed q1 q2 with h4 | h4
              · rw [q3] at h4; exact hnl h4
              · rw [q3] at h4; exact hpi h4
            cases hrd : isRd X.C.T ok.op with
            | false =>
              refine ⟨v0, ?_, fun t ht => by rw [hsl t ht]; exact g2 t ht⟩
              rw [← g1]
              exact (readS_congr hlookk (.inr ⟨(Bool.or_eq_false_iff.1 heffk).1, hrd⟩)).symm
            | true =>
              have hmk : ((nth (masks ops.toList []) i).getD 0).testBit k = false := by
                cases hm : ((nth (masks ops.toList []) i).getD 0).testBit k with
                | false => rfl
                | true => exact absurd (mask_ok (D := Lst l) (fun j oj hj hl ed hed hbd => hI.down j oj (by simpa using hj) hl ed hed hbd) (by simpa using ho) hedge k hm) hnlk
              have hag := again_spec X.C.T (ovsL ops.toList) ((nth (masks ops.toList []) i).getD 0) m ops.toList 0 k ok (by simpa using hok) (by rw [Nat.zero_add]; exact hbk) hrd heffk (by rw [Nat.zero_add]; exact hmk)
              rw [Nat.zero_add] at hag
              have hs := hstay k hag
              unfold stays at hs
              rw [nth_eq] at hs
              simp only [Array.getElem?_toList, hok] at hs
              cases hrs : readS X.C ops.toList ok (putd X.N e o.dst v) H' with
              | none => rw [hrs] at hs; cases hs
              | some v1 =>
                refine ⟨v1, rfl, fun t ht => ?_⟩
                rw [hrs, ht] at hs
                simp only at hs
                rw [hsl t ht] at hs ⊢
                rcases g2 t ht with ⟨q1, q2⟩ | q2
                · rw [q2] at hs ⊢
                  rw [ceq_spec hs]
                  exact .inl ⟨q1, rfl⟩
                · rw [q2] at hs; cases hs
          obtain ⟨m', pend', ρ2, e', H2, a2, a3, a4, a5⟩ := norm hchk hf hm0 hk' ρ' pend hI' hR' (hle0.trans hle)
          exact ih (l.setIfInBounds i true) m' pend' ρ2 H2 w' e' (a.put o.dst u) a5 a2 a3 a4 hcnt'
/-- All slots as one value. -/
theorem packF_get (e : Tr CV) : ∀ (n : Nat) (acc : List CV) (j : Nat), (packF e n acc)[j]? = if j < n then some ((e.get j).getD .junk) else acc[j - n]?
  | 0, acc, j => by
    rw [if_neg (Nat.not_lt_zero j), Nat.sub_zero]
    rfl
  | n + 1, acc, j => by
    have h := packF_get e n (packV e n :: acc) j
    have e1 : packF e (n + 1) acc = packF e n (packV e n :: acc) := rfl
    rw [e1, h]
    by_cases h1 : j < n
    · rw [if_pos h1, if_pos (by omega)]
    · rw [if_neg h1]
      by_cases h2 : j = n
      · subst h2
        rw [if_pos (by omega), Nat.sub_self]
        simp only [List.getElem?_cons_zero]
        unfold packV
        cases e.get j <;> rfl
      · rw [if_neg (by omega)]
        have : j - n = (j - (n + 1)) + 1 := by omega
        rw [this, List.getElem?_cons_succ]
theorem packF_len (e : Tr CV) (n : Nat) : (packF e n []).length = n := by
  have h := packF_get e n []
  refine Nat.le_antisymm (Nat.le_of_not_lt fun hl => ?_) (Nat.le_of_not_lt fun hl => ?_)
  · have := h n
    rw [if_neg (Nat.lt_irrefl n), List.getElem?_eq_getElem hl] at this
    simp at this
  · have := h (packF e n []).length
    rw [if_pos hl, List.getElem?_eq_none (Nat.le_refl _)] at this
    cases this
theorem noFn_marks {ρ ρ' : Rho} {n0 : Nat} {s : List Nat} (hf : ∀ j, n0 ≤ j → ρ j = none) : ∀ {ds : Ds} {l l' : List Deferred}, noFn ds = true → MarksR ρ ds l → MarksR ρ' ds l' → MarksR (ρ'.ren n0 s) ds l'
  | [], _, _, _, _, h => h
  | .mark d :: ds, _, _, hn, ⟨b, m, rest, h1, h2, h3⟩, ⟨b', m', rest', k1, k2, k3⟩ => by
    have hlt : d < n0 := by
      rcases Nat.lt_or_ge d n0 with h | h
      · exact h
      · rw [hf d h] at h1; cases h1
    exact ⟨b', m', rest', (ren_lt hlt).trans k1, k2, noFn_marks hf (show noFn ds = true from hn) h3 k3⟩
  | .fn _ _ :: _, _, _, hn, _, _ => by cases hn
theorem envK_get {β : Type} : ∀ (l : List CV) (n : Nat) (t : Tr CV) (k : Tr CV → β), ∃ e, envK l n t k = k e ∧ ∀ j, e.get j = if n ≤ j ∧ j < n + l.length then l[j - n]? else t.get j
  | [], n, t, k => ⟨t, rfl, fun j => by rw [if_neg (by rintro ⟨h1, h2⟩; simp only [List.length_nil] at h2; omega)]⟩
  | x :: xs, n, t, k => by
    have e : envK (x :: xs) n t k = t.setK n (some x) fun t => natK (n + 1) fun n => envK xs n t k := rfl
    rw [e, Tr.setK_eq, natK_eq]
    obtain ⟨e', h1, h2⟩ := envK_get xs (n + 1) (t.set n (some x)) k
    refine ⟨e', h1, fun j => ?_⟩
    rw [h2 j, Tr.get_set]
    simp only [List.length_cons]
    by_cases h : j = n
    · subst h
      rw [if_neg (by omega), if_pos rfl, if_pos (by omega)]
      simp
    · rw [if_neg h]
      by_cases h3 : n + 1 ≤ j ∧ j < n + 1 + xs.length
      · rw [if_pos h3, if_pos (by omega)]
        have : j - n = (j - (n + 1)) + 1 := by omega
        rw [this]
        simp
      · rw [if_neg h3, if_neg (by omega)]
/-- Reads that come next. -/
theorem pRd_ex {m i : Nat} {e : Tr CV} {H : CH} {K' : KT} (hc : i ∈ cands X.C.T (ovsL ops.toList) false m ops.toList 0) (h : OkIn (pRd X ops i e H K') L) : ∃ o v, ops[i]? = some o ∧ readS X.C ops.toList o e H = some v ∧ OkIn (K' (putd X.N e o.dst v) H) L := by
  obtain ⟨k, o, ho, hik, _, _, _⟩ := (cands_spec X.C.T (ovsL ops.toList) false m ops.toList 0 i).1 hc
  rw [Nat.zero_add] at hik
  subst hik
  unfold pRd at h
  rw [nth_eq, ho] at h
  simp only at h
  cases hv : readS X.C ops.toList o e H with
  | none => rw [hv] at h; exact (OkIn.bad h).elim
  | some v =>
    rw [hv] at h
    simp only [CV.fK_eq, putK_eq] at h
    exact ⟨o, v, by simpa using ho, hv, h⟩
theorem allIn_mem {n0 : Nat} {s : List Nat} {n : Nat} : ∀ {cs : List CV}, allIn n0 s (List.rec (motive := fun _ => List Nat) [] (fun c _ r => catL (hsF n c) r) cs : List Nat) = true → ∀ c ∈ cs, allIn n0 s (hsF n c) = true
  | [], _, c, hc => by cases hc
  | x :: xs, h, c, hc => by
    obtain ⟨h1, h2⟩ := allIn_cat (a := hsF n x) (b := (List.rec (motive := fun _ => List Nat) [] (fun c _ r => catL (hsF n c) r) xs : List Nat)) h
    rcases List.mem_cons.1 hc with rfl | hc
    · exact h1
    · exact allIn_mem h2 c hc
theorem mapL_get {α β : Type} (f : α → β) : ∀ (l : List α) (i : Nat), (mapL f l)[i]? = l[i]?.map f
  | [], i => by simp [mapL]
  | x :: xs, 0 => rfl
  | x :: xs, i + 1 => by
    rw [mapL_cons, List.getElem?_cons_succ, List.getElem?_cons_succ]
    exact mapL_get f xs i
/-- What stands in the next list: a state that is looked after; a panic that may be. -/
def CovF (X : Cx) (ds : Ds) (ops : Array Oper) (K : KT) (L : List Fin) (n0 : Nat) : Fin → Prop
  | .ret v H => ∃ k m vs e2, v = .tup (.int k (.ofNat m) :: vs) ∧ (∀ j, e2.get j = vs[j]?) ∧ stayL X.C ops.toList e2 H (again2 X.C.T (ovsL ops.toList) (mskE X.C.T (ovsL ops.toList) m (masks ops.toList []) ops.toList 0 0) m ops.toList 0) = true ∧ Good X ds ops K L n0 m e2 H
  | .pan v H => CovP n0 L v H
theorem unpk_ex {k : Nat → Tr CV → CH → Ans} {x : Fin} {l0 : List Fin} (h : OkIn (unpk X ops X.C k x) l0) : (∃ kk m vs e2 H, x = .ret (.tup (.int kk (.ofNat m) :: vs)) H ∧ (∀ j, e2.get j = vs[j]?) ∧ stayL X.C ops.toList e2 H (again2 X.C.T (ovsL ops.toList) (mskE X.C.T (ovsL ops.toList) m (masks ops.toList []) ops.toList 0 0) m ops.toList 0) = true ∧ OkIn (k m e2 H) l0) ∨ ∃ v H, x = .pan v H ∧ Fin.pan v H ∈ l0 := by
  unfold unpk at h
  split at h
  · rename_i kk m vs H
    obtain ⟨e2, h1, h2⟩ := envK_get vs 0 .lf fun e => bif stayL X.C ops.toList e H (again2 X.C.T (ovsL ops.toList) (mskE X.C.T (ovsL ops.toList) m (masks ops.toList []) ops.toList 0 0) m ops.toList 0) then k m e H else .bad X.fid 950
    rw [h1] at h
    cases hs : stayL X.C ops.toList e2 H (again2 X.C.T (ovsL ops.toList) (mskE X.C.T (ovsL ops.toList) m (masks ops.toList []) ops.toList 0 0) m ops.toList 0) with
    | false => rw [hs] at h; exact (OkIn.bad h).elim
    | true =>
      rw [hs] at h
      refine .inl ⟨kk, m, vs, e2, H, rfl, fun j => ?_, hs, h⟩
      rw [h2 j, Tr.get_lf]
      split
      · rw [Nat.sub_zero]
      · rename_i hj
        rw [List.getElem?_eq_none (by omega)]
  · rename_i v H
    obtain ⟨l, e, hl⟩ := h
    injection e with e
    subst e
    exact .inr ⟨v, H, rfl, hl _ (List.mem_singleton.2 rfl)⟩
  · exact (OkIn.bad h).elim
/-- A state of a list that is thinned out. -/
theorem met {n0 : Nat} {l l0 : List Fin} (hn : noFn ds = true) (hst : ∀ x ∈ l0, ∃ y ∈ l, Stands n0 x y) (hl : ∀ y ∈ l, CovF X ds ops K L n0 y) :
    (∀ m e H, Fin.ret (.tup (.int .i64 (.ofNat m) :: packF e X.N [])) H ∈ l0 → Good X ds ops K L n0 m e H) ∧ ∀ v H, Fin.pan v H ∈ l0 → CovP n0 L v H := by
  refine ⟨fun m e H hx => ?_, fun v H hx => ?_⟩
  · obtain ⟨y, hy, hs⟩ := hst _ hx
    have hc := hl y hy
    cases hs with
    | same =>
      obtain ⟨k, m', vs, e2, h1, h2, h3, h4⟩ := hc
      injection h1 with h1
      injection h1 with h0 h1
      injection h0 with _ h0
      injection h0 with h0
      subst h0 h1
      refine .ren hn ⟨id, fun _ _ _ h => h, fun _ _ h _ => h, fun _ _ _ _ _ _ _ _ h => h, fun t v2 ht => ?_⟩ h3 h4
      rw [h2 t, packF_get] at ht
      split at ht
      · rename_i hlt
        injection ht with ht
        subst ht
        exact ⟨hlt, fun _ _ h => h⟩
      · simp at ht
    | @ret s v v2 H1 H2 hcut =>
      obtain ⟨k, m', vs, e2, h1, h2, h3, h4⟩ := hc
      have hA : CV.tup (CV.int .i64 (.ofNat m) :: mapL (rnF n0 s 7) (packF e X.N [])) = .tup (.int k (.ofNat m') :: vs) := hcut.val2.symm.trans h1
      clear h1
      injection hA with hA
      injection hA with hB hA
      injection hB with _ hB
      injection hB with hB
      subst hB hA
      refine .ren hn ⟨fun ρ => ρ.ren n0 s, fun _ _ _ h => h.ren hcut, fun _ _ h hf => ren_le h hf, fun _ _ _ _ _ q1 q2 q3 q4 => noFn_marks q2 q1 q3 q4, fun t v2 ht => ?_⟩ h3 h4
      rw [h2 t, mapL_get, packF_get] at ht
      split at ht
      · rename_i hlt
        injection ht with ht
        subst ht
        refine ⟨hlt, fun ρ u hu => R_ren hcut.nd hcut.hi 7 _ _ ?_ hu⟩
        refine allIn_mem (cs := CV.int .i64 (.ofNat m) :: packF e X.N []) hcut.val _ (List.mem_cons_of_mem _ ?_)
        refine List.mem_of_getElem? (i := t) ?_
        rw [packF_get, if_pos hlt]
      · simp at ht
  · obtain ⟨y, hy, hs⟩ := hst _ hx
    have hc := hl y hy
    cases hs with
    | same => exact hc
    | pan hcut => exact .ren hcut hc
theorem rds_good {n0 : Nat} {l0 : List Fin} (hm : ∀ m e H, Fin.ret (.tup (.int .i64 (.ofNat m) :: packF e X.N [])) H ∈ l0 → Good X ds ops K L n0 m e H) : ∀ (n m : Nat) (e : Tr CV) (H : CH), OkIn (rdsN X ops X.C n m e H) l0 → Good X ds ops K L n0 m e H
  | 0, _, _, _, h => (OkIn.bad h).elim
  | n + 1, m, e, H, h => by
    have e1 : rdsN X ops X.C (n + 1) m e H = match cands X.C.T (ovsL ops.toList) false m ops.toList 0 with
      | i :: _ => pRd X ops i e H fun e H => natK (Nat.lor m (2 ^ i)) fun m => rdsN X ops X.C n m e H
      | [] => packM X.N m e H := rfl
    rw [e1] at h
    cases hc : cands X.C.T (ovsL ops.toList) false m ops.toList 0 with
    | nil =>
      rw [hc] at h
      obtain ⟨l, e2, hl⟩ := h
      have e2 : Ans.ok [.ret (.tup (.int .i64 (.ofNat m) :: packF e X.N [])) H] = .ok l := e2
      injection e2 with e2
      subst e2
      exact hm m e H (hl _ (List.mem_singleton.2 rfl))
    | cons i rest =>
      rw [hc] at h
      have hi : i ∈ cands X.C.T (ovsL ops.toList) false m ops.toList 0 := by rw [hc]; exact List.mem_cons_self ..
      obtain ⟨o, v, h1, h2, h3⟩ := pRd_ex (K' := fun e H => natK (Nat.lor m (2 ^ i)) fun m => rdsN X ops X.C n m e H) hi h
      simp only [natK_eq] at h3
      exact .rd hi h1 h2 (rds_good hm n _ _ _ h3)
theorem lev_good {n0 n m : Nat} {e : Tr CV} {H : CH} {l0 : List Fin} (hm : ∀ m e H, Fin.ret (.tup (.int .i64 (.ofNat m) :: packF e X.N [])) H ∈ l0 → Good X ds ops K L n0 m e H) (hp : ∀ v H, Fin.pan v H ∈ l0 → CovP n0 L v H) (h1 : cands X.C.T (ovsL ops.toList) false m ops.toList 0 = []) (h2 : cands X.C.T (ovsL ops.toList) true m ops.toList 0 ≠ [])
    (h : OkIn (eachA (levE X ds ops X.C n m e H) (cands X.C.T (ovsL ops.toList) true m ops.toList 0)) l0) : Good X ds ops K L n0 m e H := by
  refine .ef h1 h2 (fun j e H => natK (Nat.lor m (2 ^ j)) fun m => rdsN X ops X.C n m e H) (fun _ => l0) (fun j hj => OkIn.each (levE X ds ops X.C n m e H) h j hj) (fun _ => hp) fun j hj e' H' h' => ?_
  simp only [natK_eq] at h'
  exact rds_good hm n _ e' H' h'
theorem levN_cov {n0 n : Nat} {fast : Nat → Tr CV → CH → Ans} (hn : noFn ds = true) (hfast : ∀ m e H, OkIn (fast m e H) L → Good X ds ops K L n0 m e H) : ∀ (k : Nat) (a : Ans), OkIn (levN X ds ops X.C n n0 fast k a) L → ∃ l, a = .ok l ∧ ∀ x ∈ l, CovF X ds ops K L n0 x
  | 0, _, h => (OkIn.bad h).elim
  | k + 1, a, h => by
    have hh : OkIn (levS X ds ops X.C n n0 fast (levN X ds ops X.C n n0 fast k) a) L := h
    clear h
    have one : ∀ x, OkIn (unpk X ops X.C fast x) L → CovF X ds ops K L n0 x := by
      intro x hx
      rcases unpk_ex hx with ⟨kk, m, vs, e2, H, rfl, h1, h2, h3⟩ | ⟨v, H, rfl, h1⟩
      · exact ⟨kk, m, vs, e2, rfl, h1, h2, hfast _ _ _ h3⟩
      · exact .mem h1
    unfold levS at hh
    split at hh
    · exact (OkIn.bad hh).elim
    · rename_i x
      exact ⟨_, rfl, fun y hy => by rw [List.mem_singleton.1 hy]; exact one x hh⟩
    · rename_i l _
      have h := hh
      cases hl : lastL ops X.C l with
      | true =>
        rw [hl] at h
        exact ⟨_, rfl, fun y hy => one y (OkIn.each (unpk X ops X.C fast) h y hy)⟩
      | false =>
        rw [hl] at h
        obtain ⟨l', h1, h2⟩ := levN_cov hn hfast k _ h
        obtain ⟨l0, h3, h4⟩ := dedup_ex h1
        obtain ⟨g1, g2⟩ := met hn h4 h2
        refine ⟨_, rfl, fun y hy => ?_⟩
        rcases unpk_ex (OkIn.each (unpk X ops X.C (levAll X ds ops X.C n)) (L := l0) ⟨l0, h3, fun x hx => hx⟩ y hy) with ⟨kk, m, vs, e2, H, rfl, q1, q2, q3⟩ | ⟨v, H, rfl, q1⟩
        · refine ⟨kk, m, vs, e2, rfl, q1, q2, ?_⟩
          unfold levAll at q3
          split at q3
          · rename_i hc
            split at q3
            · exact (OkIn.bad q3).elim
            · rename_i j js hc2
              rw [← hc2] at q3
              exact lev_good g1 g2 hc (by rw [hc2]; simp) q3
          · exact (OkIn.bad q3).elim
        · exact g2 v H q1
theorem drawN_good {n0 : Nat} : ∀ (n m : Nat) (e : Tr CV) (H : CH), OkIn (drawN X ds ops X.C n0 n m e H K) L → Good X ds ops K L n0 m e H
  | 0, _, _, _, h => (OkIn.bad h).elim
  | n + 1, m, e, H, h => by
    have h : OkIn (drawS X ds ops X.C n0 (drawN X ds ops X.C n0 n) m e H K) L := h
    unfold drawS at h
    cases hc : cands X.C.T (ovsL ops.toList) false m ops.toList 0 with
    | cons i rest =>
      rw [hc] at h
      have hi : i ∈ cands X.C.T (ovsL ops.toList) false m ops.toList 0 := by rw [hc]; exact List.mem_cons_self ..
      obtain ⟨o, v, h1, h2, h3⟩ := pRd_ex (K' := fun e H => natK (Nat.lor m (2 ^ i)) fun m => drawN X ds ops X.C n0 n m e H K) hi h
      simp only [natK_eq] at h3
      exact .rd hi h1 h2 (drawN_good n _ _ _ h3)
    | nil =>
      rw [hc] at h
      simp only at h
      have tree : (cands X.C.T (ovsL ops.toList) true m ops.toList 0 ≠ []) → (∀ j ∈ cands X.C.T (ovsL ops.toList) true m ops.toList 0, OkIn (drawE X ds ops X.C m (drawN X ds ops X.C n0 n) e H K j) L) → Good X ds ops K L n0 m e H := by
        intro hne hj
        refine .ef hc hne (fun j e H => natK (Nat.lor m (2 ^ j)) fun m => drawN X ds ops X.C n0 n m e H K) (fun _ => L) hj (fun _ v H' hm => .mem hm) fun j _ e' H' h' => ?_
        simp only [natK_eq] at h'
        exact drawN_good n _ e' H' h'
      split at h
      · rename_i h2
        exact .fin hc h2 h
      · rename_i j h2
        refine tree (by rw [h2]; simp) fun j' hj' => ?_
        rw [h2] at hj'
        rw [List.mem_singleton.1 hj']
        exact h
      · rename_i h0 h1
        have hne : cands X.C.T (ovsL ops.toList) true m ops.toList 0 ≠ [] := h0
        cases hn : noFn ds with
        | false =>
          rw [hn] at h
          exact tree hne fun j hj => OkIn.each (drawE X ds ops X.C m (drawN X ds ops X.C n0 n) e H K) h j hj
        | true =>
          rw [hn] at h
          simp only [cond_true] at h
          obtain ⟨l, q1, q2⟩ := levN_cov hn (fun m e H h => drawN_good n m e H h) _ _ h
          obtain ⟨l0, q3, q4⟩ := dedup_ex q1
          obtain ⟨g1, g2⟩ := met hn q4 q2
          exact lev_good g1 g2 hc hne ⟨l0, q3, fun x hx => hx⟩
/-- **A region that draws its order.** -/
theorem stays_eq {e : Tr CV} {H : CH} (i : Nat) : stays X.C ops.toList e H i = staysO X.C ops.toList e H (nth ops.toList i) := by
  unfold stays staysO
  cases nth ops.toList i <;> rfl
theorem stayL_eq {e : Tr CV} {H : CH} : ∀ l : List Nat, stayLO X.C ops.toList e H (mapL (nth ops.toList) l) = stayL X.C ops.toList e H l
  | [] => rfl
  | i :: l => by
    show (bif staysO X.C ops.toList e H (nth ops.toList i) then stayLO X.C ops.toList e H (mapL (nth ops.toList) l) else false) = bif stays X.C ops.toList e H i then stayL X.C ops.toList e H l else false
    rw [stayL_eq l, stays_eq]
theorem pRd_eq {e : Tr CV} {H : CH} (i : Nat) (K : KT) : pRdO X ops (nth ops.toList i) e H K = pRd X ops i e H K := by
  unfold pRd pRdO
  cases nth ops.toList i <;> rfl
theorem pEf_eq {e : Tr CV} {H : CH} (j : Nat) (l : List Nat) (K : KT) : pEfO X ds ops (nth ops.toList j) (mapL (nth ops.toList) l) e H K = pEf X ds ops j l e H K := by
  unfold pEf pEfO
  cases nth ops.toList j with
  | none => rfl
  | some o => simp only [stayL_eq]
theorem plRun_eq {n0 : Nat} (K : KT) : ∀ (n m : Nat) (e : Tr CV) (H : CH), plRun X ds ops X.C n0 (plN X.C.T ops.toList n m) e H K = drawN X ds ops X.C n0 n m e H K
  | 0, _, _, _ => rfl
  | n + 1, m, e, H => by
    have e1 : plN X.C.T ops.toList (n + 1) m = (match cands X.C.T (ovsL ops.toList) false m ops.toList 0 with
      | i :: _ => natK (Nat.lor m (2 ^ i)) fun m' => .rd (nth ops.toList i) (plN X.C.T ops.toList n m')
      | [] => (match cands X.C.T (ovsL ops.toList) true m ops.toList 0 with
        | [] => .fin
        | [j] => natK (Nat.lor m (2 ^ j)) fun m' => .ef (nth ops.toList j) (mapL (nth ops.toList) (again X.C.T (ovsL ops.toList) ((nth (masks ops.toList []) j).getD 0) m ops.toList 0)) (plN X.C.T ops.toList n m')
        | _ => .many n m)) := rfl
    have e2 : drawN X ds ops X.C n0 (n + 1) m e H K = drawS X ds ops X.C n0 (drawN X ds ops X.C n0 n) m e H K := rfl
    rw [e1, e2]
    cases hc : cands X.C.T (ovsL ops.toList) false m ops.toList 0 with
    | cons i l =>
      unfold drawS
      rw [hc]
      simp only [natK_eq]
      show pRdO X ops (nth ops.toList i) e H (fun e H => plRun X ds ops X.C n0 (plN X.C.T ops.toList n (Nat.lor m (2 ^ i))) e H K) = _
      rw [pRd_eq]
      simp only [plRun_eq K n]
    | nil =>
      cases he : cands X.C.T (ovsL ops.toList) true m ops.toList 0 with
      | nil =>
        unfold drawS
        rw [hc]
        simp only [he]
        rfl
      | cons j js =>
        cases js with
        | cons _ _ => rfl
        | nil =>
          unfold drawS
          rw [hc]
          simp only [he, natK_eq]
          show pEfO X ds ops (nth ops.toList j) (mapL (nth ops.toList) _) e H (fun e H => plRun X ds ops X.C n0 (plN X.C.T ops.toList n (Nat.lor m (2 ^ j))) e H K) = _
          rw [pEf_eq]
          unfold drawE
          simp only [plRun_eq K n, natK_eq]
theorem drawQ_eq (e : Tr CV) (H : CH) (K : KT) : drawQ X ds ops e H K = drawC X ds ops e H K := by
  unfold drawQ drawC
  cases chkR ops.toList with
  | false => rfl
  | true => exact plRun_eq K _ _ _ _
theorem drawC_ok {ρ : Rho} {H : CH} {w : World} {e : Tr CV} {a : Act} {id : Nat} (hC : CallOk X.C W X.call) (hG : GOk X.C.G W) (hm : X.C.P.follows .mixedOrders = true) (hS : SR W ρ H w) (hE : EvS ρ X.N e ds a (fun _ => False)) (h : OkIn (drawC X ds ops e H K) L)
    (hk : ∀ e' H' a' w' ρ', SR W ρ' H' w' → EvS ρ' X.N e' ds a' (fun _ => False) → OkIn (K e' H') L → Rho.le ρ ρ' → Q .normal a' w') (hp : PanOk X W L ρ Q) : (Code.region id ops true).wpIn (FE rb) 0 X.C.P Q a w := by
  unfold drawC at h
  cases hchk : chkR ops.toList with
  | false => rw [hchk] at h; exact (OkIn.bad h).elim
  | true =>
    rw [hchk] at h
    have h : OkIn (drawN X ds ops X.C H.next (len ops.toList + 1) 0 e H K) L := h
    have hgood := drawN_good _ _ _ _ h
    refine wpIn_region_any hm ?_
    have hl0 : ∀ i, ¬ Lst (Array.replicate ops.size false) i := fun i hi => by
      unfold Lst at hi
      simp [Array.getD_eq_getD_getElem?, Array.getElem?_replicate] at hi
      split at hi <;> simp at hi
    have hI : Inv X.C.T ops (Array.replicate ops.size false) 0 [] := ⟨by simp, fun i => (by simp [hl0 i]), fun i hi => (by cases hi), List.nodup_nil, trivial, fun i o _ hi => absurd hi (hl0 i)⟩
    have hR : Rel X W ds ops ρ H { w with drawn := w.drawn + 1 } e a [] := ⟨hS.drew, ⟨hE.size, fun t x hx _ => hE.slot t x hx (fun h => h), hE.marks⟩, fun i hi => by cases hi⟩
    obtain ⟨m', pend', ρ', e', H', a2, a3, a4, a5⟩ := norm hchk hS.fresh hE.marks hgood ρ [] hI hR (Rho.le.refl _)
    exact any_ok hchk hC hG hS.fresh hE.marks hk hp ops.size _ m' pend' ρ' H' _ e' a a5 a2 a3 a4 (by unfold cnt; simp)
end
end Go.Proofs.YtjhaikcokbmdbaaGreatDoor.Cx
