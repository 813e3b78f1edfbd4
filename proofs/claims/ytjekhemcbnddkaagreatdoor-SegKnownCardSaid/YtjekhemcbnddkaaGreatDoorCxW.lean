/-
  Closed runs: a region in any order.
-/
import Derived.Test.YtjekhemcbnddkaaGreatDoorCxV
namespace Go.Proofs.YtjekhemcbnddkaaGreatDoor.Cx
open Go.RowKit Go.Proofs.YtjekhemcbnddkaaGreatDoor.Ax

section
variable {X : Cx} {rb : Option Nat} {L : List Fin} {W : World} {ds : List Nat} {K : KT} {Q : Exit → Act → World → Prop} {ops : Array Oper}
structure Rel (X : Cx) (W : World) (ds : List Nat) (ops : Array Oper) (ρ : Rho) (H : CH) (w : World) (e : Tr CV) (a : Act) (pend : List Nat) : Prop where
  sr : SR W ρ H w
  ev : EvS ρ X.N e ds a (Sl ops pend)
  ah : ∀ i ∈ pend, Ahead X.C X.N ops e H i
noncomputable abbrev dr (X : Cx) (ds : List Nat) (ops : Array Oper) (n m : Nat) : Tr CV → CH → KT → Ans := drawN X ds ops X.C n m
theorem dr_succ (n m : Nat) (e : Tr CV) (H : CH) (K : KT) : dr X ds ops (n + 1) m e H K = match cands X.C.T (ovsL ops.toList) false m ops.toList 0 with
  | i :: _ => pRd X ops i e H fun e H => dr X ds ops n (m ||| 2 ^ i) e H K
  | [] => (match cands X.C.T (ovsL ops.toList) true m ops.toList 0 with
    | [] => K e H
    | [j] => drawE X ds ops X.C m (drawN X ds ops X.C n) e H K j
    | js => List.rec (motive := fun _ => Ans) (.ok []) (fun j _ r => Ans.app (drawE X ds ops X.C m (drawN X ds ops X.C n) e H K j) r) js) := by
  show drawS X ds ops X.C (drawN X ds ops X.C n) m e H K = _
  unfold drawS
  simp only [natK_eq]
  rfl
theorem testBit_add {m i j : Nat} : (m ||| 2 ^ i).testBit j = true ↔ m.testBit j = true ∨ j = i := by
  rw [Nat.testBit_or, Bool.or_eq_true, Nat.testBit_two_pow, decide_eq_true_eq]
  exact or_congr Iff.rfl eq_comm
/-- What can be read is read. -/
theorem advance (hchk : chkR ops.toList = true) {l : Array Bool} {ρ : Rho} {H : CH} {w : World} {a : Act} : ∀ (n m : Nat) (pend : List Nat) (e : Tr CV), Inv X.C.T ops l m pend → Rel X W ds ops ρ H w e a pend → OkIn (dr X ds ops n m e H K) L →
    ∃ n' m' pend' e', cands X.C.T (ovsL ops.toList) false m' ops.toList 0 = [] ∧ Inv X.C.T ops l m' pend' ∧ Rel X W ds ops ρ H w e' a pend' ∧ OkIn (dr X ds ops n' m' e' H K) L
  | 0, _, _, _, _, _, h => (OkIn.bad h).elim
  | n + 1, m, pend, e, hI, hR, h => by
    cases hc : cands X.C.T (ovsL ops.toList) false m ops.toList 0 with
    | nil => exact ⟨n + 1, m, pend, e, hc, hI, hR, h⟩
    | cons i rest =>
      rw [dr_succ, hc] at h
      have h : OkIn (pRd X ops i e H fun e H => dr X ds ops n (m ||| 2 ^ i) e H K) L := h
      obtain ⟨k, o, ho, hik, hbit, heff, hrdy⟩ := (cands_spec X.C.T (ovsL ops.toList) false m ops.toList 0 i).1 (by rw [hc]; exact List.mem_cons_self ..)
      rw [Nat.zero_add] at hik
      subst hik
      have ho' : ops[i]? = some o := by simpa using ho
      have hedge := rdy_spec hrdy
      unfold pRd at h
      rw [nth_eq, ho] at h
      simp only at h
      cases hv : readS X.C ops.toList o e H with
      | none => rw [hv] at h; exact (OkIn.bad h).elim
      | some v =>
        rw [hv] at h
        simp only [CV.fK_eq, putK_eq] at h
        have hnl : ¬ Lst l i := fun hl => by rw [(hI.split i).2 (.inl hl)] at hbit; cases hbit
        have hnp : i ∉ pend := fun hl => by rw [(hI.split i).2 (.inr hl)] at hbit; cases hbit
        have hself : ∀ t ∈ looksL ops.toList o, o.dst ≠ some t := fun t ht hd => by
          obtain ⟨ed, h1, h2, h3⟩ := ((chkR_spec (T := X.C.T) hchk ho' ho' hd).1 ht).resolve_right fun h => (by rw [heff] at h; cases h.1)
          have := hedge ed h1 h2
          rw [h3, hbit] at this
          cases this
        refine advance hchk n (m ||| 2 ^ i) (i :: pend) (putd X.N e o.dst v) ⟨hI.size, fun j => ?_, fun j hj => ?_, List.nodup_cons.2 ⟨hnp, hI.nodup⟩, ⟨fun o2 ho2 ed hed hb => ?_, hI.order⟩, hI.down⟩ ⟨hR.sr, ⟨hR.ev.size, fun t x hx hs => ?_, hR.ev.marks⟩, fun j hj => ?_⟩ h
        · rw [testBit_add, hI.split j, List.mem_cons, or_assoc, or_comm (a := j ∈ pend)]
        · rcases List.mem_cons.1 hj with rfl | hj
          · exact ⟨⟨o, ho', heff⟩, hnl⟩
          · exact hI.pd j hj
        · rw [ho'] at ho2
          injection ho2 with ho2
          subst ho2
          exact (hI.split _).1 (hedge ed hed hb)
        · rw [get_putd] at hx
          split at hx
          · rename_i hd
            exact absurd ⟨i, List.mem_cons_self .., o, ho', hd.1⟩ hs
          · exact hR.ev.slot t x hx fun ⟨j, hj, o2, h1, h2⟩ => hs ⟨j, List.mem_cons_of_mem _ hj, o2, h1, h2⟩
        · intro o2 ho2
          rcases List.mem_cons.1 hj with rfl | hj
          · rw [ho'] at ho2
            injection ho2 with ho2
            subst ho2
            refine ⟨v, ?_, fun t ht => ?_⟩
            · rw [← hv]
              refine (readS_congr (fun t ht => ?_) (.inl rfl)).symm
              rw [get_putd, if_neg fun h => hself t ht h.1]
            · rw [get_putd]
              by_cases hN : t < X.N
              · rw [if_pos ⟨ht, hN⟩]; exact .inl ⟨hN, rfl⟩
              · rw [if_neg fun h => hN h.2]
                cases hx : e.get t with
                | none => exact .inr rfl
                | some x =>
                  exact absurd (hR.ev.slot t x hx fun ⟨j2, hj2, o3, h1, h2⟩ => (chkR_spec (T := X.C.T) hchk h1 ho' ht).2 (fun e => hnp (e ▸ hj2)) h2).1 hN
          · obtain ⟨v2, g1, g2⟩ := hR.ah j hj o2 ho2
            have hne : i ≠ j := fun e => hnp (e ▸ hj)
            refine ⟨v2, ?_, fun t ht => ?_⟩
            · rw [← g1]
              refine (readS_congr (fun t ht => ?_) (.inl rfl)).symm
              rw [get_putd, if_neg]
              rintro ⟨hd, _⟩
              obtain ⟨ed, h1, h2, h3⟩ := ((chkR_spec (T := X.C.T) hchk ho2 ho' hd).1 ht).resolve_right fun h => (by rw [heff] at h; cases h.1)
              rcases hI.order.edge j hj o2 ho2 ed h1 h2 with h4 | h4
              · rw [h3] at h4; exact hnl h4
              · rw [h3] at h4; exact hnp h4
            · rw [get_putd, if_neg]
              · exact g2 t ht
              · rintro ⟨hd, _⟩
                exact (chkR_spec (T := X.C.T) hchk ho' ho2 ht).2 hne hd
/-- The region is through. -/
theorem any_done {l : Array Bool} {ρ : Rho} {H : CH} {w : World} {a : Act} {n m : Nat} {pend : List Nat} {e : Tr CV} (hb : cands X.C.T (ovsL ops.toList) false m ops.toList 0 = []) (hI : Inv X.C.T ops l m pend) (hR : Rel X W ds ops ρ H w e a pend) (h : OkIn (dr X ds ops n m e H K) L)
    (hr : Region.ready .any ops l = []) (hk : ∀ e' H' a' w' ρ', SR W ρ' H' w' → EvS ρ' X.N e' ds a' (fun _ => False) → OkIn (K e' H') L → Rho.le ρ ρ' → Q .normal a' w') : Q .normal a w := by
  have noready : ∀ i, i ∉ Region.ready .any ops l := fun i hi => by rw [hr] at hi; cases hi
  have hpend : pend = [] := by
    refine Classical.byContradiction fun hne => ?_
    obtain ⟨i, hi, hed⟩ := hI.order.first hne
    obtain ⟨⟨o, ho, _⟩, hnl⟩ := hI.pd i hi
    exact noready i ((ready_iff hI.size).2 ⟨hnl, o, ho, hed o ho⟩)
  subst hpend
  cases n with
  | zero => exact (OkIn.bad h).elim
  | succ n =>
    rw [dr_succ, hb] at h
    simp only at h
    cases hc : cands X.C.T (ovsL ops.toList) true m ops.toList 0 with
    | nil =>
      rw [hc] at h
      exact hk e H a w ρ hR.sr ⟨hR.ev.size, fun t x hx _ => hR.ev.slot t x hx fun ⟨i, hi, _⟩ => (by cases hi), hR.ev.marks⟩ h (Rho.le.refl _)
    | cons j rest =>
      obtain ⟨k, o, ho, hjk, hbit, heff, hrdy⟩ := (cands_spec X.C.T (ovsL ops.toList) true m ops.toList 0 j).1 (by rw [hc]; exact List.mem_cons_self ..)
      rw [Nat.zero_add] at hjk
      subst hjk
      have hnl : ¬ Lst l j := fun hl => by rw [(hI.split j).2 (.inl hl)] at hbit; cases hbit
      exact absurd ((ready_iff hI.size).2 ⟨hnl, o, by simpa using ho, fun ed hed hbd => ((hI.split _).1 (rdy_spec hrdy ed hed hbd)).resolve_right (by simp)⟩) (noready j)
def cnt (l : Array Bool) : Nat := l.toList.countP (· == true)
theorem cnt_set : ∀ {l : List Bool} {i : Nat}, l[i]? = some false → (l.set i true).countP (· == true) = l.countP (· == true) + 1
  | [], _, h => by simp at h
  | b :: l, 0, h => by
    have : b = false := by simpa using h
    subst this
    simp
  | b :: l, i + 1, h => by
    have := cnt_set (l := l) (i := i) (by simpa using h)
    simp only [List.set_cons_succ, List.countP_cons, this]
    omega
theorem cnt_full {l : List Bool} (h : l.countP (· == true) = l.length) : ∀ b ∈ l, b = true := by
  have := List.countP_eq_length.1 h
  intro b hb
  simpa using this b hb
theorem any_ok (hchk : chkR ops.toList = true) (hC : CallOk X.C W X.call) (hG : GOk X.C.G W) : ∀ (fuel : Nat) (l : Array Bool) (m n : Nat) (pend : List Nat) (ρ : Rho) (H : CH) (w : World) (e : Tr CV) (a : Act),
    cands X.C.T (ovsL ops.toList) false m ops.toList 0 = [] → Inv X.C.T ops l m pend → Rel X W ds ops ρ H w e a pend → cnt l + fuel = ops.size → OkIn (dr X ds ops n m e H K) L →
    (∀ e' H' a' w' ρ', SR W ρ' H' w' → EvS ρ' X.N e' ds a' (fun _ => False) → OkIn (K e' H') L → Rho.le ρ ρ' → Q .normal a' w') → PanOk X W L ρ Q → wpAnyIn (FE rb) 0 X.C.P .any ops Q fuel l a w := by
  intro fuel
  induction fuel with
  | zero =>
    intro l m n pend ρ H w e a hb hI hR hcnt h hk hp
    have hr : Region.ready .any ops l = [] := by
      refine List.eq_nil_iff_forall_not_mem.2 fun i hi => ?_
      obtain ⟨h1, o, h2, _⟩ := (ready_iff hI.size).1 hi
      have hlt : i < l.size := by rw [hI.size]; exact (Array.getElem?_eq_some_iff.1 h2).1
      have hfull := cnt_full (l := l.toList) (by have := hI.size; unfold cnt at hcnt; rw [Array.length_toList]; omega) l[i] (by simp)
      exact h1 (by unfold Lst; simp [Array.getD_eq_getD_getElem?, hlt, hfull])
    exact ⟨hr, any_done hb hI hR h hr hk⟩
  | succ fuel ih =>
    intro l m n pend ρ H w e a hb hI hR hcnt h hk hp
    refine ⟨fun hr => any_done hb hI hR h hr hk, fun i hi => ?_⟩
    obtain ⟨hnl, o, ho, hedge⟩ := (ready_iff hI.size).1 hi
    have hlt : i < l.size := by rw [hI.size]; exact (Array.getElem?_eq_some_iff.1 ho).1
    have hcnt' : cnt (l.setIfInBounds i true) + fuel = ops.size := by
      have hf : l.toList[i]? = some false := by
        have : l[i]? = some l[i] := Array.getElem?_eq_getElem hlt
        unfold Lst at hnl
        simp [Array.getD_eq_getD_getElem?, hlt] at hnl
        simp [hlt, hnl]
      have := cnt_set hf
      unfold cnt at hcnt ⊢
      rw [Array.toList_setIfInBounds, this]
      omega
    have hlst : ∀ k, Lst l k → Lst (l.setIfInBounds i true) k := fun k hk => lst_set.2 (.inl hk)
    have hlsti : Lst (l.setIfInBounds i true) i := lst_set.2 (.inr ⟨rfl, hlt⟩)
    have hdown : ∀ k o', ops[k]? = some o' → Lst (l.setIfInBounds i true) k → ∀ ed ∈ o'.after, Region.binds .any ed = true → Lst (l.setIfInBounds i true) ed.on := fun k o' ho' hk ed hed hbd => by
      rcases lst_set.1 hk with hk | ⟨rfl, _⟩
      · exact hlst _ (hI.down k o' ho' hk ed hed hbd)
      · rw [ho] at ho'
        injection ho' with ho'
        subst ho'
        exact hlst _ (hedge ed hed hbd)
    have hlook : ∀ t ∈ looksL ops.toList o, ¬ Sl ops pend t := fun t ht ⟨k, hkp, ok, h1, h2⟩ => by
      obtain ⟨⟨ok', hok', hek⟩, _⟩ := hI.pd k hkp
      rw [h1] at hok'
      injection hok' with hok'
      subst hok'
      obtain ⟨ed, g1, g2, g3⟩ := ((chkR_spec (T := X.C.T) hchk ho h1 h2).1 ht).resolve_right fun h => (by rw [hek] at h; cases h.1)
      have := hedge ed g1 g2
      rw [g3] at this
      exact (hI.pd k hkp).2 this
    unfold wpOpIn
    simp only [ho]
    by_cases hpi : i ∈ pend
    · -- done ahead
      obtain ⟨v, hv, hslot⟩ := hR.ah i hpi o ho
      refine read_ok hG hR.sr hR.ev o hlook hv fun ρ' u w' hle hS' hvu => ?_
      refine ih (l.setIfInBounds i true) m n (pend.erase i) ρ' H w' e (a.put o.dst u) hb ⟨by simpa using hI.size, fun j => ?_, fun j hj => ?_, hI.nodup.erase i, hI.order.erase hlst hlsti, hdown⟩ ⟨hS', ⟨(put_size ..).trans hR.ev.size, fun t x hx hs => ?_, by rw [put_defers]; exact hR.ev.marks.mono hle⟩, fun j hj => hR.ah j (List.mem_of_mem_erase hj)⟩ hcnt' h (fun e' H' a' w'' r g1 g2 g3 g4 => hk e' H' a' w'' r g1 g2 g3 (hle.trans g4)) (hp.mono hle)
      · rw [hI.split j, lst_set, hI.nodup.mem_erase_iff]
        by_cases e : j = i
        · subst e; exact ⟨fun _ => .inl (.inr ⟨rfl, hlt⟩), fun _ => .inr hpi⟩
        · simp [e]
      · obtain ⟨hj1, hj2⟩ := hI.nodup.mem_erase_iff.1 hj
        exact ⟨(hI.pd j hj2).1, fun hl => (lst_set.1 hl).elim (hI.pd j hj2).2 fun h => hj1 h.1⟩
      · rw [put_getD, hR.ev.size]
        by_cases hd : o.dst = some t
        · rcases hslot t hd with ⟨h1, h2⟩ | h2
          · rw [h2] at hx
            injection hx with hx
            subst hx
            rw [if_pos ⟨hd, h1⟩]
            exact ⟨h1, hvu⟩
          · rw [h2] at hx; cases hx
        · rw [if_neg fun h => hd h.1]
          refine (hR.ev.mono hle).slot t x hx fun ⟨k, hkp, ok, h1, h2⟩ => hs ⟨k, ?_, ok, h1, h2⟩
          refine hI.nodup.mem_erase_iff.2 ⟨fun e => ?_, hkp⟩
          subst e
          rw [ho] at h1
          injection h1 with h1
          subst h1
          exact hd h2
    · -- the next effect
      have hbit : m.testBit i = false := by
        cases hbt : m.testBit i with
        | false => rfl
        | true => exact (((hI.split i).1 hbt).elim hnl hpi).elim
      have hrdy : rdy o m = true := rdy_of fun ed hed hbd => (hI.split _).2 (.inl (hedge ed hed hbd))
      have heff : isE X.C.T (ovsL ops.toList) o = true := by
        cases he : isE X.C.T (ovsL ops.toList) o with
        | true => rfl
        | false =>
          have : i ∈ cands X.C.T (ovsL ops.toList) false m ops.toList 0 := (cands_spec ..).2 ⟨i, o, by simpa using ho, by omega, hbit, he, hrdy⟩
          rw [hb] at this
          cases this
      have hci : i ∈ cands X.C.T (ovsL ops.toList) true m ops.toList 0 := (cands_spec ..).2 ⟨i, o, by simpa using ho, by omega, hbit, heff, hrdy⟩
      cases n with
      | zero => exact (OkIn.bad h).elim
      | succ n =>
        have h : OkIn (drawE X ds ops X.C m (drawN X ds ops X.C n) e H K i) L := by
          rw [dr_succ, hb] at h
          simp only at h
          split at h
          · rename_i hc
            rw [hc] at hci
            cases hci
          · rename_i j hc
            rw [hc] at hci
            have : i = j := List.mem_singleton.1 hci
            subst this
            exact h
          · exact OkIn.each (fun j => drawE X ds ops X.C m (drawN X ds ops X.C n) e H K j) h i hci
        unfold drawE at h
        simp only [natK_eq] at h
        have h : OkIn (pEf X ds ops i (again X.C.T (ovsL ops.toList) ((nth (masks ops.toList []) i).getD 0) m ops.toList 0) e H fun e H => dr X ds ops n (m ||| 2 ^ i) e H K) L := h
        unfold pEf at h
        rw [nth_eq] at h
        simp only [Array.getElem?_toList, ho] at h
        refine stepO_ok hC hG hR.sr hR.ev o hlook h (fun v H' ρ' u w' hk' hle hS' hvu => ?_) hp
        cases hst : stayL X.C ops.toList (putd X.N e o.dst v) H' (again X.C.T (ovsL ops.toList) ((nth (masks ops.toList []) i).getD 0) m ops.toList 0) with
        | false => rw [hst] at hk'; exact (OkIn.bad hk').elim
        | true =>
          rw [hst] at hk'
          have hk' : OkIn (dr X ds ops n (m ||| 2 ^ i) (putd X.N e o.dst v) H' K) L := hk'
          have hstay : ∀ k ∈ again X.C.T (ovsL ops.toList) ((nth (masks ops.toList []) i).getD 0) m ops.toList 0, stays X.C ops.toList (putd X.N e o.dst v) H' k = true := by
            generalize again X.C.T (ovsL ops.toList) ((nth (masks ops.toList []) i).getD 0) m ops.toList 0 = ag at hst
            induction ag with
            | nil => intro k hk; cases hk
            | cons y ys ihy =>
              have hst : (bif stays X.C ops.toList (putd X.N e o.dst v) H' y then stayL X.C ops.toList (putd X.N e o.dst v) H' ys else false) = true := hst
              cases hy : stays X.C ops.toList (putd X.N e o.dst v) H' y with
              | false => rw [hy] at hst; cases hst
              | true =>
                rw [hy] at hst
                intro k hk
                rcases List.mem_cons.1 hk with rfl | hk
                · exact hy
                · exact ihy hst k hk
          have hI' : Inv X.C.T ops (l.setIfInBounds i true) (m ||| 2 ^ i) pend := by
            refine ⟨by simpa using hI.size, fun j => ?_, fun j hj => ⟨(hI.pd j hj).1, fun hl => (lst_set.1 hl).elim (hI.pd j hj).2 fun h => hpi (h.1 ▸ hj)⟩, hI.nodup, hI.order.mono hlst, hdown⟩
            rw [testBit_add, hI.split j, lst_set]
            by_cases e : j = i
            · subst e; simp [hlt]
            · simp [e]
          have hR' : Rel X W ds ops ρ' H' w' (putd X.N e o.dst v) (a.put o.dst u) pend := by
            refine ⟨hS', hR.ev.put hle _ hvu, fun k hkp ok hok => ?_⟩
            obtain ⟨v0, g1, g2⟩ := hR.ah k hkp ok hok
            have hne : i ≠ k := fun e => hpi (e ▸ hkp)
            have hsl : ∀ t, ok.dst = some t → (putd X.N e o.dst v).get t = e.get t := fun t ht => by
              rw [get_putd, if_neg]
              rintro ⟨hd, _⟩
              exact (chkR_spec (T := X.C.T) hchk ho hok ht).2 hne hd
            have hbk : m.testBit k = true := (hI.split k).2 (.inr hkp)
            obtain ⟨⟨ok', hok', heffk⟩, hnlk⟩ := hI.pd k hkp
            rw [hok] at hok'
            injection hok' with hok'
            subst hok'
            have hlookk : ∀ t ∈ looksL ops.toList ok, e.get t = (putd X.N e o.dst v).get t := fun t ht => by
              rw [get_putd, if_neg]
              rintro ⟨hd, _⟩
              have hmask : ∀ k, ((nth (masks ops.toList []) i).getD 0).testBit k = true → Lst l k := mask_ok (D := Lst l) (fun j oj hj hl ed hed hbd => hI.down j oj (by simpa using hj) hl ed hed hbd) (by simpa using ho) hedge
              obtain ⟨ed, q1, q2, q3⟩ := ((chkR_spec (T := X.C.T) hchk hok ho hd).1 ht).resolve_right fun h => hnlk (hmask k h.2)
              rcases hI.order.edge k hkp ok hok ed q1 q2 with h4 | h4
              · rw [q3] at h4; exact hnl h4
              · rw [q3] at h4; exact hpi h4
            cases hrd : isRd X.C.T ok.op with
            | false =>
              refine ⟨v0, ?_, fun t ht => by rw [hsl t ht]; exact g2 t ht⟩
              rw [← g1]
              exact (readS_congr hlookk (.inr ⟨(Bool.or_eq_false_iff.1 heffk).1, hrd⟩)).symm
            | true =>
              have hmk : ((nth (masks ops.toList []) i).getD 0).testBit k = false := by
                cases hm : ((nth (masks ops.toList []) i).getD 0).testBit k with
                | false => rfl
                | true => exact absurd (mask_ok (D := Lst l) (fun j oj hj hl ed hed hbd => hI.down j oj (by simpa using hj) hl ed hed hbd) (by simpa using ho) hedge k hm) hnlk
              have hag := again_spec X.C.T (ovsL ops.toList) ((nth (masks ops.toList []) i).getD 0) m ops.toList 0 k ok (by simpa using hok) (by rw [Nat.zero_add]; exact hbk) hrd heffk (by rw [Nat.zero_add]; exact hmk)
              rw [Nat.zero_add] at hag
              have hs := hstay k hag
              unfold stays at hs
              rw [nth_eq] at hs
              simp only [Array.getElem?_toList, hok] at hs
              cases hrs : readS X.C ops.toList ok (putd X.N e o.dst v) H' with
              | none => rw [hrs] at hs; cases hs
              | some v1 =>
                refine ⟨v1, rfl, fun t ht => ?_⟩
                rw [hrs, ht] at hs
                simp only at hs
                rw [hsl t ht] at hs ⊢
                rcases g2 t ht with ⟨q1, q2⟩ | q2
                · rw [q2] at hs ⊢
                  rw [ceq_spec hs]
                  exact .inl ⟨q1, rfl⟩
                · rw [q2] at hs; cases hs
          obtain ⟨n', m', pend', e', a1, a2, a3, a4⟩ := advance hchk n (m ||| 2 ^ i) pend (putd X.N e o.dst v) hI' hR' hk'
          exact ih (l.setIfInBounds i true) m' n' pend' ρ' H' w' e' (a.put o.dst u) a1 a2 a3 hcnt' a4 (fun e'' H'' a'' w'' r k1 k2 k3 k4 => hk e'' H'' a'' w'' r k1 k2 k3 (hle.trans k4)) (hp.mono hle)
/-- **A region that draws its order.** -/
theorem drawC_ok {ρ : Rho} {H : CH} {w : World} {e : Tr CV} {a : Act} {id : Nat} (hC : CallOk X.C W X.call) (hG : GOk X.C.G W) (hm : X.C.P.follows .mixedOrders = true) (hS : SR W ρ H w) (hE : EvS ρ X.N e ds a (fun _ => False)) (h : OkIn (drawC X ds ops e H K) L)
    (hk : ∀ e' H' a' w' ρ', SR W ρ' H' w' → EvS ρ' X.N e' ds a' (fun _ => False) → OkIn (K e' H') L → Rho.le ρ ρ' → Q .normal a' w') (hp : PanOk X W L ρ Q) : (Code.region id ops true).wpIn (FE rb) 0 X.C.P Q a w := by
  unfold drawC at h
  cases hchk : chkR ops.toList with
  | false => rw [hchk] at h; exact (OkIn.bad h).elim
  | true =>
    rw [hchk] at h
    have h : OkIn (dr X ds ops (len ops.toList + 1) 0 e H K) L := h
    refine wpIn_region_any hm ?_
    have hl0 : ∀ i, ¬ Lst (Array.replicate ops.size false) i := fun i hi => by
      unfold Lst at hi
      simp [Array.getD_eq_getD_getElem?, Array.getElem?_replicate] at hi
      split at hi <;> simp at hi
    have hI : Inv X.C.T ops (Array.replicate ops.size false) 0 [] := ⟨by simp, fun i => (by simp [hl0 i]), fun i hi => (by cases hi), List.nodup_nil, trivial, fun i o _ hi => absurd hi (hl0 i)⟩
    have hR : Rel X W ds ops ρ H { w with drawn := w.drawn + 1 } e a [] := ⟨hS.drew, ⟨hE.size, fun t x hx _ => hE.slot t x hx (fun h => h), hE.marks⟩, fun i hi => by cases hi⟩
    obtain ⟨n', m', pend', e', a1, a2, a3, a4⟩ := advance hchk _ _ _ _ hI hR h
    exact any_ok hchk hC hG ops.size _ m' n' pend' ρ H _ e' a a1 a2 a3 (by unfold cnt; simp) a4 hk hp
end
end Go.Proofs.YtjekhemcbnddkaaGreatDoor.Cx
