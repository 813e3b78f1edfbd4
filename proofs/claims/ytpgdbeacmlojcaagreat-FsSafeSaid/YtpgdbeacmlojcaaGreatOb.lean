/-
  Objects without number: each at a block of its own, all of them one chunk.
-/
import Derived.Test.YtpgdbeacmlojcaaGreatBxZb
namespace Go.Proofs.YtpgdbeacmlojcaaGreat.Ax
open Go.RowKit

section
variable {X : Type} {F : X → AH} {ρ : Rho} {ι : Imm} {H : AH} {w : World}
/-- Objects of one kind (block, object), each at its block. -/
def Objs (F : X → AH) (l : List (Nat × X)) : SemP where
  R ι hv w := ∃ A : Nat → HV, (l.map fun p : Nat × X => p.1).Nodup ∧ (∀ p ∈ l, (A p.1).blk = some p.1 ∧ (A p.1).foot p.1 ∧ (Nest (F p.2)).R ι (A p.1) w ∧ ∀ k, (A p.1).foot k → hv.foot k) ∧
    ∀ p ∈ l, ∀ q ∈ l, p.1 ≠ q.1 → ∀ k, (A p.1).foot k → ¬ (A q.1).foot k
  loc ι ι' _ w w' hι hk := fun ⟨A, h1, h2, h3⟩ => ⟨A, h1, fun p hp => let ⟨a, b, c, d⟩ := h2 p hp; ⟨a, b, (Nest (F p.2)).loc ι ι' _ w w' hι (fun k hf => hk k (d k hf)) c, d⟩, h3⟩
/-- A pointer, as data. -/
@[reducible] def ptrV (b : Nat) : AV := .iv (.v (.pointer (some ⟨b, 0, none⟩)))
def ldel (l : List (Nat × X)) (b : Nat) : List (Nat × X) := l.filter fun p => decide (p.1 ≠ b)
theorem mem_ldel {l : List (Nat × X)} {b : Nat} {p : Nat × X} : p ∈ ldel l b ↔ p ∈ l ∧ p.1 ≠ b := by simp [ldel]
/-- An object's own cells are at its block. -/
def Root (F : X → AH) : Prop := ∀ x, ∃ e cs, (0, Chunk.cells e cs) ∈ (F x).ch
theorem Root.foot (hF : Root F) {x : X} {hv : HV} (h : (Nest (F x)).R ι hv w) : ∃ b, hv.blk = some b ∧ hv.foot b := by
  obtain ⟨ρ0, hv0, h1, h2, h3, h4, h5, _⟩ := h
  obtain ⟨e, cs, hm⟩ := hF x
  obtain ⟨hu, g1, b, vs, g2, g3, _⟩ := h5 _ hm
  have g1 : ρ0 0 = some hu := g1
  rw [h1] at g1
  injection g1 with g1
  subst g1
  exact ⟨b, by rw [← h2]; exact g2, (h4 b).2 ⟨_, hm, hv0, h1, (g3 b).2 rfl⟩⟩
/-- One of the objects stands under a handle of its own. -/
theorem SR.expose (hS : SR ρ ι H w) {r b : Nat} {l : List (Nat × X)} {x : X} (hr : H.get r = some (.sem (Objs F l))) (hb : (b, x) ∈ l) :
    ∃ ρ', SR ρ' ι ((H.set r (.sem (Objs F (ldel l b)))).add (.sem (Nest (F x)))) w ∧ Went ρ ι H w ρ' ι ((H.set r (.sem (Objs F (ldel l b)))).add (.sem (Nest (F x)))) w ∧ ∃ hv, ρ' H.next = some hv ∧ hv.blk = some b := by
  obtain ⟨hv, hh, A, a1, a2, a3⟩ := hS.hv hr
  have hm := AH.get_mem hr
  obtain ⟨b1, b2, b3, b4⟩ := a2 _ hb
  have hne := hS.key_ne
  have hrn : r ≠ H.next := hne _ hm
  let hv1 : HV := ⟨hv.blk, hv.room, fun k => ∃ p ∈ ldel l b, (A p.1).foot k⟩
  let ρ' : Rho := fun k => if k = r then some hv1 else if k = H.next then some (A b) else ρ k
  have vr : ρ' r = some hv1 := by simp only [ρ', if_true]
  have vn : ρ' H.next = some (A b) := by simp only [ρ', if_neg (Ne.symm hrn), if_true]
  have vo : ∀ k, k ≠ r → k ≠ H.next → ρ' k = ρ k := fun k h1 h2 => by simp only [ρ', if_neg h1, if_neg h2]
  have hle : Rho.le ρ ρ' := fun k hu hk => by
    by_cases g : k = r
    · subst g
      rw [hh] at hk
      injection hk with hk
      subst hk
      exact ⟨hv1, vr, rfl, rfl⟩
    · by_cases g2 : k = H.next
      · subst g2
        rw [hS.fresh _ (Nat.le_refl _)] at hk
        cases hk
      · exact ⟨hu, (vo k g g2).trans hk, rfl, rfl⟩
  have f1 : ∀ k, hv1.foot k → hv.foot k := fun k ⟨p, hp, hk⟩ => (a2 p (mem_ldel.1 hp).1).2.2.2 k hk
  have f2 : ∀ k, hv1.foot k → ¬ (A b).foot k := fun k ⟨p, hp, hk⟩ => a3 p (mem_ldel.1 hp).1 _ hb (mem_ldel.1 hp).2 k hk
  have mem : ∀ p ∈ ((H.set r (.sem (Objs F (ldel l b)))).add (.sem (Nest (F x)))).ch, (p = (H.next, .sem (Nest (F x))) ∧ ρ' p.1 = some (A b)) ∨ (p = (r, .sem (Objs F (ldel l b))) ∧ ρ' p.1 = some hv1) ∨ (p ∈ H.ch ∧ p.1 ≠ r ∧ p.1 ≠ H.next ∧ ρ' p.1 = ρ p.1) := fun p hp => by
    rcases AH.mem_add hp with e | hp
    · subst e; exact .inl ⟨rfl, vn⟩
    · rcases AH.mem_set' hS.nodup p hp with ⟨h1, h2⟩ | e
      · exact .inr (.inr ⟨h1, h2, hne p h1, vo _ h2 (hne p h1)⟩)
      · subst e; exact .inr (.inl ⟨rfl, vr⟩)
  -- what belongs to whom
  have own : ∀ p ∈ ((H.set r (.sem (Objs F (ldel l b)))).add (.sem (Nest (F x)))).ch, ∀ u, ρ' p.1 = some u → ∀ k, u.foot k → ∃ q ∈ H.ch, ∃ u', ρ q.1 = some u' ∧ u'.foot k := fun p hp u hu k hk => by
    rcases mem p hp with ⟨rfl, e⟩ | ⟨rfl, e⟩ | ⟨h1, _, _, e⟩
    · rw [e] at hu; injection hu with hu; subst hu; exact ⟨_, hm, hv, hh, b4 k hk⟩
    · rw [e] at hu; injection hu with hu; subst hu; exact ⟨_, hm, hv, hh, f1 k hk⟩
    · exact ⟨p, h1, u, e ▸ hu, hk⟩
  refine ⟨ρ', ⟨hS.imm, hS.one, fun p hp => ?_, fun k hk => ?_, ?_, fun p hp q hq hpq u v hu hv' k hk hk2 => ?_, fun p hp u hu k o v hk => ?_, fun p hp u hu k hk => ?_⟩,
    ⟨Touch.refl _ _, fun k ⟨p, hp, u, hu, hk⟩ => .inl (own p hp u hu k hk), Imm.le.refl _, fun _ _ _ h => .inl h, hle⟩, A b, vn, b1⟩
  · rcases mem p hp with ⟨rfl, e⟩ | ⟨rfl, e⟩ | ⟨h1, _, _, e⟩
    · exact ⟨_, e, b3⟩
    · refine ⟨_, e, A, ?_, fun p hp => ?_, fun p hp q hq => a3 p (mem_ldel.1 hp).1 q (mem_ldel.1 hq).1⟩
      · exact (List.Sublist.map _ (List.filter_sublist ..)).nodup a1
      · obtain ⟨c1, c2, c3, c4⟩ := a2 p (mem_ldel.1 hp).1
        exact ⟨c1, c2, c3, fun k hk => ⟨p, hp, hk⟩⟩
    · obtain ⟨u, hu, hR⟩ := hS.rel p h1
      exact ⟨u, e.trans hu, hR.keep hle (Imm.le.refl _) fun _ _ => rfl⟩
  · have hk : H.next + 1 ≤ k := hk
    have h1 : k ≠ r := fun e => by
      subst e
      rw [hS.fresh _ (by omega)] at hh
      cases hh
    rw [vo k h1 (by omega)]
    exact hS.fresh k (by omega)
  · refine AH.nodup_add (by rw [AH.keys_set]; exact hS.nodup) fun p hp => ?_
    rcases AH.mem_set' hS.nodup p hp with ⟨h1, _⟩ | e
    · exact hne p h1
    · subst e; exact hrn
  · rcases mem p hp with ⟨rfl, e⟩ | ⟨rfl, e⟩ | ⟨h1, n1, _, e⟩ <;> rcases mem q hq with ⟨rfl, e'⟩ | ⟨rfl, e'⟩ | ⟨h2, n2, _, e'⟩
    · exact hpq rfl
    · rw [e] at hu; rw [e'] at hv'; injection hu with hu; injection hv' with hv'; subst hu hv'; exact f2 k hk2 hk
    · rw [e] at hu; injection hu with hu; subst hu; exact hS.apart _ hm q h2 (Ne.symm n2) hv v hh (e' ▸ hv') k (b4 k hk) hk2
    · rw [e] at hu; rw [e'] at hv'; injection hu with hu; injection hv' with hv'; subst hu hv'; exact f2 k hk hk2
    · exact hpq rfl
    · rw [e] at hu; injection hu with hu; subst hu; exact hS.apart _ hm q h2 (Ne.symm n2) hv v hh (e' ▸ hv') k (f1 k hk) hk2
    · rw [e'] at hv'; injection hv' with hv'; subst hv'; exact hS.apart p h1 _ hm n1 u hv (e ▸ hu) hh k hk (b4 k hk2)
    · rw [e'] at hv'; injection hv' with hv'; subst hv'; exact hS.apart p h1 _ hm n1 u hv (e ▸ hu) hh k hk (f1 k hk2)
    · exact hS.apart p h1 q h2 hpq u v (e ▸ hu) (e' ▸ hv') k hk hk2
  · obtain ⟨q, hq, u', g1, g2⟩ := own p hp u hu k hk
    exact hS.iapart q hq u' g1 k o v g2
  · obtain ⟨q, hq, u', g1, g2⟩ := own p hp u hu k hk
    exact hS.lt q hq u' g1 k g2
/-- An object that stands under a handle of its own goes to the others. -/
theorem SR.absorb (hF : Root F) (hS : SR ρ ι H w) {r n : Nat} {l : List (Nat × X)} {x : X} (hr : H.get r = some (.sem (Objs F l))) (hn : H.get n = some (.sem (Nest (F x)))) (hrn : r ≠ n) :
    ∃ b hu, ρ n = some hu ∧ hu.blk = some b ∧ b ∉ l.map (fun p : Nat × X => p.1) ∧ ∀ l', l'.Perm ((b, x) :: l) → ∃ ρ', SR ρ' ι ((H.del n).set r (.sem (Objs F l'))) w ∧ Went ρ ι H w ρ' ι ((H.del n).set r (.sem (Objs F l'))) w := by
  obtain ⟨hv, hh, A, a1, a2, a3⟩ := hS.hv hr
  obtain ⟨hu, hh2, hN⟩ := hS.hv hn
  have hm := AH.get_mem hr
  have hm2 := AH.get_mem hn
  obtain ⟨b, c1, c2⟩ := hF.foot hN
  have hbl : b ∉ l.map (fun p : Nat × X => p.1) := fun hb => by
    obtain ⟨p, hp, rfl⟩ := List.mem_map.1 hb
    obtain ⟨_, d2, _, d4⟩ := a2 p hp
    exact hS.apart _ hm _ hm2 hrn hv hu hh hh2 _ (d4 _ d2) c2
  refine ⟨b, hu, hh2, c1, hbl, fun l' hp' => ?_⟩
  let hv1 : HV := ⟨hv.blk, hv.room, fun k => hv.foot k ∨ hu.foot k⟩
  let ρ' : Rho := fun k => if k = r then some hv1 else ρ k
  have vr : ρ' r = some hv1 := by simp only [ρ', if_true]
  have vo : ∀ k, k ≠ r → ρ' k = ρ k := fun k h1 => by simp only [ρ', if_neg h1]
  have hle : Rho.le ρ ρ' := fun k hu' hk => by
    by_cases g : k = r
    · subst g
      rw [hh] at hk
      injection hk with hk
      subst hk
      exact ⟨hv1, vr, rfl, rfl⟩
    · exact ⟨hu', (vo k g).trans hk, rfl, rfl⟩
  have mem : ∀ p ∈ ((H.del n).set r (.sem (Objs F l'))).ch, (p = (r, .sem (Objs F l')) ∧ ρ' p.1 = some hv1) ∨ (p ∈ H.ch ∧ p.1 ≠ r ∧ p.1 ≠ n ∧ ρ' p.1 = ρ p.1) := fun p hp => by
    rcases AH.mem_set' (AH.nodup_del n hS.nodup) p hp with ⟨h1, h2⟩ | e
    · exact .inr ⟨AH.mem_del p h1, h2, AH.key_del hS.nodup p h1, vo _ h2⟩
    · subst e; exact .inl ⟨rfl, vr⟩
  have own : ∀ p ∈ ((H.del n).set r (.sem (Objs F l'))).ch, ∀ u, ρ' p.1 = some u → ∀ k, u.foot k → ∃ q ∈ H.ch, ∃ u', ρ q.1 = some u' ∧ u'.foot k ∧ (q.1 = p.1 ∨ (p.1 = r ∧ q.1 = n)) := fun p hp u hu' k hk => by
    rcases mem p hp with ⟨rfl, e⟩ | ⟨h1, _, _, e⟩
    · rw [e] at hu'; injection hu' with hu'; subst hu'
      rcases hk with hk | hk
      · exact ⟨_, hm, hv, hh, hk, .inl rfl⟩
      · exact ⟨_, hm2, hu, hh2, hk, .inr ⟨rfl, rfl⟩⟩
    · exact ⟨p, h1, u, e ▸ hu', hk, .inl rfl⟩
  refine ⟨ρ', ⟨hS.imm, hS.one, fun p hp => ?_, fun k hk => ?_, ?_, fun p hp q hq hpq u v hu' hv' k hk hk2 => ?_, fun p hp u hu' k o v hk => ?_, fun p hp u hu' k hk => ?_⟩,
    ⟨Touch.refl _ _, fun k ⟨p, hp, u, hu', hk⟩ => .inl (let ⟨q, h1, u', h2, h3, _⟩ := own p hp u hu' k hk; ⟨q, h1, u', h2, h3⟩), Imm.le.refl _, fun _ _ _ h => .inl h, hle⟩⟩
  · rcases mem p hp with ⟨rfl, e⟩ | ⟨h1, _, _, e⟩
    · refine ⟨_, e, fun k => if k = b then hu else A k, ((hp'.map _).nodup_iff).2 ?_, fun p hp => ?_, fun p hp q hq hpq k hk hk2 => ?_⟩
      · rw [List.map_cons, List.nodup_cons]; exact ⟨hbl, a1⟩
      · rcases List.mem_cons.1 (hp'.mem_iff.1 hp) with rfl | hp
        · simp only [if_true]
          exact ⟨c1, c2, hN, fun k hk => .inr hk⟩
        · have hne : p.1 ≠ b := fun e => hbl (e ▸ List.mem_map_of_mem (f := fun p : Nat × X => p.1) hp)
          simp only [if_neg hne]
          obtain ⟨d1, d2, d3, d4⟩ := a2 p hp
          exact ⟨d1, d2, d3, fun k hk => .inl (d4 k hk)⟩
      · have far : ∀ p ∈ l, ∀ k, (A p.1).foot k → ¬ hu.foot k := fun p hp k hk => hS.apart _ hm _ hm2 hrn hv hu hh hh2 _ ((a2 p hp).2.2.2 k hk)
        have nb : ∀ p ∈ l, p.1 ≠ b := fun p hp e => hbl (e ▸ List.mem_map_of_mem (f := fun p : Nat × X => p.1) hp)
        rcases List.mem_cons.1 (hp'.mem_iff.1 hp) with rfl | hp <;> rcases List.mem_cons.1 (hp'.mem_iff.1 hq) with rfl | hq
        · exact hpq rfl
        · simp only [if_true] at hk
          simp only [if_neg (nb q hq)] at hk2
          exact far q hq k hk2 hk
        · simp only [if_true] at hk2
          simp only [if_neg (nb p hp)] at hk
          exact far p hp k hk hk2
        · simp only [if_neg (nb p hp)] at hk
          simp only [if_neg (nb q hq)] at hk2
          exact a3 p hp q hq hpq k hk hk2
    · obtain ⟨u, hu', hR⟩ := hS.rel p h1
      exact ⟨u, e.trans hu', hR.keep hle (Imm.le.refl _) fun _ _ => rfl⟩
  · have hk : H.next ≤ k := hk
    have h1 : k ≠ r := fun e => by
      subst e
      rw [hS.fresh _ hk] at hh
      cases hh
    rw [vo k h1]
    exact hS.fresh k hk
  · rw [AH.keys_set]; exact AH.nodup_del n hS.nodup
  · obtain ⟨p', h1, u', h2, h3, h4⟩ := own p hp u hu' k hk
    obtain ⟨q', k1, v', k2, k3, k4⟩ := own q hq v hv' k hk2
    have hpr : p.1 ≠ n := by rcases mem p hp with ⟨rfl, _⟩ | ⟨_, _, g, _⟩; exact hrn; exact g
    have hqr : q.1 ≠ n := by rcases mem q hq with ⟨rfl, _⟩ | ⟨_, _, g, _⟩; exact hrn; exact g
    refine hS.apart p' h1 q' k1 (fun e => ?_) u' v' h2 k2 k h3 k3
    rcases h4 with h4 | ⟨h4, h5⟩ <;> rcases k4 with k4 | ⟨k4, k5⟩
    · exact hpq (by rw [← h4, ← k4, e])
    · exact hpr (by rw [← h4, e, k5])
    · exact hqr (by rw [← k4, ← e, h5])
    · exact hpq (by rw [h4, k4])
  · obtain ⟨q, h1, u', h2, h3, _⟩ := own p hp u hu' k hk
    exact hS.iapart q h1 u' h2 k o v h3
  · obtain ⟨q, h1, u', h2, h3, _⟩ := own p hp u hu' k hk
    exact hS.lt q h1 u' h2 k h3
/-- An object is another one now. -/
def lset (l : List (Nat × X)) (b : Nat) (x : X) : List (Nat × X) := l.map fun p => if p.1 = b then (b, x) else p
theorem lset_keys (l : List (Nat × X)) (b : Nat) (x : X) : (lset l b x).map (fun p : Nat × X => p.1) = l.map fun p : Nat × X => p.1 := by
  unfold lset
  rw [List.map_map]
  refine List.map_congr_left fun p _ => ?_
  simp only [Function.comp]
  split
  · rename_i e; exact e.symm
  · rfl
theorem lset_perm {b : Nat} {x : X} (y : X) : ∀ {l : List (Nat × X)}, (l.map fun p : Nat × X => p.1).Nodup → (b, x) ∈ l → (lset l b y).Perm ((b, y) :: ldel l b)
  | [], _, h => by cases h
  | p :: ps, hn, h => by
    simp only [List.map_cons, List.nodup_cons] at hn
    by_cases e : p.1 = b
    · have hd : ldel (p :: ps) b = ps := by
        unfold ldel
        rw [List.filter_cons_of_neg (by simpa using e), List.filter_eq_self]
        intro q hq
        have : q.1 ≠ b := fun g => hn.1 (by rw [e, ← g]; exact List.mem_map_of_mem (f := fun p : Nat × X => p.1) hq)
        simpa using this
      have hs : lset (p :: ps) b y = (b, y) :: ps := by
        unfold lset
        rw [List.map_cons, if_pos e]
        congr 1
        conv => rhs; rw [← List.map_id ps]
        refine List.map_congr_left fun q hq => ?_
        have : q.1 ≠ b := fun g => hn.1 (by rw [e, ← g]; exact List.mem_map_of_mem (f := fun p : Nat × X => p.1) hq)
        rw [if_neg this]
        rfl
      rw [hd, hs]
    · have hm : (b, x) ∈ ps := by
        rcases List.mem_cons.1 h with g | g
        · rw [← g] at e; exact (e rfl).elim
        · exact g
      have hd : ldel (p :: ps) b = p :: ldel ps b := by unfold ldel; rw [List.filter_cons_of_pos (by simpa using e)]
      have hs : lset (p :: ps) b y = p :: lset ps b y := by unfold lset; rw [List.map_cons, if_neg e]
      rw [hd, hs]
      exact ((lset_perm y hn.2 hm).cons p).trans (List.Perm.swap ..)
/-- **A call at one of the objects**: it stands under a handle of its own meanwhile. -/
theorem ACall.atObj {P : Program} {f : FuncId} (hF : Root F) {as : List AV} {K QP : AV → AH → Prop} (r b : Nat) {l : List (Nat × X)} {x : X} (hr : H.get r = some (.sem (Objs F l))) (hb : (b, x) ∈ l)
    (h : ACall P f (.ptr H.next 0 :: as) ((H.set r (.sem (Objs F (ldel l b)))).add (.sem (Nest (F x)))) (fun v H' => ∃ x', H'.get H.next = some (.sem (Nest (F x'))) ∧ H'.get r = some (.sem (Objs F (ldel l b))) ∧ K v ((H'.del H.next).set r (.sem (Objs F (lset l b x'))))) fun _ _ => False) :
    ACall P f (ptrV b :: as) H K QP :=
  ⟨h.fn, fun ρ ι w cargs hG hS ha => by
    obtain ⟨ρ1, s1, s2, hv, e1, e2⟩ := hS.expose hr hb
    have hn : (l.map fun p : Nat × X => p.1).Nodup := by obtain ⟨_, _, _, a1, _⟩ := hS.hv hr; exact a1
    have hrn : r ≠ H.next := hS.key_ne _ (AH.get_mem hr)
    refine (h.run ρ1 ι w cargs hG s1 ?_).mono fun en w' hp => ?_
    · simp only [AV.Rs] at ha ⊢
      obtain ⟨u, us, rfl, r1, r2⟩ := ha
      simp only [AV.R, IV.R] at r1
      refine ⟨u, us, rfl, ?_, AV.Rs_mono s2.agree (Imm.le.refl _) _ _ r2⟩
      simp only [AV.R]
      exact ⟨hv, b, e1, e2, r1⟩
    · cases en with
      | panicked ch => obtain ⟨v, _, r, H', ρ', ι', g, _⟩ := hp; exact g.elim
      | outgrown => exact hp.elim
      | returned v =>
        obtain ⟨rv, H', ρ', ι', ⟨x', g1, g2, k⟩, h1, h2, h3⟩ := hp
        obtain ⟨b', hu, q1, q2, _, q4⟩ := h2.absorb hF g2 g1 hrn
        obtain ⟨hu', k1, k2, _⟩ := h3.agree _ _ e1
        rw [q1] at k1
        injection k1 with k1
        subst k1
        rw [q2, e2] at k2
        injection k2 with k2
        subst k2
        obtain ⟨ρ2, t1, t2⟩ := q4 _ (lset_perm x' hn hb)
        exact ⟨rv, _, ρ2, ι', k, AV.R_mono t2.agree (Imm.le.refl _) _ _ h1, t1, (s2.trans h3).trans t2⟩⟩
/-- **A new object** goes to the others; its address is data from here on. -/
theorem ACall.absorb {P : Program} {f : FuncId} (hF : Root F) {args : List AV} {K QP : AV → AH → Prop}
    (h : ACall P f args H (fun v H' => ∃ r n l x, v = .ptr n 0 ∧ H'.get n = some (.sem (Nest (F x))) ∧ H'.get r = some (.sem (Objs F l)) ∧ Nat.beq r n = false ∧ ∀ b, b ∉ l.map (fun p : Nat × X => p.1) → K (ptrV b) ((H'.del n).set r (.sem (Objs F ((b, x) :: l))))) QP) :
    ACall P f args H K QP :=
  ⟨h.fn, fun ρ ι w cargs hG hS ha => by
    refine (h.run ρ ι w cargs hG hS ha).mono fun en w' hp => ?_
    cases en with
    | panicked ch => exact hp
    | outgrown => exact hp
    | returned v =>
      obtain ⟨rv, H', ρ', ι', ⟨r, n, l, x, rfl, g1, g2, g3, k⟩, h1, h2, h3⟩ := hp
      have hrn : r ≠ n := fun e => by subst e; rw [Nat.beq_refl] at g3; cases g3
      obtain ⟨b, hu, q1, q2, q3, q4⟩ := h2.absorb hF g2 g1 hrn
      obtain ⟨ρ2, t1, t2⟩ := q4 _ (List.Perm.refl _)
      simp only [AV.R] at h1
      obtain ⟨hv, b', k1, k2, rfl⟩ := h1
      rw [q1] at k1
      injection k1 with k1
      subst k1
      rw [q2] at k2
      injection k2 with k2
      subst k2
      refine ⟨ptrV b, _, ρ2, ι', k b q3, ?_, t1, h3.trans t2⟩
      simp only [AV.R, IV.R]⟩
/-- No objects. -/
theorem HEnt.objs0 (F : X → AH) (H : AH) : HEnt H (H.add (.sem (Objs F []))) := ⟨fun ρ ι w hS => by
  obtain ⟨h1, h2⟩ := hS.add (w' := w) (.sem (Objs F [])) ⟨none, 0, fun _ => False⟩ (Touch.refl _ _) (fun _ h => h.elim) ⟨fun _ => ⟨none, 0, fun _ => False⟩, List.nodup_nil, fun p hp => (by cases hp), fun p hp => (by cases hp)⟩
  exact ⟨_, ι, h1, h2⟩⟩
/-- Some of the objects are let go. -/
theorem ChE.objs {l l' : List (Nat × X)} (h : l'.Sublist l) : ChE (.sem (Objs F l)) (.sem (Objs F l')) := ⟨fun _ _ _ _ ⟨A, h1, h2, h3⟩ =>
  ⟨A, (h.map _).nodup h1, fun p hp => h2 p (h.subset hp), fun p hp q hq => h3 p (h.subset hp) q (h.subset hq)⟩⟩
end
end Go.Proofs.YtpgdbeacmlojcaaGreat.Ax
