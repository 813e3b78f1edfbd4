/-
  Chunks that are joined under one handle, and chunks that let go of blocks.
-/
import Derived.Test.YtgfkepebfaiepaaGreatDoorBxA
namespace Go.Proofs.YtgfkepebfaiepaaGreatDoor.Ax
open Go.RowKit
def Rho.refoot (ρ : Rho) (k : Nat) (hv : HV) (S : Nat → Prop) : Rho := fun j => if j = k then some ⟨hv.blk, hv.room, S⟩ else ρ j
theorem Rho.refoot_same (ρ : Rho) (k : Nat) (hv : HV) (S : Nat → Prop) : ρ.refoot k hv S k = some ⟨hv.blk, hv.room, S⟩ := if_pos rfl
theorem Rho.refoot_other {ρ : Rho} {k j : Nat} {hv : HV} {S : Nat → Prop} (h : j ≠ k) : ρ.refoot k hv S j = ρ j := if_neg h
theorem Rho.le_refoot {ρ : Rho} {k : Nat} {hv : HV} (hr : ρ k = some hv) (S : Nat → Prop) : Rho.le ρ (ρ.refoot k hv S) := fun j u hu => by
 by_cases e : j = k
 ·subst e
  rw [hr] at hu
  injection hu with hu
  subst hu
  exact ⟨_, Rho.refoot_same .., rfl, rfl⟩
 ·exact ⟨u, (Rho.refoot_other e).trans hu, rfl, rfl⟩
theorem SR.key_lt {ρ ι H w} (h : SR ρ ι H w) {k : Nat} {hv : HV} (hr : ρ k = some hv) : k < H.next := by
 rcases Nat.lt_or_ge k H.next with g | g
 ·exact g
 ·rw [h.fresh _ g] at hr; cases hr
theorem SR.recast {ρ ι H H' w} (h : SR ρ ι H w) {k : Nat} {c c' : Chunk} {hv : HV} (hc : H.get k = some c) (hr : ρ k = some hv) (D : Nat → Prop) (S : Nat → Prop)
 (hS : ∀ b, S b → hv.foot b ∨ ∃ p ∈ H.ch, D p.1 ∧ ∃ u, ρ p.1 = some u ∧ u.foot b) (hn : H'.next = H.next) (hnd : (H'.ch.map (·.1)).Nodup)
 (hm : ∀ p ∈ H'.ch, (p ∈ H.ch ∧ p.1 ≠ k ∧ ¬ D p.1) ∨ p = (k, c')) (hc' : ∀ ρ', Rho.le ρ ρ' → c'.R ρ' ι ⟨hv.blk, hv.room, S⟩ w) :
 SR (ρ.refoot k hv S) ι H' w ∧ Went ρ ι H w (ρ.refoot k hv S) ι H' w := by
 have hle := Rho.le_refoot hr S
 have hk := AH.get_mem hc
 have old : ∀ p : Nat × Chunk, p.1 ≠ k → ρ.refoot k hv S p.1 = ρ p.1 := fun p e => Rho.refoot_other e
 have inF : ∀ b, S b → H.foot ρ b := fun b hb => by
  rcases hS b hb with g | ⟨p, hp, _, u, hu, g⟩
  ·exact ⟨_, hk, hv, hr, g⟩
  ·exact ⟨p, hp, u, hu, g⟩
 have far : ∀ p ∈ H.ch, p.1 ≠ k → ¬ D p.1 → ∀ x, ρ p.1 = some x → ∀ b, x.foot b → ¬ S b := fun p hp hpk hpd x hx b hb hsb => by
  rcases hS b hsb with g | ⟨q, hq, hqd, u, hu, g⟩
  ·exact h.apart p hp _ hk hpk x hv hx hr b hb g
  ·exact h.apart p hp q hq (fun e => hpd (e ▸ hqd)) x u hx hu b hb g
 refine ⟨⟨h.imm, h.one, fun p hp => ?_, fun j hj => ?_, hnd, fun p hp q hq hpq x y hx hy b hb hb2 => ?_, fun p hp x hx b o v hb => ?_, fun p hp x hx b hb => ?_⟩, ⟨Touch.refl _ _, fun b ⟨p, hp, x, hx, hb⟩ => ?_, Imm.le.refl _, fun _ _ _ h => .inl h, hle⟩⟩
 ·rcases hm p hp with ⟨g1, g2, _⟩ | rfl
  ·obtain ⟨u, hu, r⟩ := h.rel p g1
   exact ⟨u, (old p g2).trans hu, r.keep hle (Imm.le.refl _) fun _ _ => rfl⟩
  ·exact ⟨_, Rho.refoot_same .., hc' _ hle⟩
 ·rw [hn] at hj
  have : j ≠ k := fun e => by have := h.key_lt hr; omega
  exact (Rho.refoot_other this).trans (h.fresh j hj)
 ·rcases hm p hp with ⟨g1, g2, g3⟩ | rfl <;> rcases hm q hq with ⟨g4, g5, g6⟩ | rfl
  ·rw [old p g2] at hx
   rw [old q g5] at hy
   exact h.apart p g1 q g4 hpq x y hx hy b hb hb2
  ·rw [old p g2] at hx
   rw [Rho.refoot_same] at hy
   injection hy with hy
   subst hy
   exact far p g1 g2 g3 x hx b hb hb2
  ·rw [old q g5] at hy
   rw [Rho.refoot_same] at hx
   injection hx with hx
   subst hx
   exact far q g4 g5 g6 y hy b hb2 hb
  ·exact hpq rfl
 ·rcases hm p hp with ⟨g1, g2, _⟩ | rfl
  ·rw [old p g2] at hx; exact h.iapart p g1 x hx b o v hb
  ·rw [Rho.refoot_same] at hx
   injection hx with hx
   subst hx
   obtain ⟨q, hq, u, hu, g⟩ := inF b hb
   exact h.iapart q hq u hu b o v g
 ·rcases hm p hp with ⟨g1, g2, _⟩ | rfl
  ·rw [old p g2] at hx; exact h.lt p g1 x hx b hb
  ·rw [Rho.refoot_same] at hx
   injection hx with hx
   subst hx
   obtain ⟨q, hq, u, hu, g⟩ := inF b hb
   exact h.lt q hq u hu b g
 ·rcases hm p hp with ⟨g1, g2, _⟩ | rfl
  ·rw [old p g2] at hx; exact .inl ⟨p, g1, x, hx, hb⟩
  ·rw [Rho.refoot_same] at hx
   injection hx with hx
   subst hx
   exact .inl (inF b hb)
theorem SR.shrink {ρ ι H w} (h : SR ρ ι H w) {k : Nat} {c c' : Chunk} {hv : HV} (hc : H.get k = some c) (hr : ρ k = some hv) (S : Nat → Prop) (hS : ∀ b, S b → hv.foot b) (hc' : ∀ ρ', Rho.le ρ ρ' → c'.R ρ' ι ⟨hv.blk, hv.room, S⟩ w) :
 SR (ρ.refoot k hv S) ι (H.set k c') w ∧ Went ρ ι H w (ρ.refoot k hv S) ι (H.set k c') w :=
 h.recast hc hr (fun _ => False) S (fun b hb => .inl (hS b hb)) rfl (by rw [AH.keys_set]; exact h.nodup) (fun p hp => (AH.mem_set' h.nodup p hp).imp (fun g => ⟨g.1, g.2, fun f => f.elim⟩) id) hc'
theorem SR.join {ρ ι H w} (h : SR ρ ι H w) {k i : Nat} {c d c' : Chunk} {hv hu : HV} (_ : k ≠ i) (hc : H.get k = some c) (hd : H.get i = some d) (hr : ρ k = some hv) (hri : ρ i = some hu) (hc' : ∀ ρ', Rho.le ρ ρ' → c'.R ρ' ι ⟨hv.blk, hv.room, fun b => hv.foot b ∨ hu.foot b⟩ w) :
 SR (ρ.refoot k hv fun b => hv.foot b ∨ hu.foot b) ι ((H.del i).set k c') w ∧ Went ρ ι H w (ρ.refoot k hv fun b => hv.foot b ∨ hu.foot b) ι ((H.del i).set k c') w := by
 have hdi := AH.get_mem hd
 have hnd := AH.nodup_del i h.nodup
 refine h.recast hc hr (fun j => j = i) _ (fun b hb => hb.imp id fun g => ⟨_, hdi, rfl, hu, hri, g⟩) rfl (by rw [AH.keys_set]; exact hnd) (fun p hp => ?_) hc'
 rcases AH.mem_set' (H := H.del i) hnd p hp with ⟨g1, g2⟩ | g
 ·exact .inl ⟨AH.mem_del p g1, g2, AH.key_del h.nodup p g1⟩
 ·exact .inr g
end Go.Proofs.YtgfkepebfaiepaaGreatDoor.Ax
