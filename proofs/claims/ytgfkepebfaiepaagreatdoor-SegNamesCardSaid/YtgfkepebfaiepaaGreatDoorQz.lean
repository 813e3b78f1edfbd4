/-
  Memory: boxes, objects; short words.
-/
import Derived.Test.YtgfkepebfaiepaaGreatDoorQy
namespace Go.Proofs.YtgfkepebfaiepaaGreatDoor.Ax
open Go.RowKit
theorem SR.still {ρ : Rho} {ι : Imm} {H : AH} {w w' : World} (hS : SR ρ ι H w) (ht : Touch (fun k => (∀ o, w.cell? ⟨k, o, none⟩ = none) ∧ ¬ H.foot ρ k) w w') : SR ρ ι H w' := by
 refine ⟨fun b o v hi => ?_, hS.one, fun p hp => ?_, hS.fresh, hS.nodup, hS.apart, hS.iapart, fun p hp hv hh k hk => Nat.lt_of_lt_of_le (hS.lt p hp hv hh k hk) ht.size⟩
 ·have h1 := hS.imm b o v hi
  rw [← h1]
  exact World.cell?_of_block (ht.block b (World.block_lt_of_cell? w _ h1) fun x => by have := x.1 o; rw [h1] at this; cases this)
 ·obtain ⟨hv, h1, h2⟩ := hS.rel p hp
  exact ⟨hv, h1, h2.keep (Rho.le.refl _) (Imm.le.refl _) fun k hk => ht.block k (hS.lt p hp hv h1 k hk) fun x => x.2 ⟨p, hp, hv, h1, hk⟩⟩
theorem SR.sub {ρ : Rho} {ι : Imm} {H : AH} {w : World} (hS : SR ρ ι H w) {L : List (Nat × Chunk)} (hm : ∀ p ∈ L, p ∈ H.ch) (hn : (L.map (·.1)).Nodup) : SR ρ ι ⟨H.next, L⟩ w :=
 ⟨hS.imm, hS.one, fun p hp => hS.rel p (hm p hp), hS.fresh, hn, fun p hp q hq => hS.apart p (hm p hp) q (hm q hq), fun p hp => hS.iapart p (hm p hp), fun p hp => hS.lt p (hm p hp)⟩
theorem loop_cell {w : World} {l : Nat} {r : Loop} (h : w.heap[l]? = some (.loop r)) (o : Nat) : w.cell? ⟨l, o, none⟩ = none := by simp [World.cell?, h]
theorem touch_put (w : World) (l : Nat) (o : Obj) : Touch (fun k => k = l) w (w.putObj l o) := ⟨rfl, rfl, rfl, by rw [putObj_size]; exact Nat.le_refl _, fun _ _ hk => World.putObj_heap_other hk⟩
theorem put_at {w : World} {l : Nat} {o o' : Obj} (h : w.heap[l]? = some o) : (w.putObj l o').heap[l]? = some o' := World.putObj_heap_same (Array.getElem?_eq_some_iff.1 h).1
structure Pass (l n0 : Nat) (ρ : Rho) (ι : Imm) (H : AH) (w : World) (ρ' : Rho) (ι' : Imm) (H' : AH) (w' : World) : Prop where
 touch : Touch (fun k => k = l ∨ H.foot ρ k) w w'
 grow : ∀ k, H'.foot ρ' k → H.foot ρ k ∨ w.heap.size ≤ k
 imm : Imm.le ι ι'
 immNew : ∀ b o v, ι' b o = some v → ι b o = some v ∨ H.foot ρ b ∨ w.heap.size ≤ b
 agree : ∀ h hv, h < n0 → ρ h = some hv → ∃ hu : HV, ρ' h = some hu ∧ hu.blk = hv.blk ∧ hu.room = hv.room
theorem Pass.of {l n0 ρ ι H w ρ' ι' H' w'} (h : WentB n0 ρ ι H w ρ' ι' H' w') : Pass l n0 ρ ι H w ρ' ι' H' w' := ⟨h.touch.weaken fun _ hk => .inr hk, h.grow, h.imm, h.immNew, h.agree⟩
theorem Pass.put {l n0 ρ ι H w} (o : Obj) : Pass l n0 ρ ι H w ρ ι H (w.putObj l o) :=
 ⟨(touch_put w l o).weaken fun _ hk => .inl hk, fun _ h => .inl h, Imm.le.refl _, fun _ _ _ h => .inl h, fun _ hv _ h => ⟨hv, h, rfl, rfl⟩⟩
theorem Pass.trans {l n0 ρ ι H w ρ' ι' H' w' ρ'' ι'' H'' w''} (h : Pass l n0 ρ ι H w ρ' ι' H' w') (h' : Pass l n0 ρ' ι' H' w' ρ'' ι'' H'' w'') : Pass l n0 ρ ι H w ρ'' ι'' H'' w'' := by
 refine ⟨⟨h'.touch.os.trans h.touch.os, h'.touch.tape.trans h.touch.tape, h'.touch.output.trans h.touch.output, Nat.le_trans h.touch.size h'.touch.size, fun k hk hs => ?_⟩, fun k hk => ?_, h.imm.trans h'.imm, fun b o v hv => ?_, fun k hv hk hh => ?_⟩
 ·refine (h'.touch.block k (Nat.lt_of_lt_of_le hk h.touch.size) fun hf => ?_).trans (h.touch.block k hk hs)
  rcases hf with h1 | h1
  ·exact hs (.inl h1)
  ·rcases h.grow k h1 with h2 | h2
   ·exact hs (.inr h2)
   ·omega
 ·rcases h'.grow k hk with h1 | h1
  ·exact h.grow k h1
  ·exact .inr (Nat.le_trans h.touch.size h1)
 ·rcases h'.immNew b o v hv with h1 | h1 | h1
  ·exact h.immNew b o v h1
  ·exact (h.grow b h1).elim (fun x => .inr (.inl x)) (fun x => .inr (.inr x))
  ·exact .inr (.inr (Nat.le_trans h.touch.size h1))
 ·obtain ⟨u, h1, h2, h3⟩ := h.agree k hv hk hh
  obtain ⟨v, g1, g2, g3⟩ := h'.agree k u hk h1
  exact ⟨v, g1, g2.trans h2, g3.trans h3⟩
structure BodyR (ρ0 ρ : Rho) (ι : Imm) (l : Nat) (Hb : AH) (foot : Nat → Prop) (w : World) : Prop where
 le : Rho.le ρ0 ρ
 foot : ∀ k, foot k ↔ k = l ∨ Hb.foot ρ k
 off : ¬ Hb.foot ρ l
 rel : ∀ p ∈ Hb.ch, ∃ hu, ρ p.1 = some hu ∧ p.2.R ρ ι hu w
 fresh : ∀ h, Hb.next ≤ h → ρ h = none
 nodup : (Hb.ch.map (·.1)).Nodup
 apart : ∀ p ∈ Hb.ch, ∀ q ∈ Hb.ch, p.1 ≠ q.1 → ∀ a b, ρ p.1 = some a → ρ q.1 = some b → ∀ k, a.foot k → ¬ b.foot k
def LoopS (l : Nat) (r : Loop) (ρ0 : Rho) (ι0 : Imm) (Hb : AH) : SemP where
 R ι hv w := Imm.le ι0 ι ∧ w.heap[l]? = some (.loop r) ∧ ∃ ρ : Rho, BodyR ρ0 ρ ι l Hb hv.foot w
 loc ι ι' hv w w' hι hk := fun ⟨h1, h2, ρ, h3⟩ => ⟨h1.trans hι, (hk l ((h3.foot l).2 (.inl rfl))).trans h2, ρ, h3.le, h3.foot, h3.off, fun p hp => by
  obtain ⟨hu, g1, g2⟩ := h3.rel p hp
  exact ⟨hu, g1, g2.keep (Rho.le.refl _) hι fun k hf => hk k ((h3.foot k).2 (.inr ⟨p, hp, hu, g1, hf⟩))⟩, h3.fresh, h3.nodup, h3.apart⟩
def recOf (fn : FuncId) (tmps : Array Value) (ps : Array Tmp) (assign body : Code) (D : Nat) (j : Option Code) : Loop :=
 { state := if j.isNone then .ready else .done, pending := j, fn, tmps, params := ps, assign, body, defers := D }
def putPs (N : Nat) : Env → List Tmp → List AV → Env
 | e, t :: ts, x :: xs => putPs N (e.putd N (some t) x) ts xs
 | e, _, _ => e
theorem ER.putPs {ρ : Rho} {ι : Imm} {N : Nat} : ∀ (ts : List Tmp) (xs : List AV) (us : List Value) (e : Env) (a : Act), ER ρ ι N e a → AV.Rs ρ ι xs us → ER ρ ι N (putPs N e ts xs) { a with tmps := (ts.zip us).foldl (fun tmps (p : Tmp × Value) => tmps.setIfInBounds p.1 p.2) a.tmps }
 | [], _, _, _, _, h, _ => by simpa [Ax.putPs] using h
 | t :: ts, [], us, e, a, h, hr => by
   simp only [AV.Rs] at hr
   subst hr
   simpa [Ax.putPs] using h
 | t :: ts, x :: xs, us, e, a, h, hr => by
   simp only [AV.Rs] at hr
   obtain ⟨u, us, rfl, h1, h2⟩ := hr
   exact ER.putPs ts xs us _ (a.put (some t) u) (h.putd (some t) h1) h2
def JQ {X A : Type} (N n0 : Nat) (Hb : X → AH) (Nx : X → A → Option Code → X → Prop) (x : X) (a : A) : Post :=
 ⟨fun e' H' => ∃ x', Nx x a none x' ∧ Ent N n0 e' H' [] (Hb x'), fun id e' H' => ∃ x', Nx x a (some (.exit id)) x' ∧ Ent N n0 e' H' [] (Hb x'), fun e' H' => ∃ x', Nx x a (some .ret) x' ∧ Ent N n0 e' H' [] (Hb x'), fun _ _ => False⟩
theorem loop_yield {C : Cfg} {X A : Type} {ps : Array Tmp} {assign body : Code} {e : Env} {n0 : Nat} (enc : A → List IV) (Hb : X → AH) (Nx : X → A → Option Code → X → Prop) {ρ0 : Rho} {ι0 : Imm} {a0 : Act} (hE : ER ρ0 ι0 C.N e a0) (hfr : ∀ h, n0 ≤ h → ρ0 h = none) {l D : Nat} {fn : FuncId} {x : X} {a : A} (hlen : (enc a).length = ps.size)
 (hr : AWP { C with ro := some l, base := n0 } assign (putPs C.N e ps.toList ((enc a).map .iv)) (Hb x) ⟨fun e1 H1 => AWP { C with ro := some l, base := n0 } body e1 H1 (JQ C.N n0 Hb Nx x a), fun _ _ _ => False, fun _ _ => False, fun _ _ => False⟩) :
 YCall C.P l ((enc a).map .iv) ⟨1, [(0, .sem (LoopS l (recOf fn a0.tmps ps assign body D none) ρ0 ι0 (Hb x)))]⟩
  (fun r H' => ∃ j x', Nx x a j x' ∧ r = AV.bool j.isNone ∧ H' = ⟨1, [(0, .sem (LoopS l (recOf fn a0.tmps ps assign body D j) ρ0 ι0 (Hb x')))]⟩) (fun _ _ => False) := by
 refine ⟨fun ρ ι w cargs hG hS hx => ?_⟩
 obtain ⟨hv, hr0, hi0, hl, ρ2, hB⟩ := hS.hv (k := 0) (c := .sem (LoopS l (recOf fn a0.tmps ps assign body D none) ρ0 ι0 (Hb x))) rfl
 have hmem : ((0 : Nat), Chunk.sem (LoopS l (recOf fn a0.tmps ps assign body D none) ρ0 ι0 (Hb x))) ∈ (AH.mk 1 [(0, .sem (LoopS l (recOf fn a0.tmps ps assign body D none) ρ0 ι0 (Hb x)))]).ch := List.mem_cons_self ..
 have in0 : ∀ p ∈ (Hb x).ch, ∀ u, ρ2 p.1 = some u → ∀ k, u.foot k → hv.foot k := fun p hp u hu k hk => (hB.foot k).2 (.inr ⟨p, hp, u, hu, hk⟩)
 have hS2 : SR ρ2 ι (Hb x) w := ⟨hS.imm, hS.one, hB.rel, hB.fresh, hB.nodup, hB.apart, fun p hp u hu k o v hk => hS.iapart _ hmem hv hr0 k o v (in0 p hp u hu k hk), fun p hp u hu k hk => hS.lt _ hmem hv hr0 k (in0 p hp u hu k hk)⟩
 have hcl : cargs.length = ps.size := by have := Rs_lenA _ _ hx; rw [List.length_map] at this; omega
 have hx2 : AV.Rs ρ2 ι ((enc a).map .iv) cargs := (Rs_iv _ _).2 ((Rs_iv _ _).1 hx)
 have hE2 := ER.putPs ps.toList _ _ e a0 (hE.mono hB.le hi0) hx2
 have hy := run_yield (P := C.P) (args := cargs.toArray) hl (by simp [recOf, hcl])
 refine ⟨_, _, _, _, hy, roundIn_of_wpIn trivial ?_⟩
 have etm : ((recOf fn a0.tmps ps assign body D none).params.zip cargs.toArray).foldl (fun tmps (p : Tmp × Value) => tmps.setIfInBounds p.1 p.2) (recOf fn a0.tmps ps assign body D none).tmps = (ps.toList.zip cargs).foldl (fun tmps (p : Tmp × Value) => tmps.setIfInBounds p.1 p.2) a0.tmps := by
  rw [← Array.foldl_toList, Array.toList_zip]
  rfl
 have hE3 : ER ρ2 ι C.N (putPs C.N e ps.toList ((enc a).map .iv)) { tmps := ((recOf fn a0.tmps ps assign body D none).params.zip cargs.toArray).foldl (fun tmps (p : Tmp × Value) => tmps.setIfInBounds p.1 p.2) (recOf fn a0.tmps ps assign body D none).tmps, defers := [] } := by
  rw [etm]
  exact ⟨hG, hE2.size, hE2.slot⟩
 have h0 := hr.run w.heap.size ρ2 ι _ w hE3 hS2 (Mk.nil (Nat.le_refl _))
 refine wpIn_mono h0 fun ex a1 w1 hq => ?_
 cases ex with
 | normal =>
   obtain ⟨e1, H1, ρ3, ι3, hb, p1, p2, p3, p4⟩ := hq
   have P1 : Pass l n0 ρ2 ι (Hb x) w ρ3 ι3 H1 w1 := Pass.of p3
   have hlt : l < w.heap.size := (Array.getElem?_eq_some_iff.1 hl).1
   have hl1 : w1.heap[l]? = some (.loop (recOf fn a0.tmps ps assign body D none)) := (p3.touch.block l hlt hB.off).trans hl
   have off1 : ¬ H1.foot ρ3 l := fun hf => by
    rcases p3.grow l hf with h1 | h1
    ·exact hB.off h1
    ·omega
   have hbr := run_beginRound (P := C.P) hl1 rfl
   obtain ⟨w2, hw2⟩ : ∃ w2, w1.putObj l (.loop { recOf fn a0.tmps ps assign body D none with state := .busy }) = w2 := ⟨_, rfl⟩
   rw [hw2] at hbr
   have P2 : Pass l n0 ρ3 ι3 H1 w1 ρ3 ι3 H1 w2 := by rw [← hw2]; exact Pass.put _
   have hl2 : w2.heap[l]? = some (.loop { recOf fn a0.tmps ps assign body D none with state := .busy }) := by rw [← hw2]; exact put_at hl1
   have hS3 : SR ρ3 ι3 H1 w2 := p2.still (by rw [← hw2]; exact (touch_put w1 l _).weaken fun k hk => by subst hk; exact ⟨loop_cell hl1, off1⟩)
   have hM3 : Mk w.heap.size ρ3 H1 w2 a1.defers := ⟨Nat.le_trans p4.1 P2.touch.size, p4.2.1, fun d hd => by
    obtain ⟨D', k1, k2, k3, k4⟩ := p4.2.2 d hd
    refine ⟨D', k1, k2, ?_, k4⟩
    rw [← hw2, World.putObj_heap_other (fun e => by subst e; rw [hl1] at k3; cases k3)]
    exact k3⟩
   refine ⟨w2, hbr, wpIn_mono (hb.run w.heap.size ρ3 ι3 a1 w2 p1 hS3 hM3) fun ex a2 w3 hq => ?_⟩
   have fin : ∀ (j : Option Code) (e2 : Env) (H2 : AH) (ρ4 : Rho) (ι4 : Imm) (x' : X), Nx x a j x' → Ent C.N n0 e2 H2 [] (Hb x') → ER ρ4 ι4 C.N e2 a2 → SR ρ4 ι4 H2 w3 → WentB n0 ρ3 ι3 H1 w2 ρ4 ι4 H2 w3 →
    ∃ v w', (Instr.endRound l j).run C.P w3 = .ok v w' ∧ CPost (fun r H' => ∃ j x', Nx x a j x' ∧ r = AV.bool j.isNone ∧ H' = ⟨1, [(0, .sem (LoopS l (recOf fn a0.tmps ps assign body D j) ρ0 ι0 (Hb x')))]⟩) (fun _ _ => False) ρ ι ⟨1, [(0, .sem (LoopS l (recOf fn a0.tmps ps assign body D none) ρ0 ι0 (Hb x)))]⟩ w (.returned v) w' := by
    intro j e2 H2 ρ4 ι4 x' hN hent q1 q2 q3
    obtain ⟨ρ5, ι5, r1, r2, r3⟩ := hent.run ρ4 ι4 a2 w3 q1 q2
    have W := q3.trans r3
    have hl3 : w3.heap[l]? = some (.loop { recOf fn a0.tmps ps assign body D none with state := .busy }) := (q3.touch.block l (Array.getElem?_eq_some_iff.1 hl2).1 off1).trans hl2
    have hend := run_endRound (P := C.P) j hl3
    have erec : ({ { recOf fn a0.tmps ps assign body D none with state := .busy } with state := if j.isNone then .ready else .done, pending := j } : Loop) = recOf fn a0.tmps ps assign body D j := rfl
    rw [erec] at hend
    obtain ⟨w4, hw4⟩ : ∃ w4, w3.putObj l (.loop (recOf fn a0.tmps ps assign body D j)) = w4 := ⟨_, rfl⟩
    rw [hw4] at hend
    have off5 : ¬ (Hb x').foot ρ5 l := fun hf => by
     rcases W.grow l hf with h1 | h1
     ·exact off1 h1
     ·have := (Array.getElem?_eq_some_iff.1 hl2).1; omega
    have hS5 : SR ρ5 ι5 (Hb x') w4 := r2.still (by rw [← hw4]; exact (touch_put w3 l _).weaken fun k hk => by subst hk; exact ⟨loop_cell hl3, off5⟩)
    have P4 : Pass l n0 ρ5 ι5 (Hb x') w3 ρ5 ι5 (Hb x') w4 := by rw [← hw4]; exact Pass.put _
    have PP : Pass l n0 ρ2 ι (Hb x) w ρ5 ι5 (Hb x') w4 := ((P1.trans P2).trans (Pass.of W)).trans P4
    have hl4 : w4.heap[l]? = some (.loop (recOf fn a0.tmps ps assign body D j)) := by rw [← hw4]; exact put_at hl3
    have hle : Rho.le ρ0 ρ5 := fun h u hu => by
     have hh : h < n0 := by
      rcases Nat.lt_or_ge h n0 with g | g
      ·exact g
      ·rw [hfr h g] at hu; cases hu
     obtain ⟨u1, g1, g2, g3⟩ := hB.le h u hu
     obtain ⟨u2, k1, k2, k3⟩ := PP.agree h u1 hh g1
     exact ⟨u2, k1, k2.trans g2, k3.trans g3⟩
    refine ⟨.bool j.isNone, w4, hend, AV.bool j.isNone, _, ρ.upd 0 { hv with foot := fun k => k = l ∨ (Hb x').foot ρ5 k }, ι5, ⟨j, x', hN, rfl, rfl⟩, by simp only [AV.R, IV.R], ?_, ?_⟩
    ·refine ⟨hS5.imm, hS5.one, fun p hp => ?_, fun h hh => ?_, by simp, fun p hp q hq hpq => ?_, fun p hp u hu k o v hk hi => ?_, fun p hp u hu k hk => ?_⟩
     ·rw [List.mem_singleton] at hp
      subst hp
      exact ⟨_, Rho.upd_same _ _ _, hi0.trans PP.imm, hl4, ρ5, hle, fun k => Iff.rfl, off5, hS5.rel, hS5.fresh, hS5.nodup, hS5.apart⟩
     ·have hh' : 1 ≤ h := hh
      unfold Rho.upd
      rw [if_neg (by omega)]
      exact hS.fresh h hh
     ·rw [List.mem_singleton] at hp hq
      exact absurd (by rw [hp, hq]) hpq
     ·rw [List.mem_singleton] at hp
      subst hp
      rw [Rho.upd_same] at hu
      injection hu with hu
      subst hu
      rcases hk with hk | hk
      ·subst hk
       have := hS5.imm k o v hi
       rw [loop_cell hl4] at this
       cases this
      ·obtain ⟨p, hp, u, hu, hk⟩ := hk
       exact hS5.iapart p hp u hu k o v hk hi
     ·rw [List.mem_singleton] at hp
      subst hp
      rw [Rho.upd_same] at hu
      injection hu with hu
      subst hu
      rcases hk with hk | hk
      ·subst hk; exact (Array.getElem?_eq_some_iff.1 hl4).1
      ·obtain ⟨p, hp, u, hu, hk⟩ := hk
       exact hS5.lt p hp u hu k hk
    ·have foot0 : ∀ k, hv.foot k → (AH.mk 1 [(0, Chunk.sem (LoopS l (recOf fn a0.tmps ps assign body D none) ρ0 ι0 (Hb x)))]).foot ρ k := fun k hk => ⟨_, hmem, hv, hr0, hk⟩
     refine ⟨PP.touch.weaken fun k hk => foot0 k ((hB.foot k).2 hk), fun k hk => ?_, PP.imm, fun b o v hi => ?_, fun h u hu => ?_⟩
     ·obtain ⟨p, hp, u, hu, hk⟩ := hk
      rw [List.mem_singleton] at hp
      subst hp
      rw [Rho.upd_same] at hu
      injection hu with hu
      subst hu
      rcases hk with hk | hk
      ·exact .inl (foot0 k ((hB.foot k).2 (.inl hk)))
      ·rcases PP.grow k hk with h1 | h1
       ·exact .inl (foot0 k ((hB.foot k).2 (.inr h1)))
       ·exact .inr h1
     ·rcases PP.immNew b o v hi with h1 | h1 | h1
      ·exact .inl h1
      ·exact .inr (.inl (foot0 b ((hB.foot b).2 (.inr h1))))
      ·exact .inr (.inr h1)
     ·by_cases h0 : h = 0
      ·subst h0
       rw [hr0] at hu
       injection hu with hu
       subst hu
       exact ⟨_, Rho.upd_same _ _ _, rfl, rfl⟩
      ·exact ⟨u, by unfold Rho.upd; rw [if_neg h0]; exact hu, rfl, rfl⟩
   cases ex with
   | normal =>
     obtain ⟨e2, H2, ρ4, ι4, ⟨x', hN, hent⟩, q1, q2, q3, _⟩ := hq
     exact fin none e2 H2 ρ4 ι4 x' hN hent q1 q2 q3
   | exit id =>
     obtain ⟨e2, H2, ρ4, ι4, ⟨x', hN, hent⟩, q1, q2, q3, _⟩ := hq
     exact fin (some (.exit id)) e2 H2 ρ4 ι4 x' hN hent q1 q2 q3
   | ret =>
     obtain ⟨e2, H2, ρ4, ι4, ⟨x', hN, hent⟩, q1, q2, q3, _⟩ := hq
     exact fin (some .ret) e2 H2 ρ4 ι4 x' hN hent q1 q2 q3
   | goto t => exact hq.elim
   | panic ch => obtain ⟨v, _, r, H', ρ', ι', k, _⟩ := hq; exact k.elim
   | outgrown => exact hq.elim
 | exit id => obtain ⟨_, _, _, _, k, _⟩ := hq; exact k.elim
 | ret => obtain ⟨_, _, _, _, k, _⟩ := hq; exact k.elim
 | goto t => exact hq.elim
 | panic ch => obtain ⟨v, _, r, H', ρ', ι', k, _⟩ := hq; exact k.elim
 | outgrown => exact hq.elim
end Go.Proofs.YtgfkepebfaiepaaGreatDoor.Ax

namespace Go.Proofs.YtgfkepebfaiepaaGreatDoor.Ax
open Go.RowKit
def keepK (l : List Nat) : List (Nat × Chunk) → List (Nat × Chunk)
 | [] => []
 | p :: ps => bif l.any (Nat.beq p.1) then p :: keepK l ps else keepK l ps
theorem keep_mem {l : List Nat} : ∀ {c : List (Nat × Chunk)}, ∀ p ∈ keepK l c, p ∈ c ∧ p.1 ∈ l
 | [], p, hp => by cases hp
 | q :: qs, p, hp => by
   simp only [keepK] at hp
   cases hb : l.any (Nat.beq q.1) with
   | true =>
     rw [hb] at hp
     simp only [cond_true, List.mem_cons] at hp
     rcases hp with rfl | hp
     ·refine ⟨List.mem_cons_self .., ?_⟩
      obtain ⟨x, h1, h2⟩ := List.any_eq_true.1 hb
      rw [Nat.eq_of_beq_eq_true h2]; exact h1
     ·obtain ⟨h1, h2⟩ := keep_mem p hp; exact ⟨List.mem_cons_of_mem _ h1, h2⟩
   | false =>
     rw [hb] at hp
     obtain ⟨h1, h2⟩ := keep_mem p hp; exact ⟨List.mem_cons_of_mem _ h1, h2⟩
theorem keep_nodup {l : List Nat} : ∀ {c : List (Nat × Chunk)}, (c.map (·.1)).Nodup → ((keepK l c).map (·.1)).Nodup
 | [], _ => by simp [keepK]
 | q :: qs, h => by
   simp only [List.map_cons, List.nodup_cons] at h
   simp only [keepK]
   cases hb : l.any (Nat.beq q.1) with
   | true =>
     simp only [cond_true, List.map_cons, List.nodup_cons]
     refine ⟨fun hm => h.1 ?_, keep_nodup h.2⟩
     obtain ⟨p, hp, e⟩ := List.mem_map.1 hm
     rw [← e]; exact List.mem_map_of_mem (keep_mem p hp).1
   | false => exact keep_nodup h.2
def AV.flat (B : Nat → Bool) : AV → Bool
 | .iv _ => true
 | .ptr h _ => B h
 | .el h _ _ _ => B h
 | .row h _ _ _ => B h
 | .mp h => B h
 | _ => false
def Chunk.flat (B : Nat → Bool) : Chunk → Bool
 | .cells _ cs => cs.all (AV.flat B)
 | .maph .. => false
 | .mapit .. => false
 | _ => true
def Agree (B : Nat → Bool) (ρ ρ' : Rho) : Prop := ∀ h hv, B h = true → ρ h = some hv → ∃ hu : HV, ρ' h = some hu ∧ hu.blk = hv.blk ∧ hu.room = hv.room
theorem AV.flat_R {B : Nat → Bool} {ρ ρ' : Rho} {ι : Imm} (ha : Agree B ρ ρ') : ∀ (x : AV) (v : Value), x.flat B = true → x.R ρ ι v → x.R ρ' ι v
 | .iv x, v, _, h => by simpa only [AV.R] using h
 | .ptr h off, v, hb, hR => by
   simp only [AV.R] at hR ⊢
   obtain ⟨hv, b, h1, h2, h3⟩ := hR
   obtain ⟨hu, g1, g2, _⟩ := ha _ _ hb h1
   exact ⟨hu, b, g1, g2.trans h2, h3⟩
 | .el h sz i fo, v, hb, hR => by
   simp only [AV.R] at hR ⊢
   obtain ⟨hv, b, h1, h2, h3⟩ := hR
   obtain ⟨hu, g1, g2, _⟩ := ha _ _ hb h1
   exact ⟨hu, b, g1, g2.trans h2, h3⟩
 | .row h sz off len, v, hb, hR => by
   simp only [AV.R] at hR ⊢
   obtain ⟨A, c, h1, h2, h3, h4⟩ := hR
   refine ⟨A, c, h1, h2, h3, fun h0 => ?_⟩
   obtain ⟨hv, b, g1, g2, g3, g4⟩ := h4 h0
   obtain ⟨hu, k1, k2, k3⟩ := ha _ _ hb g1
   exact ⟨hu, b, k1, k2.trans g2, g3, by rw [k3]; exact g4⟩
 | .mp h, v, hb, hR => by
   simp only [AV.R] at hR ⊢
   obtain ⟨hv, b, h1, h2, h3⟩ := hR
   obtain ⟨hu, g1, g2, _⟩ := ha _ _ hb h1
   exact ⟨hu, b, g1, g2.trans h2, h3⟩
 | .agg _, _, hb, _ => by cases hb
 | .tup _, _, hb, _ => by cases hb
 | .ifc .., _, hb, _ => by cases hb
 | .fnc .., _, hb, _ => by cases hb
 | .pp _, _, hb, _ => by cases hb
 | .sl .., _, hb, _ => by cases hb
 | .junk, _, hb, _ => by cases hb
 | .anyb, _, hb, _ => by cases hb
theorem AV.flats_R {B : Nat → Bool} {ρ ρ' : Rho} {ι : Imm} (ha : Agree B ρ ρ') : ∀ (xs : List AV) (vs : List Value), xs.all (AV.flat B) = true → AV.Rs ρ ι xs vs → AV.Rs ρ' ι xs vs
 | [], vs, _, h => by simpa only [AV.Rs] using h
 | x :: xs, vs, hb, h => by
   simp only [List.all_cons, Bool.and_eq_true] at hb
   simp only [AV.Rs] at h ⊢
   obtain ⟨u, us, e, h1, h2⟩ := h
   exact ⟨u, us, e, AV.flat_R ha x u hb.1 h1, AV.flats_R ha xs us hb.2 h2⟩
theorem Chunk.flat_R {B : Nat → Bool} {ρ ρ' : Rho} {ι : Imm} {hv : HV} {w : World} (ha : Agree B ρ ρ') {c : Chunk} (hb : c.flat B = true) (h : c.R ρ ι hv w) : c.R ρ' ι hv w := by
 cases c with
 | cells e cs =>
   obtain ⟨b, vs, h1, h2, h3, h4⟩ := h
   exact ⟨b, vs, h1, h2, h3, AV.flats_R ha cs vs hb h4⟩
 | maph kk m => cases hb
 | mapit kk m left i la => cases hb
 | rowc e sz n f => exact h
 | brow e l => exact h
 | map kk m => exact h
 | icells cs => exact h
 | gmap g kk m es clock => exact h
 | sem S => exact h
theorem go_keep {l : List Nat} : ∀ {c : List (Nat × Chunk)}, ∀ p ∈ mergeH.go l c, ∀ q ∈ keepK l c, p.1 ≠ q.1 := fun p hp q hq e => (merge_go p hp).2 q.1 (keep_mem q hq).2 e
abbrev yieldV (l : Nat) : AV := .iv (.v (.func (.yield l) ⟨[]⟩ ⟨[]⟩))
set_option maxHeartbeats 1000000 in
theorem AWP.range {C : Cfg} (hro : C.ro = none) {X A : Type} {g : Operand} {ps : Array Tmp} {assign body : Code} {e : Env} {H : AH} {q : Post}
 (lI : List Nat) {gf : FuncId} {b c : List AV} (hg : opd e g = .fnc (.func gf) b c)
 (enc : A → List IV) (hps : ∀ a, (enc a).length = ps.size)
 (Hb : X → AH) (x0 : X) (Al : X → A → Prop) (Nx : X → A → Option Code → X → Prop) (Fin : X → Option Code → List (Nat × Chunk) → Prop)
 (hnext : ∀ x, H.next ≤ (Hb x).next)
 (hdis : ∀ x j L, Fin x j L → ∀ p ∈ L, ∀ r ∈ (Hb x).ch, p.1 ≠ r.1)
 (hflat : ∀ x j L, Fin x j L → ∀ p ∈ L, (H.get p.1).isSome = true ∧ p.2.flat (fun h => (H.get h).isSome) = true)
 (h0 : HEnt ⟨H.next, mergeH.go lI H.ch⟩ (Hb x0))
 (hround : ∀ l x a, Al x a → AWP { C with ro := some l, base := H.next } assign (putPs C.N e ps.toList ((enc a).map .iv)) (Hb x) ⟨fun e1 H1 => AWP { C with ro := some l, base := H.next } body e1 H1 (JQ C.N H.next Hb Nx x a), fun _ _ _ => False, fun _ _ => False, fun _ _ => False⟩)
 (hit : ∀ (l : Nat) (Bd : X → Option Code → SemP), (∀ x a, Al x a → YCall C.P l ((enc a).map .iv) ⟨1, [(0, .sem (Bd x none))]⟩ (fun r H' => ∃ j x', Nx x a j x' ∧ r = AV.bool j.isNone ∧ H' = ⟨1, [(0, .sem (Bd x' j))]⟩) (fun _ _ => False)) →
   ACall C.P gf (b ++ [yieldV l] ++ c) ⟨H.next + 1, keepK lI H.ch ++ [(H.next, .sem (Bd x0 none))]⟩ (fun _ H' => ∃ x j L nx, Fin x j L ∧ H' = ⟨nx, L ++ [(H.next, .sem (Bd x j))]⟩) (fun _ _ => False))
 (hend : ∀ x j L, Fin x j L → match j with
   | none => q.n e ⟨(Hb x).next, (Hb x).ch ++ L⟩
   | some (.exit id) => q.x id e ⟨(Hb x).next, (Hb x).ch ++ L⟩
   | some .ret => q.r e ⟨(Hb x).next, (Hb x).ch ++ L⟩
   | some _ => False) : AWP C (.rangeFunc g ps assign body) e H q := by
 refine ⟨fun lo ρ ι a w hE hS hM => ?_⟩
 rw [hro]
 refine wpIn_rangeFunc fun fn _ => ?_
 obtain ⟨w1, hw1⟩ : ∃ w1, (w.alloc (.deferred (some []))).alloc (.loop (recOf fn a.tmps ps assign body w.heap.size none)) = w1 := ⟨_, rfl⟩
 have hs1 : w1.heap.size = w.heap.size + 2 := by rw [← hw1]; simp
 have ht1 : Touch (fun _ => False) w w1 := by
  refine ⟨by rw [← hw1]; rfl, by rw [← hw1]; rfl, by rw [← hw1]; rfl, by omega, fun k hk _ => ?_⟩
  rw [← hw1]
  exact (Below.heap_alloc _ _ k (by simp; omega)).trans (Below.heap_alloc _ _ k hk)
 have hD1 : w1.heap[w.heap.size]? = some (.deferred (some [])) := by
  rw [← hw1]
  exact (Below.heap_alloc _ _ _ (by simp)).trans (World.alloc_heap_new w _)
 have hl1 : w1.heap[w.heap.size + 1]? = some (.loop (recOf fn a.tmps ps assign body w.heap.size none)) := by
  rw [← hw1]
  have := World.alloc_heap_new (w.alloc (.deferred (some []))) (.loop (recOf fn a.tmps ps assign body w.heap.size none))
  rwa [World.size_alloc] at this
 have henter : (Instr.enterLoop fn a.tmps ps assign body none).run C.P w = .ok (w.heap.size + 1, [{ target := .collected w.heap.size, args := #[] }]) w1 := by
  rw [← hw1]; exact run_enterLoop_outer _ _ _ _ _
 generalize hl : w.heap.size + 1 = l at hl1 henter
 have hS1 : SR ρ ι H w1 := hS.still (ht1.weaken fun _ h => h.elim)
 have hgo : ∀ p ∈ mergeH.go lI H.ch, p ∈ H.ch := fun p hp => (merge_go p hp).1
 have hke : ∀ p ∈ keepK lI H.ch, p ∈ H.ch := fun p hp => (keep_mem p hp).1
 have hSr : SR ρ ι ⟨H.next, mergeH.go lI H.ch⟩ w1 := hS1.sub hgo (merge_go_nodup hS.nodup)
 obtain ⟨ρ1, ι1, hSb, hW1⟩ := h0.run ρ ι w1 hSr
 have hft : ∀ p ∈ H.ch, ∀ u, ρ p.1 = some u → ∀ k, u.foot k → k < w.heap.size := fun p hp u hu k hk => hS.lt p hp u hu k hk
 have footr : ∀ k, (AH.mk H.next (mergeH.go lI H.ch)).foot ρ k → H.foot ρ k ∧ k < w.heap.size := fun k ⟨p, hp, u, hu, hk⟩ => ⟨⟨p, hgo p hp, u, hu, hk⟩, hft p (hgo p hp) u hu k hk⟩
 have footb : ∀ k, (Hb x0).foot ρ1 k → H.foot ρ k ∧ k < w.heap.size ∧ (AH.mk H.next (mergeH.go lI H.ch)).foot ρ k := fun k hk => by
  rcases hW1.grow k hk with h1 | h1
  ·exact ⟨(footr k h1).1, (footr k h1).2, h1⟩
  ·obtain ⟨p, hp, u, hu, hk⟩ := hk
   have := hSb.lt p hp u hu k hk
   omega
 have hfr : ∀ h, H.next ≤ h → ρ h = none := hS.fresh
 let Bd : X → Option Code → SemP := fun x j => LoopS l (recOf fn a.tmps ps assign body w.heap.size j) ρ ι (Hb x)
 have hY : ∀ x a', Al x a' → YCall C.P l ((enc a').map .iv) ⟨1, [(0, .sem (Bd x none))]⟩ (fun r H' => ∃ j x', Nx x a' j x' ∧ r = AV.bool j.isNone ∧ H' = ⟨1, [(0, .sem (Bd x' j))]⟩) (fun _ _ => False) := fun x a' ha => loop_yield enc Hb Nx hE hfr (hps a') (hround l x a' ha)
 have hcall := hit l Bd hY
 obtain ⟨hvB, hhB⟩ : ∃ hvB : HV, hvB = { blk := none, room := 0, foot := fun k => k = l ∨ (Hb x0).foot ρ1 k } := ⟨_, rfl⟩
 have hvF : ∀ k, hvB.foot k ↔ k = l ∨ (Hb x0).foot ρ1 k := fun k => by rw [hhB]
 have offl : ¬ (Hb x0).foot ρ1 l := fun hf => by have := (footb l hf).2.1; omega
 have hkl : ∀ p ∈ H.ch, p.1 < H.next := fun p hp => by
  obtain ⟨u, h1, _⟩ := hS.rel p hp
  rcases Nat.lt_or_ge p.1 H.next with h2 | h2
  ·exact h2
  ·rw [hS.fresh _ h2] at h1; cases h1
 have hupd : ∀ h, h < H.next → (ρ.upd H.next hvB) h = ρ h := fun h hh => by unfold Rho.upd; rw [if_neg (by omega)]
 have hSI : SR (ρ.upd H.next hvB) ι1 ⟨H.next + 1, keepK lI H.ch ++ [(H.next, .sem (Bd x0 none))]⟩ w1 := by
  have mem : ∀ p ∈ keepK lI H.ch ++ [(H.next, Chunk.sem (Bd x0 none))], (p ∈ keepK lI H.ch ∧ (ρ.upd H.next hvB) p.1 = ρ p.1) ∨ p = (H.next, .sem (Bd x0 none)) := fun p hp => by
   rcases List.mem_append.1 hp with hp | hp
   ·exact .inl ⟨hp, hupd _ (hkl p (hke p hp))⟩
   ·rw [List.mem_singleton] at hp; exact .inr hp
  refine ⟨hSb.imm, hSb.one, fun p hp => ?_, fun h hh => ?_, ?_, fun p hp q hq hpq x y hx hy k hk hk2 => ?_, fun p hp x hx k o v hk hi => ?_, fun p hp x hx k hk => ?_⟩
  ·rcases mem p hp with ⟨h1, h2⟩ | rfl
   ·obtain ⟨u, g1, g2⟩ := hS1.rel p (hke p h1)
    exact ⟨u, h2.trans g1, g2.keep (Rho.le_upd hvB (hfr _ (Nat.le_refl _))) hW1.imm fun _ _ => rfl⟩
   ·exact ⟨hvB, Rho.upd_same _ _ _, hW1.imm, hl1, ρ1, hW1.agree, hvF, offl, hSb.rel, hSb.fresh, hSb.nodup, hSb.apart⟩
  ·have hh' : H.next + 1 ≤ h := hh
   unfold Rho.upd
   rw [if_neg (by omega)]
   exact hfr h (by omega)
  ·rw [List.map_append, List.nodup_append]
   refine ⟨keep_nodup hS.nodup, by simp, fun x hx y hy e => ?_⟩
   obtain ⟨p, hp, rfl⟩ := List.mem_map.1 hx
   simp at hy
   have := hkl p (hke p hp)
   omega
  ·have farB : ∀ p ∈ keepK lI H.ch, ∀ x, ρ p.1 = some x → ∀ k, x.foot k → ¬ hvB.foot k := fun p hp x hx k hk hk2 => by
    rcases (hvF k).1 hk2 with h1 | h1
    ·have := hft p (hke p hp) x hx k hk; omega
    ·obtain ⟨r, hr, y, hy, hk3⟩ := (footb k h1).2.2
     exact hS.apart p (hke p hp) r (hgo r hr) (fun e => go_keep r hr p hp e.symm) x y hx hy k hk hk3
   rcases mem p hp with ⟨h1, h2⟩ | rfl <;> rcases mem q hq with ⟨h3, h4⟩ | rfl
   ·rw [h2] at hx; rw [h4] at hy
    exact hS.apart p (hke p h1) q (hke q h3) hpq x y hx hy k hk hk2
   ·rw [h2] at hx; rw [Rho.upd_same] at hy; injection hy with hy; subst hy
    exact farB p h1 x hx k hk hk2
   ·rw [h4] at hy; rw [Rho.upd_same] at hx; injection hx with hx; subst hx
    exact farB q h3 y hy k hk2 hk
   ·exact hpq rfl
  ·rcases mem p hp with ⟨h1, h2⟩ | rfl
   ·rw [h2] at hx
    have hlt := hft p (hke p h1) x hx k hk
    rcases hW1.immNew k o v hi with h3 | h3 | h3
    ·exact hS.iapart p (hke p h1) x hx k o v hk h3
    ·obtain ⟨r, hr, y, hy, hk3⟩ := h3
     exact hS.apart p (hke p h1) r (hgo r hr) (fun e => go_keep r hr p h1 e.symm) x y hx hy k hk hk3
    ·omega
   ·rw [Rho.upd_same] at hx; injection hx with hx; subst hx
    rcases (hvF k).1 hk with h1 | h1
    ·subst h1
     have := hSb.imm k o v hi
     rw [loop_cell hl1] at this
     cases this
    ·obtain ⟨r, hr, y, hy, hk⟩ := h1
     exact hSb.iapart r hr y hy k o v hk hi
  ·rcases mem p hp with ⟨h1, h2⟩ | rfl
   ·rw [h2] at hx; exact hS1.lt p (hke p h1) x hx k hk
   ·rw [Rho.upd_same] at hx; injection hx with hx; subst hx
    rcases (hvF k).1 hk with h1 | h1
    ·omega
    ·have := (footb k h1).2.1; omega
 have hgv := opd_ok hE g
 rw [hg] at hgv
 simp only [AV.R] at hgv
 obtain ⟨bs, cs, hge, hrb, hrc⟩ := hgv
 have hleI : Rho.le ρ (ρ.upd H.next hvB) := Rho.le_upd hvB (hfr _ (Nat.le_refl _))
 have hargs : AV.Rs (ρ.upd H.next hvB) ι1 (b ++ [yieldV l] ++ c) (bs ++ [Value.func (.yield l) #[] #[]] ++ cs) :=
  Rs_append (Rs_append (AV.Rs_mono hleI hW1.imm _ _ hrb) (by simp only [AV.Rs, AV.R, IV.R]; exact ⟨_, _, rfl, rfl, rfl⟩)) (AV.Rs_mono hleI hW1.imm _ _ hrc)
 have hrun := hcall.run _ ι1 w1 _ (hE.glob.mono hW1.imm) hSI hargs
 obtain ⟨f0, f1, f2, f3⟩ := hcall.fn
 have hcf : ∀ as : Array Value, (callFunc gf as).run C.P w1 = .ok (.enter gf as) w1 := fun as => by
  simp only [callFunc, Sem.run_bind, run_program, Result.andThen_ok, f1, f2, f3, Bool.false_eq_true, if_false, Sem.run_pure]
 refine ⟨l, [{ target := .collected w.heap.size, args := #[] }], w1, { target := .fn (.func gf) cs.toArray, args := bs.toArray ++ #[Value.func (.yield l) #[] #[]] }, w1, gf, (bs ++ [Value.func (.yield l) #[] #[]] ++ cs).toArray, w1, henter, ?_, fun _ _ => trivial, ?_, fun hd => Bool.noConfusion (show false = true from hd), ?_⟩
 ·have ec : a.eval (.const (.func (.yield l) #[] #[])) = .func (.yield l) #[] #[] := rfl
  simp [resolve, hge, ec, Deferred.ofValue]
 ·simp [invoke, hcf]
 refine (calls_FE hrun).mono fun en w6 hp => ?_
 cases en with
 | outgrown => exact hp.elim
 | panicked ch => obtain ⟨v, _, r, H', ρ', ι', k, _⟩ := hp; exact k.elim
 | returned v =>
   obtain ⟨r, H', ρ6, ι6, ⟨x, j, L, nx, hF, rfl⟩, _, hS6, hW6⟩ := hp
   have hmB : (H.next, Chunk.sem (Bd x j)) ∈ (AH.mk nx (L ++ [(H.next, Chunk.sem (Bd x j))])).ch := List.mem_append_right _ (List.mem_singleton.2 rfl)
   obtain ⟨hvE, hrE, hi6, hl6, ρ7, hB⟩ := hS6.rel _ hmB
   have hLm : ∀ p ∈ L, p ∈ (AH.mk nx (L ++ [(H.next, Chunk.sem (Bd x j))])).ch := fun p hp => List.mem_append_left _ hp
   have hL := hflat x j L hF
   have hdj := hdis x j L hF
   have hend6 : (Instr.endLoop l).run C.P w6 = .ok j (w6.putObj l (.loop { recOf fn a.tmps ps assign body w.heap.size j with state := .exhausted })) := run_endLoop (P := C.P) hl6 (by unfold recOf; cases j <;> simp)
   obtain ⟨w7, hw7⟩ : ∃ w7, w6.putObj l (.loop { recOf fn a.tmps ps assign body w.heap.size j with state := .exhausted }) = w7 := ⟨_, rfl⟩
   rw [hw7] at hend6
   have ht7 : Touch (fun k => k = l) w6 w7 := by rw [← hw7]; exact touch_put w6 l _
   have hS7 : SR ρ6 ι6 ⟨nx, L⟩ w6 := ⟨hS6.imm, hS6.one, fun p hp => hS6.rel p (hLm p hp), hS6.fresh, (List.nodup_append.1 (by have := hS6.nodup; rwa [List.map_append] at this)).1, fun p hp q hq => hS6.apart p (hLm p hp) q (hLm q hq), fun p hp => hS6.iapart p (hLm p hp), fun p hp => hS6.lt p (hLm p hp)⟩
   have in6 : ∀ p ∈ (Hb x).ch, ∀ u, ρ7 p.1 = some u → ∀ k, u.foot k → hvE.foot k := fun p hp u hu k hk => (hB.foot k).2 (.inr ⟨p, hp, u, hu, hk⟩)
   let ρc : Rho := fun h => if (L.any fun p => Nat.beq p.1 h) = true then ρ6 h else ρ7 h
   have cL : ∀ p ∈ L, ρc p.1 = ρ6 p.1 := fun p hp => if_pos (List.any_eq_true.2 ⟨p, hp, by simp⟩)
   have cB : ∀ p ∈ (Hb x).ch, ρc p.1 = ρ7 p.1 := fun p hp => if_neg (by
    rw [List.any_eq_true]
    rintro ⟨r, hr, e1⟩
    exact hdj r hr p hp (Nat.eq_of_beq_eq_true e1))
   have ag6 : ∀ h u, ρ h = some u → ∃ hu : HV, ρ6 h = some hu ∧ hu.blk = u.blk ∧ hu.room = u.room := fun h u hu => hW6.agree h u (by
    have hh : h < H.next := by
     rcases Nat.lt_or_ge h H.next with g | g
     ·exact g
     ·rw [hfr h g] at hu; cases hu
    rw [hupd h hh]; exact hu)
   have hle7 : Rho.le ρ ρ7 := hB.le
   have alive : ∀ h, (H.get h).isSome = true → ∃ u, ρ h = some u := fun h hh => by
    obtain ⟨c, hc⟩ := Option.isSome_iff_exists.1 hh
    obtain ⟨u, hu, _⟩ := hS.hv hc
    exact ⟨u, hu⟩
   have hlec : Rho.le ρ ρc := fun h u hu => by
    by_cases hm : (L.any fun p => Nat.beq p.1 h) = true
    ·simp only [ρc, if_pos hm]; exact ag6 h u hu
    ·simp only [ρc, if_neg hm]; exact hle7 h u hu
   have le7c : Rho.le ρ7 ρc := fun h u hu => by
    by_cases hm : (L.any fun p => Nat.beq p.1 h) = true
    ·simp only [ρc, if_pos hm]
     obtain ⟨p, hp, e1⟩ := List.any_eq_true.1 hm
     have e1 := Nat.eq_of_beq_eq_true e1
     subst e1
     obtain ⟨u0, hu0⟩ := alive _ (hL p hp).1
     obtain ⟨u1, g1, g2, g3⟩ := hle7 _ u0 hu0
     obtain ⟨u2, k1, k2, k3⟩ := ag6 _ u0 hu0
     rw [hu] at g1
     injection g1 with g1
     subst g1
     exact ⟨u2, k1, k2.trans g2.symm, k3.trans g3.symm⟩
    ·simp only [ρc, if_neg hm]; exact ⟨u, hu, rfl, rfl⟩
   have ag6c : Agree (fun h => (H.get h).isSome) ρ6 ρc := fun h u hh hu => by
    obtain ⟨u0, hu0⟩ := alive h hh
    obtain ⟨u1, g1, g2, g3⟩ := hlec h u0 hu0
    obtain ⟨u2, k1, k2, k3⟩ := ag6 h u0 hu0
    rw [hu] at k1
    injection k1 with k1
    subst k1
    exact ⟨u1, g1, g2.trans k2.symm, g3.trans k3.symm⟩
   have footI : ∀ k, (AH.mk (H.next + 1) (keepK lI H.ch ++ [(H.next, Chunk.sem (Bd x0 none))])).foot (ρ.upd H.next hvB) k → k = l ∨ (H.foot ρ k ∧ k < w.heap.size) := fun k ⟨p, hp, u, hu, hk⟩ => by
    rcases List.mem_append.1 hp with hp | hp
    ·rw [hupd _ (hkl p (hke p hp))] at hu
     exact .inr ⟨⟨p, hke p hp, u, hu, hk⟩, hft p (hke p hp) u hu k hk⟩
    ·rw [List.mem_singleton] at hp
     subst hp
     rw [Rho.upd_same] at hu
     injection hu with hu
     subst hu
     rcases (hvF k).1 hk with h1 | h1
     ·exact .inl h1
     ·exact .inr ⟨(footb k h1).1, (footb k h1).2.1⟩
   have footE : ∀ k, hvE.foot k → k = l ∨ H.foot ρ k ∨ w1.heap.size ≤ k := fun k hk => by
    rcases hW6.grow k ⟨_, hmB, hvE, hrE, hk⟩ with h1 | h1
    ·rcases footI k h1 with h2 | h2
     ·exact .inl h2
     ·exact .inr (.inl h2.1)
    ·exact .inr (.inr h1)
   have footL : ∀ p ∈ L, ∀ u, ρ6 p.1 = some u → ∀ k, u.foot k → k = l ∨ H.foot ρ k ∨ w1.heap.size ≤ k := fun p hp u hu k hk => by
    rcases hW6.grow k ⟨p, hLm p hp, u, hu, hk⟩ with h1 | h1
    ·rcases footI k h1 with h2 | h2
     ·exact .inl h2
     ·exact .inr (.inl h2.1)
    ·exact .inr (.inr h1)
   have notl : ∀ p ∈ L, ∀ u, ρ6 p.1 = some u → ¬ u.foot l := fun p hp u hu hk => by
    have hne : p.1 ≠ H.next := fun e => by
     obtain ⟨c0, hc0⟩ := Option.isSome_iff_exists.1 (hL p hp).1
     have := hkl _ (AH.get_mem hc0)
     simp only at this
     omega
    exact hS6.apart p (hLm p hp) _ hmB hne u hvE hu hrE l hk ((hB.foot l).2 (.inl rfl))
   have farLB : ∀ p ∈ L, ∀ u, ρ6 p.1 = some u → ∀ k, u.foot k → ¬ hvE.foot k := fun p hp u hu k hk => by
    have hne : p.1 ≠ H.next := fun e => by
     obtain ⟨c0, hc0⟩ := Option.isSome_iff_exists.1 (hL p hp).1
     have := hkl _ (AH.get_mem hc0)
     simp only at this
     omega
    exact hS6.apart p (hLm p hp) _ hmB hne u hvE hu hrE k hk
   have imm7 : ∀ b o v, ι6 b o = some v → w7.cell? ⟨b, o, none⟩ = some v := fun b o v hi => by
    have h1 := hS6.imm b o v hi
    rw [← h1]
    refine World.cell?_of_block (ht7.block b (World.block_lt_of_cell? w6 _ h1) fun e => ?_)
    subst e
    rw [loop_cell hl6] at h1
    cases h1
   obtain ⟨Hc, hHc⟩ : ∃ Hc : AH, Hc = ⟨(Hb x).next, (Hb x).ch ++ L⟩ := ⟨_, rfl⟩
   have memc : ∀ p ∈ Hc.ch, (p ∈ (Hb x).ch ∧ ρc p.1 = ρ7 p.1) ∨ (p ∈ L ∧ ρc p.1 = ρ6 p.1) := fun p hp => by
    rw [hHc] at hp
    rcases List.mem_append.1 hp with hp | hp
    ·exact .inl ⟨hp, cB p hp⟩
    ·exact .inr ⟨hp, cL p hp⟩
   have hSc : SR ρc ι6 Hc w7 := by
    refine ⟨imm7, hS6.one, fun p hp => ?_, fun h hh => ?_, ?_, fun p hp q hq hpq x2 y hx hy k hk hk2 => ?_, fun p hp x2 hx k o v hk hi => ?_, fun p hp x2 hx k hk => ?_⟩
    ·rcases memc p hp with ⟨h1, h2⟩ | ⟨h1, h2⟩
     ·obtain ⟨u, g1, g2⟩ := hB.rel p h1
      exact ⟨u, h2.trans g1, g2.keep le7c (Imm.le.refl _) fun k hk => ht7.block k (hS6.lt _ hmB hvE hrE k (in6 p h1 u g1 k hk)) fun e => hB.off (by subst e; exact ⟨p, h1, u, g1, hk⟩)⟩
     ·obtain ⟨u, g1, g2⟩ := hS7.rel p h1
      exact ⟨u, h2.trans g1, (Chunk.flat_R ag6c (hL p h1).2 g2).keep (Rho.le.refl _) (Imm.le.refl _) fun k hk => ht7.block k (hS6.lt p (hLm p h1) u g1 k hk) fun e => notl p h1 u g1 (by subst e; exact hk)⟩
    ·have hh' : (Hb x).next ≤ h := by rw [hHc] at hh; exact hh
     have hm : ¬ (L.any fun p => Nat.beq p.1 h) = true := by
      rw [List.any_eq_true]
      rintro ⟨p, hp, e1⟩
      have e1 := Nat.eq_of_beq_eq_true e1
      obtain ⟨c0, hc0⟩ := Option.isSome_iff_exists.1 (hL p hp).1
      have h2 := hkl _ (AH.get_mem hc0)
      have h3 := hnext x
      simp only at h2
      omega
     simp only [ρc, if_neg hm]
     exact hB.fresh h hh'
    ·rw [hHc, List.map_append, List.nodup_append]
     refine ⟨hB.nodup, hS7.nodup, fun x2 hx y hy e1 => ?_⟩
     obtain ⟨p, hp, rfl⟩ := List.mem_map.1 hx
     obtain ⟨q, hq, rfl⟩ := List.mem_map.1 hy
     exact hdj q hq p hp e1.symm
    ·rcases memc p hp with ⟨h1, h2⟩ | ⟨h1, h2⟩ <;> rcases memc q hq with ⟨h3, h4⟩ | ⟨h3, h4⟩
     ·rw [h2] at hx; rw [h4] at hy; exact hB.apart p h1 q h3 hpq x2 y hx hy k hk hk2
     ·rw [h2] at hx; rw [h4] at hy; exact farLB q h3 y hy k hk2 (in6 p h1 x2 hx k hk)
     ·rw [h2] at hx; rw [h4] at hy; exact farLB p h1 x2 hx k hk (in6 q h3 y hy k hk2)
     ·rw [h2] at hx; rw [h4] at hy; exact hS7.apart p h1 q h3 hpq x2 y hx hy k hk hk2
    ·rcases memc p hp with ⟨h1, h2⟩ | ⟨h1, h2⟩
     ·rw [h2] at hx; exact hS6.iapart _ hmB hvE hrE k o v (in6 p h1 x2 hx k hk) hi
     ·rw [h2] at hx; exact hS7.iapart p h1 x2 hx k o v hk hi
    ·refine Nat.lt_of_lt_of_le ?_ ht7.size
     rcases memc p hp with ⟨h1, h2⟩ | ⟨h1, h2⟩
     ·rw [h2] at hx; exact hS6.lt _ hmB hvE hrE k (in6 p h1 x2 hx k hk)
     ·rw [h2] at hx; exact hS7.lt p h1 x2 hx k hk
   have footc : ∀ k, Hc.foot ρc k → H.foot ρ k ∨ w1.heap.size ≤ k := fun k ⟨p, hp, u, hu, hk⟩ => by
    rcases memc p hp with ⟨h1, h2⟩ | ⟨h1, h2⟩
    ·rw [h2] at hu
     rcases footE k (in6 p h1 u hu k hk) with h3 | h3
     ·subst h3; exact absurd ⟨p, h1, u, hu, hk⟩ hB.off
     ·exact h3
    ·rw [h2] at hu
     rcases footL p h1 u hu k hk with h3 | h3
     ·subst h3; exact absurd hk (notl p h1 u hu)
     ·exact h3
   have keep7 : ∀ k, k < w1.heap.size → k ≠ l → ¬ (H.foot ρ k ∧ k < w.heap.size) → w7.heap[k]? = w1.heap[k]? := fun k hk hkl2 hn =>
    (ht7.block k (Nat.lt_of_lt_of_le hk hW6.touch.size) hkl2).trans (hW6.touch.block k hk fun hf => by
      rcases footI k hf with h1 | h1
      ·exact hkl2 h1
      ·exact hn h1)
   have hsz : w1.heap.size ≤ w7.heap.size := Nat.le_trans hW6.touch.size ht7.size
   have hWc : WentB C.base ρ ι H w ρc ι6 Hc w7 := by
    refine ⟨⟨ht7.os.trans (hW6.touch.os.trans ht1.os), ht7.tape.trans (hW6.touch.tape.trans ht1.tape), ht7.output.trans (hW6.touch.output.trans ht1.output), by omega, fun k hk hn => ?_⟩, fun k hk => ?_, hW1.imm.trans hW6.imm, fun b o v hi => ?_, fun h u _ hu => hlec h u hu⟩
    ·exact (keep7 k (by omega) (by omega) fun x => hn x.1).trans (ht1.block k hk fun f => f.elim)
    ·rcases footc k hk with h1 | h1
     ·exact .inl h1
     ·exact .inr (by omega)
    ·rcases hW6.immNew b o v hi with h1 | h1 | h1
     ·rcases hW1.immNew b o v h1 with h2 | h2 | h2
      ·exact .inl h2
      ·exact .inr (.inl (footr b h2).1)
      ·exact .inr (.inr (by omega))
     ·rcases footI b h1 with h2 | h2
      ·exact .inr (.inr (by omega))
      ·exact .inr (.inl h2.1)
     ·exact .inr (.inr (by omega))
   have hMc : Mk lo ρc Hc w7 ([{ target := .collected w.heap.size, args := #[] }] ++ a.defers) := by
    refine ⟨by have := hM.1; omega, ?_, fun d hd => ?_⟩
    ·rw [List.singleton_append, List.nodup_cons]
     refine ⟨fun hd => ?_, hM.2.1⟩
     obtain ⟨D', e1, _, e3, _⟩ := hM.2.2 _ hd
     have : D' < w.heap.size := (Array.getElem?_eq_some_iff.1 e3).1
     injection e1 with e1 _
     injection e1 with e1
     omega
    ·rw [List.singleton_append, List.mem_cons] at hd
     rcases hd with rfl | hd
     ·refine ⟨w.heap.size, rfl, hM.1, (keep7 _ (by omega) (by omega) fun x => by omega).trans hD1, fun hf => ?_⟩
      rcases footc _ hf with h1 | h1
      ·obtain ⟨p, hp, u, hu, hk⟩ := h1
       have := hft p hp u hu _ hk
       omega
      ·omega
     ·obtain ⟨D', e1, e2, e3, e4⟩ := hM.2.2 d hd
      have hlt : D' < w.heap.size := (Array.getElem?_eq_some_iff.1 e3).1
      refine ⟨D', e1, e2, (keep7 D' (by omega) (by omega) fun x => e4 x.1).trans ((ht1.block D' hlt fun f => f.elim).trans e3), fun hf => ?_⟩
      rcases footc _ hf with h1 | h1
      ·exact e4 h1
      ·omega
   have hEc : ER ρc ι6 C.N e { a with defers := [{ target := .collected w.heap.size, args := #[] }] ++ a.defers } := by
    have := hE.mono hlec (hW1.imm.trans hW6.imm)
    exact ⟨this.glob, this.size, this.slot⟩
   have hQ := hend x j L hF
   rw [← hHc] at hQ
   refine ⟨j, w7, hend6, ?_⟩
   cases j with
   | none => exact ⟨e, Hc, ρc, ι6, hQ, hEc, hSc, hWc, hMc⟩
   | some cd =>
     cases cd with
     | exit id => exact wpIn_exit ⟨e, Hc, ρc, ι6, hQ, hEc, hSc, hWc, hMc⟩
     | ret => exact wpIn_ret ⟨e, Hc, ρc, ι6, hQ, hEc, hSc, hWc, hMc⟩
     | _ => exact hQ.elim
def reN (k m : Nat) (h : Nat) : Nat := bif Nat.beq h k then m else h
def renewH (k : Nat) (c : Chunk) (H : AH) : AH := ⟨H.next + 1, go ((H.del k).add c).ch⟩
where go : List (Nat × Chunk) → List (Nat × Chunk)
 | [] => []
 | p :: ps => (p.1, p.2.ren (reN k H.next)) :: go ps
theorem renew_map (k m : Nat) (H : AH) : ∀ L, renewH.go k H L = L.map fun p => (p.1, p.2.ren (reN k H.next))
 | [] => rfl
 | p :: ps => by simp only [renewH.go, List.map_cons, renew_map k m H ps]
theorem HEnt.renew {H : AH} (k : Nat) (c : Chunk) (hc : H.get k = some c) : HEnt H (renewH k c H) := ⟨fun ρ ι w hS => by
 obtain ⟨hv, hr, hR⟩ := hS.hv hc
 have hle0 := Rho.le_upd hv (hS.fresh H.next (Nat.le_refl _))
 obtain ⟨h1, h2⟩ := hS.move hc hr c hv (Touch.refl _ _) (fun j hj => ⟨.inl hj, hS.lt _ (AH.get_mem hc) hv hr j hj⟩) (hR.keep hle0 (Imm.le.refl _) fun _ _ => rfl)
 have hle : Rho.le (ρ.upd H.next hv) (fun h => (ρ.upd H.next hv) (reN k H.next h)) := fun h u hu => by
  unfold reN
  cases hb : Nat.beq h k with
  | true =>
    have := Nat.eq_of_beq_eq_true hb
    subst this
    refine ⟨hv, by show (ρ.upd H.next hv) (bif Nat.beq h h then H.next else h) = some hv; rw [hb]; exact Rho.upd_same _ _ _, ?_⟩
    unfold Rho.upd at hu
    split at hu
    ·injection hu with hu; subst hu; exact ⟨rfl, rfl⟩
    ·rw [hr] at hu; injection hu with hu; subst hu; exact ⟨rfl, rfl⟩
  | false => exact ⟨u, by show (ρ.upd H.next hv) (bif Nat.beq h k then H.next else h) = some u; rw [hb]; exact hu, rfl, rfl⟩
 have mem : ∀ p ∈ (renewH k c H).ch, ∃ q ∈ ((H.del k).add c).ch, p = (q.1, q.2.ren (reN k H.next)) := fun p hp => by
  unfold renewH at hp
  rw [renew_map k 0 H] at hp
  obtain ⟨q, hq, e⟩ := List.mem_map.1 hp
  exact ⟨q, hq, e.symm⟩
 refine ⟨_, ι, ⟨h1.imm, h1.one, fun p hp => ?_, h1.fresh, ?_, fun p hp q hq => ?_, fun p hp => ?_, fun p hp => ?_⟩, ⟨h2.touch, fun j ⟨p, hp, u, hu, hj⟩ => ?_, h2.imm, h2.immNew, h2.agree⟩⟩
 ·obtain ⟨q, hq, rfl⟩ := mem p hp
  obtain ⟨u, g1, g2⟩ := h1.rel q hq
  exact ⟨u, g1, (Chunk.ren_R _ _ ι u w q.2).2 (g2.keep hle (Imm.le.refl _) fun _ _ => rfl)⟩
 ·unfold renewH
  rw [renew_map k 0 H, List.map_map]
  exact h1.nodup
 ·obtain ⟨p', hp', rfl⟩ := mem p hp
  obtain ⟨q', hq', rfl⟩ := mem q hq
  exact h1.apart p' hp' q' hq'
 ·obtain ⟨p', hp', rfl⟩ := mem p hp
  exact h1.iapart p' hp'
 ·obtain ⟨p', hp', rfl⟩ := mem p hp
  exact h1.lt p' hp'
 ·obtain ⟨p', hp', rfl⟩ := mem p hp
  exact h2.grow j ⟨p', hp', u, hu, hj⟩⟩
theorem HEnt.addNil {H : AH} (e : TypeId) (sz : Nat) (f : Nat → List IV) : HEnt H (H.add (.rowc e sz 0 f)) := ⟨fun ρ ι w hS => by
 obtain ⟨h1, h2⟩ := hS.add (.rowc e sz 0 f) ⟨none, 0, fun _ => False⟩ (Touch.refl _ w) (fun k hk => hk.elim) (.inl ⟨rfl, rfl, fun _ h => h⟩)
 exact ⟨_, ι, h1, h2⟩⟩
theorem argsE_run {ρ : Rho} {ι : Imm} : ∀ {xs ys : List AV} {vs : List Value}, cellsE xs ys → AV.Rs ρ ι xs vs → AV.Rs ρ ι ys vs
 | [], ys, vs, h, hr => by simp only [cellsE] at h; subst h; exact hr
 | x :: xs, ys, vs, h, hr => by
   cases ys with
   | nil => exact h.elim
   | cons y ys =>
     simp only [AV.Rs] at hr ⊢
     obtain ⟨u, us, e, r, rs⟩ := hr
     exact ⟨u, us, e, h.1.run _ _ _ r, argsE_run h.2 rs⟩
theorem ACall.argsE {P : Program} {f : FuncId} {args : List AV} (args' : List AV) {H : AH} {K QP : AV → AH → Prop} (he : cellsE args args') (h : ACall P f args' H K QP) : ACall P f args H K QP :=
 ⟨h.fn, fun ρ ι w cargs hG hS hr => h.run ρ ι w cargs hG hS (argsE_run he hr)⟩
theorem AWP.round {C : Cfg} (hC : C.Ok) (S : List (Nat × Sched)) {c1 c2 : Code} {e : Env} {H : AH} {q : Post} (h1 : (regsOf c1).map (fun p => schGet S p.1) = (regsOf c1).map fun p => mkSched C p.2 p.2.size (Array.replicate p.2.size false)) (h2 : (regsOf c2).map (fun p => schGet S p.1) = (regsOf c2).map fun p => mkSched C p.2 p.2.size (Array.replicate p.2.size false))
 (h : awF C S c1 e H ⟨fun e1 H1 => awF C S c2 e1 H1 q, fun _ _ _ => False, fun _ _ => False, fun _ _ => False⟩) : AWP C c1 e H ⟨fun e1 H1 => AWP C c2 e1 H1 q, fun _ _ _ => False, fun _ _ => False, fun _ _ => False⟩ := by
 refine AWP.monoQ ?_ ?_ ?_ ?_ (AWP.go hC (.of_eq h1) h)
 rotate_left
 ·exact fun _ _ _ h => h
 ·rfl
 ·rfl
 intro e1 H1 hb
 exact AWP.go hC (.of_eq h2) hb
structure SeqN (P : Program) (gf : FuncId) (b c : List AV) (HI : AH) {A : Type} (enc : A → List IV) (Q : List A → A → Prop) (S : List A → Prop) : Prop where
 run : ∀ (l : Nat) (Bd : List A → SemP), (∀ pre a, Q pre a → YCall P l ((enc a).map .iv) ⟨1, [(0, .sem (Bd pre))]⟩ (fun r H' => r = AV.bool true ∧ H' = ⟨1, [(0, .sem (Bd (pre ++ [a])))]⟩) (fun _ _ => False)) →
  ACall P gf (b ++ [yieldV l] ++ c) ⟨HI.next + 1, HI.ch ++ [(HI.next, .sem (Bd []))]⟩ (fun _ H' => ∃ xs nx, S xs ∧ H' = ⟨nx, HI.ch ++ [(HI.next, .sem (Bd xs))]⟩) (fun _ _ => False)
theorem AWP.rangeN {C : Cfg} (hro : C.ro = none) {A : Type} {g : Operand} {ps : Array Tmp} {assign body : Code} {e : Env} {H : AH} {q : Post}
 (lI : List Nat) {gf : FuncId} {b c b0 c0 : List AV} {HI : AH} (enc : A → List IV) {Q : List A → A → Prop} {S : List A → Prop} (hs : SeqN C.P gf b0 c0 HI enc Q S) (hg : opd e g = .fnc (.func gf) b c)
 (hps : ∀ a, (enc a).length = ps.size) (Hb : List A → AH) (L0 : List (Nat × Chunk))
 (hnext : ∀ xs, H.next ≤ (Hb xs).next) (hdis : ∀ xs, ∀ p ∈ L0, ∀ r ∈ (Hb xs).ch, p.1 ≠ r.1)
 (hflat : ∀ p ∈ L0, (H.get p.1).isSome = true ∧ p.2.flat (fun h => (H.get h).isSome) = true)
 (h0 : HEnt ⟨H.next, mergeH.go lI H.ch⟩ (Hb []))
 (huse : ∀ B0, useOk (lI ++ [H.next]) ⟨H.next + 1, keepK lI H.ch ++ [(H.next, .sem B0)]⟩ ⟨HI.next + 1, HI.ch ++ [(HI.next, .sem B0)]⟩ = true)
 (hargs : ∀ l, b ++ [yieldV l] ++ c = AV.rens (sig (lI ++ [H.next]) (HI.next + 1) (H.next + 1)) (b0 ++ [yieldV l] ++ c0))
 (hsub : ∀ B0, subRen (sig (lI ++ [H.next]) (HI.next + 1) (H.next + 1)) ⟨H.next + 1, keepK lI H.ch ++ [(H.next, .sem B0)]⟩ (HI.ch ++ [(HI.next, .sem B0)]))
 (hL : ∀ B0 B1 nx, (mergeH (lI ++ [H.next]) ⟨H.next + 1, keepK lI H.ch ++ [(H.next, .sem B0)]⟩ ⟨HI.next + 1, HI.ch ++ [(HI.next, .sem B0)]⟩ ⟨nx, HI.ch ++ [(HI.next, .sem B1)]⟩).ch = L0 ++ [(H.next, .sem B1)])
 (hround : ∀ l pre a, Q pre a → AWP { C with ro := some l, base := H.next } assign (putPs C.N e ps.toList ((enc a).map .iv)) (Hb pre) ⟨fun e1 H1 => AWP { C with ro := some l, base := H.next } body e1 H1 ⟨fun e' H' => Ent C.N H.next e' H' [] (Hb (pre ++ [a])), fun _ _ _ => False, fun _ _ => False, fun _ _ => False⟩, fun _ _ _ => False, fun _ _ => False, fun _ _ => False⟩)
 (hend : ∀ xs, S xs → q.n e ⟨(Hb xs).next, (Hb xs).ch ++ L0⟩) : AWP C (.rangeFunc g ps assign body) e H q := by
 refine AWP.range hro lI hg enc hps Hb [] Q (fun x a j x' => j = none ∧ x' = x ++ [a]) (fun xs j L => S xs ∧ j = none ∧ L = L0) hnext (fun xs j L hF => by rw [hF.2.2]; exact hdis xs) (fun xs j L hF => by rw [hF.2.2]; exact hflat) h0 (fun l x a ha => ?_) (fun l Bd hY => ?_) (fun xs j L hF => by obtain ⟨h1, rfl, rfl⟩ := hF; exact hend xs h1)
 ·refine AWP.monoQ ?_ ?_ ?_ ?_ (hround l x a ha)
  rotate_left
  ·exact fun _ _ _ h => h
  ·rfl
  ·rfl
  intro e1 H1 hb
  have hb : AWP { C with ro := some l, base := H.next } body e1 H1 ⟨fun e' H' => Ent C.N H.next e' H' [] (Hb (x ++ [a])), fun _ _ _ => False, fun _ _ => False, fun _ _ => False⟩ := hb
  refine ⟨fun lo ρ ι a' w hE hS hM => wpIn_mono (hb.run lo ρ ι a' w hE hS hM) fun ex a2 w2 hq => ?_⟩
  cases ex with
  | normal => obtain ⟨e', H', ρ', ι', k, p⟩ := hq; exact ⟨e', H', ρ', ι', ⟨_, ⟨rfl, rfl⟩, k⟩, p⟩
  | exit j => obtain ⟨e', H', ρ', ι', k, p⟩ := hq; exact k.elim
  | ret => obtain ⟨e', H', ρ', ι', k, p⟩ := hq; exact k.elim
  | goto l => exact hq
  | panic ch => obtain ⟨v, _, r, H', ρ', ι', k, _⟩ := hq; exact k.elim
  | outgrown => exact hq
 ·have h1 := hs.run l (fun xs => Bd xs none) fun pre a ha => (hY pre a ha).mono (fun r H' ⟨j, x', ⟨h1, h2⟩, h3, h4⟩ => by subst h1 h2; exact ⟨h3, h4⟩) fun _ _ h => h
  refine ACall.use (lI ++ [H.next]) h1 (huse _) (hargs l) (hsub _) (fun r H0' ⟨xs, nx, hS, e1⟩ => ?_) fun _ _ h => h.elim
  subst e1
  refine ⟨xs, none, L0, (mergeH (lI ++ [H.next]) ⟨H.next + 1, keepK lI H.ch ++ [(H.next, .sem (Bd [] none))]⟩ ⟨HI.next + 1, HI.ch ++ [(HI.next, .sem (Bd [] none))]⟩ ⟨nx, HI.ch ++ [(HI.next, .sem (Bd xs none))]⟩).next, ⟨hS, rfl, rfl⟩, ?_⟩
  have := hL (Bd [] none) (Bd xs none) nx
  rw [← this]
end Go.Proofs.YtgfkepebfaiepaaGreatDoor.Ax

namespace Go.Proofs.YtgfkepebfaiepaaGreatDoor.Ax
open Go.RowKit
def AV.Free (x : AV) : Prop := ∀ ρ ι ι2 v, x.R ρ ι v → x.R ρ ι2 v
def IV.Free (x : IV) : Prop := ∀ ι ι2 v, x.R ι v → x.R ι2 v
def IV.Frees (xs : List IV) : Prop := ∀ ι ι2 vs, IV.Rs ι xs vs → IV.Rs ι2 xs vs
theorem IV.Free.v (x : Value) : (IV.v x).Free := fun ι ι2 v h => by simpa only [IV.R] using h
theorem IV.Free.str (l : List UInt8) : (IV.str l).Free := fun ι ι2 v h => by simpa only [IV.R] using h
theorem IV.Frees.nil : IV.Frees [] := fun ι ι2 vs h => by simpa only [IV.Rs] using h
theorem IV.Frees.cons {x : IV} {xs : List IV} (h : x.Free) (h' : IV.Frees xs) : IV.Frees (x :: xs) := fun ι ι2 vs hr => by
 simp only [IV.Rs] at hr ⊢
 obtain ⟨u, us, e, r1, r2⟩ := hr
 exact ⟨u, us, e, h _ _ _ r1, h' _ _ _ r2⟩
theorem IV.Free.agg {xs : List IV} (h : IV.Frees xs) : (IV.agg xs).Free := fun ι ι2 v hr => by
 simp only [IV.R] at hr ⊢
 obtain ⟨vs, e, r⟩ := hr
 exact ⟨vs, e, h _ _ _ r⟩
theorem AV.Free.iv {x : IV} (h : x.Free) : (AV.iv x).Free := fun ρ ι ι2 v hr => by
 simp only [AV.R] at hr ⊢
 exact h _ _ _ hr
theorem AV.Free.ptr (h o : Nat) : (AV.ptr h o).Free := fun ρ ι ι2 v hr => by simpa only [AV.R] using hr
theorem AV.Free.row (h sz o n : Nat) : (AV.row h sz o n).Free := fun ρ ι ι2 v hr => by simpa only [AV.R] using hr
theorem AV.Free.mp (h : Nat) : (AV.mp h).Free := fun ρ ι ι2 v hr => by simpa only [AV.R] using hr
def AV.Frees (xs : List AV) : Prop := ∀ ρ ι ι2 vs, AV.Rs ρ ι xs vs → AV.Rs ρ ι2 xs vs
theorem AV.Frees.nil : AV.Frees [] := fun ρ ι ι2 vs h => by simpa only [AV.Rs] using h
theorem AV.Frees.cons {x : AV} {xs : List AV} (h : x.Free) (h' : AV.Frees xs) : AV.Frees (x :: xs) := fun ρ ι ι2 vs hr => by
 simp only [AV.Rs] at hr ⊢
 obtain ⟨u, us, e, r1, r2⟩ := hr
 exact ⟨u, us, e, h _ _ _ _ r1, h' _ _ _ _ r2⟩
def Chunk.gl : Chunk → Option Nat
 | .gmap g _ _ _ _ => some g
 | _ => none
def Chunk.Free (c : Chunk) : Prop := ∀ ρ ι ι2 hv w (bad : Nat → Prop), (∀ k o v, ι k o = some v → ¬ bad k → ι2 k o = some v) → (∀ G, c.gl = some G → ¬ bad G) → c.R ρ ι hv w → c.R ρ ι2 hv w
theorem Chunk.Free.cells {e : Nat} {cs : List AV} (h : AV.Frees cs) : (Chunk.cells e cs).Free := fun ρ ι ι2 hv w bad _ _ hr => by
 obtain ⟨b, vs, h1, h2, h3, h4⟩ := hr
 exact ⟨b, vs, h1, h2, h3, h _ _ _ _ h4⟩
theorem Chunk.Free.rowc {e sz n : Nat} {f : Nat → List IV} (h : ∀ i, i < n → IV.Frees (f i)) : (Chunk.rowc e sz n f).Free := fun ρ ι ι2 hv w bad _ _ hr => by
 rcases hr with hr | ⟨b, arr, fr, h1, h2, h3, h4, h5, h6, h7⟩
 ·exact .inl hr
 ·refine .inr ⟨b, arr, fr, h1, h2, h3, h4, h5, h6, fun i hi => ?_⟩
  obtain ⟨vs, g1, g2, g3, g4⟩ := h7 i hi
  exact ⟨vs, h i hi _ _ _ g1, g2, g3, g4⟩
theorem Chunk.Free.brow (e : Nat) (l : List UInt8) : (Chunk.brow e l).Free := fun _ _ _ _ _ _ _ _ hr => hr
theorem ZipR.monoM {X : Type} {R R' : X → Value → Prop} : ∀ (l : List MapEntry) (m : List (MK × X)), (∀ p ∈ m, ∀ v, R p.2 v → R' p.2 v) → ZipR R l m → ZipR R' l m
 | [], m, _, h => h
 | e :: es, m, hm, h => by
   simp only [ZipR] at h ⊢
   obtain ⟨p, ps, rfl, h1, h2, h3⟩ := h
   exact ⟨p, ps, rfl, h1, hm p (List.mem_cons_self ..) _ h2, ZipR.monoM es ps (fun q hq => hm q (List.mem_cons_of_mem _ hq)) h3⟩
theorem MapR.free {kk : Option IntKind} {m : List (MK × IV)} {es : Array MapEntry} {clock : Nat} {ι ι2 : Imm} (h : ∀ p ∈ m, p.2.Free) (hr : MapR (IV.R ι) kk m es clock) : MapR (IV.R ι2) kk m es clock :=
 ⟨hr.kind, let ⟨l, h1, h2⟩ := hr.zip; ⟨l, h1, ZipR.monoM l m (fun p hp _ hv => h p hp _ _ _ hv) h2⟩, hr.keys, hr.born, hr.clock⟩
theorem Chunk.Free.map {kk : Option IntKind} {m : List (MK × IV)} (h : ∀ p ∈ m, p.2.Free) : (Chunk.map kk m).Free := fun ρ ι ι2 hv w bad _ _ hr => by
 obtain ⟨b, es, clock, h1, h2, h3, h4⟩ := hr
 exact ⟨b, es, clock, h1, h2, h3, h4.free h⟩
theorem Chunk.Free.gmap {g : Nat} {kk : Option IntKind} {m : List (MK × IV)} {es : Array MapEntry} {clock : Nat} (h : ∀ p ∈ m, p.2.Free) : (Chunk.gmap g kk m es clock).Free := fun ρ ι ι2 hv w bad hb hg hr => by
 obtain ⟨b, h1, h2, h3, h4, h5⟩ := hr
 exact ⟨b, h1, h2, h3, h4.free h, hb _ _ _ h5 (hg g rfl)⟩
def argsF (h : Nat) (c : Chunk) : List AV → List AV → Prop
 | [], ys => ys = []
 | x :: xs, ys => match ys with
   | y :: ys => AVF h c x y ∧ argsF h c xs ys
   | [] => False
theorem argsF_run {h : Nat} {c : Chunk} {ρ : Rho} {ι ι' : Imm} (hi : Imm.le ι ι') (hf : Fr ρ ι' h c) : ∀ {xs ys : List AV} {vs : List Value}, argsF h c xs ys → AV.Rs ρ ι xs vs → AV.Rs ρ ι' ys vs
 | [], ys, vs, g, hr => by simp only [argsF] at g; subst g; simpa only [AV.Rs] using hr
 | x :: xs, [], vs, g, hr => g.elim
 | x :: xs, y :: ys, vs, g, hr => by
   simp only [AV.Rs] at hr ⊢
   obtain ⟨u, us, e, r1, r2⟩ := hr
   exact ⟨u, us, e, g.1.run _ _ _ _ hi hf r1, argsF_run hi hf g.2 r2⟩
theorem AVF.agg {h : Nat} {c : Chunk} {xs ys : List AV} (g : argsF h c xs ys) : AVF h c (.agg xs) (.agg ys) := ⟨fun ρ ι ι' v hi hf hr => by
 simp only [AV.R] at hr ⊢
 obtain ⟨vs, e, r⟩ := hr
 exact ⟨vs, e, argsF_run hi hf g r⟩⟩
end Go.Proofs.YtgfkepebfaiepaaGreatDoor.Ax

namespace Go.Proofs.YtgfkepebfaiepaaGreatDoor.Ax
open Go.RowKit
section
variable {X : Type} {F : X → AH} {ρ : Rho} {ι : Imm} {H : AH} {w : World}
def Objs (F : X → AH) (l : List (Nat × X)) : SemP where
 R ι hv w := ∃ A : Nat → HV, (l.map fun p : Nat × X => p.1).Nodup ∧ (∀ p ∈ l, (A p.1).blk = some p.1 ∧ (A p.1).foot p.1 ∧ (Nest (F p.2)).R ι (A p.1) w ∧ ∀ k, (A p.1).foot k → hv.foot k) ∧
   ∀ p ∈ l, ∀ q ∈ l, p.1 ≠ q.1 → ∀ k, (A p.1).foot k → ¬ (A q.1).foot k
 loc ι ι' _ w w' hι hk := fun ⟨A, h1, h2, h3⟩ => ⟨A, h1, fun p hp => let ⟨a, b, c, d⟩ := h2 p hp; ⟨a, b, (Nest (F p.2)).loc ι ι' _ w w' hι (fun k hf => hk k (d k hf)) c, d⟩, h3⟩
@[reducible] def ptrV (b : Nat) : AV := .iv (.v (.pointer (some ⟨b, 0, none⟩)))
def ldel (l : List (Nat × X)) (b : Nat) : List (Nat × X) := l.filter fun p => decide (p.1 ≠ b)
theorem mem_ldel {l : List (Nat × X)} {b : Nat} {p : Nat × X} : p ∈ ldel l b ↔ p ∈ l ∧ p.1 ≠ b := by simp [ldel]
def Root (F : X → AH) : Prop := ∀ x, ∃ e cs, (0, Chunk.cells e cs) ∈ (F x).ch
theorem Root.foot (hF : Root F) {x : X} {hv : HV} (h : (Nest (F x)).R ι hv w) : ∃ b, hv.blk = some b ∧ hv.foot b := by
 obtain ⟨ρ0, hv0, h1, h2, h3, h4, h5, _⟩ := h
 obtain ⟨e, cs, hm⟩ := hF x
 obtain ⟨hu, g1, b, vs, g2, g3, _⟩ := h5 _ hm
 have g1 : ρ0 0 = some hu := g1
 rw [h1] at g1
 injection g1 with g1
 subst g1
 exact ⟨b, by rw [← h2]; exact g2, (h4 b).2 ⟨_, hm, hv0, h1, (g3 b).2 rfl⟩⟩
theorem SR.expose (hS : SR ρ ι H w) {r b : Nat} {l : List (Nat × X)} {x : X} (hr : H.get r = some (.sem (Objs F l))) (hb : (b, x) ∈ l) :
 ∃ ρ', SR ρ' ι ((H.set r (.sem (Objs F (ldel l b)))).add (.sem (Nest (F x)))) w ∧ Went ρ ι H w ρ' ι ((H.set r (.sem (Objs F (ldel l b)))).add (.sem (Nest (F x)))) w ∧ ∃ hv, ρ' H.next = some hv ∧ hv.blk = some b := by
 obtain ⟨hv, hh, A, a1, a2, a3⟩ := hS.hv hr
 have hm := AH.get_mem hr
 obtain ⟨b1, b2, b3, b4⟩ := a2 _ hb
 have hne := hS.key_ne
 have hrn : r ≠ H.next := hne _ hm
 let hv1 : HV := ⟨hv.blk, hv.room, fun k => ∃ p ∈ ldel l b, (A p.1).foot k⟩
 let ρ' : Rho := fun k => if k = r then some hv1 else if k = H.next then some (A b) else ρ k
 have vr : ρ' r = some hv1 := by simp only [ρ', if_true]
 have vn : ρ' H.next = some (A b) := by simp only [ρ', if_neg (Ne.symm hrn), if_true]
 have vo : ∀ k, k ≠ r → k ≠ H.next → ρ' k = ρ k := fun k h1 h2 => by simp only [ρ', if_neg h1, if_neg h2]
 have hle : Rho.le ρ ρ' := fun k hu hk => by
  by_cases g : k = r
  ·subst g
   rw [hh] at hk
   injection hk with hk
   subst hk
   exact ⟨hv1, vr, rfl, rfl⟩
  ·by_cases g2 : k = H.next
   ·subst g2
    rw [hS.fresh _ (Nat.le_refl _)] at hk
    cases hk
   ·exact ⟨hu, (vo k g g2).trans hk, rfl, rfl⟩
 have f1 : ∀ k, hv1.foot k → hv.foot k := fun k ⟨p, hp, hk⟩ => (a2 p (mem_ldel.1 hp).1).2.2.2 k hk
 have f2 : ∀ k, hv1.foot k → ¬ (A b).foot k := fun k ⟨p, hp, hk⟩ => a3 p (mem_ldel.1 hp).1 _ hb (mem_ldel.1 hp).2 k hk
 have mem : ∀ p ∈ ((H.set r (.sem (Objs F (ldel l b)))).add (.sem (Nest (F x)))).ch, (p = (H.next, .sem (Nest (F x))) ∧ ρ' p.1 = some (A b)) ∨ (p = (r, .sem (Objs F (ldel l b))) ∧ ρ' p.1 = some hv1) ∨ (p ∈ H.ch ∧ p.1 ≠ r ∧ p.1 ≠ H.next ∧ ρ' p.1 = ρ p.1) := fun p hp => by
  rcases AH.mem_add hp with e | hp
  ·subst e; exact .inl ⟨rfl, vn⟩
  ·rcases AH.mem_set' hS.nodup p hp with ⟨h1, h2⟩ | e
   ·exact .inr (.inr ⟨h1, h2, hne p h1, vo _ h2 (hne p h1)⟩)
   ·subst e; exact .inr (.inl ⟨rfl, vr⟩)
 have own : ∀ p ∈ ((H.set r (.sem (Objs F (ldel l b)))).add (.sem (Nest (F x)))).ch, ∀ u, ρ' p.1 = some u → ∀ k, u.foot k → ∃ q ∈ H.ch, ∃ u', ρ q.1 = some u' ∧ u'.foot k := fun p hp u hu k hk => by
  rcases mem p hp with ⟨rfl, e⟩ | ⟨rfl, e⟩ | ⟨h1, _, _, e⟩
  ·rw [e] at hu; injection hu with hu; subst hu; exact ⟨_, hm, hv, hh, b4 k hk⟩
  ·rw [e] at hu; injection hu with hu; subst hu; exact ⟨_, hm, hv, hh, f1 k hk⟩
  ·exact ⟨p, h1, u, e ▸ hu, hk⟩
 refine ⟨ρ', ⟨hS.imm, hS.one, fun p hp => ?_, fun k hk => ?_, ?_, fun p hp q hq hpq u v hu hv' k hk hk2 => ?_, fun p hp u hu k o v hk => ?_, fun p hp u hu k hk => ?_⟩,
  ⟨Touch.refl _ _, fun k ⟨p, hp, u, hu, hk⟩ => .inl (own p hp u hu k hk), Imm.le.refl _, fun _ _ _ h => .inl h, hle⟩, A b, vn, b1⟩
 ·rcases mem p hp with ⟨rfl, e⟩ | ⟨rfl, e⟩ | ⟨h1, _, _, e⟩
  ·exact ⟨_, e, b3⟩
  ·refine ⟨_, e, A, ?_, fun p hp => ?_, fun p hp q hq => a3 p (mem_ldel.1 hp).1 q (mem_ldel.1 hq).1⟩
   ·exact (List.Sublist.map _ (List.filter_sublist ..)).nodup a1
   ·obtain ⟨c1, c2, c3, c4⟩ := a2 p (mem_ldel.1 hp).1
    exact ⟨c1, c2, c3, fun k hk => ⟨p, hp, hk⟩⟩
  ·obtain ⟨u, hu, hR⟩ := hS.rel p h1
   exact ⟨u, e.trans hu, hR.keep hle (Imm.le.refl _) fun _ _ => rfl⟩
 ·have hk : H.next + 1 ≤ k := hk
  have h1 : k ≠ r := fun e => by
   subst e
   rw [hS.fresh _ (by omega)] at hh
   cases hh
  rw [vo k h1 (by omega)]
  exact hS.fresh k (by omega)
 ·refine AH.nodup_add (by rw [AH.keys_set]; exact hS.nodup) fun p hp => ?_
  rcases AH.mem_set' hS.nodup p hp with ⟨h1, _⟩ | e
  ·exact hne p h1
  ·subst e; exact hrn
 ·rcases mem p hp with ⟨rfl, e⟩ | ⟨rfl, e⟩ | ⟨h1, n1, _, e⟩ <;> rcases mem q hq with ⟨rfl, e'⟩ | ⟨rfl, e'⟩ | ⟨h2, n2, _, e'⟩
  ·exact hpq rfl
  ·rw [e] at hu; rw [e'] at hv'; injection hu with hu; injection hv' with hv'; subst hu hv'; exact f2 k hk2 hk
  ·rw [e] at hu; injection hu with hu; subst hu; exact hS.apart _ hm q h2 (Ne.symm n2) hv v hh (e' ▸ hv') k (b4 k hk) hk2
  ·rw [e] at hu; rw [e'] at hv'; injection hu with hu; injection hv' with hv'; subst hu hv'; exact f2 k hk hk2
  ·exact hpq rfl
  ·rw [e] at hu; injection hu with hu; subst hu; exact hS.apart _ hm q h2 (Ne.symm n2) hv v hh (e' ▸ hv') k (f1 k hk) hk2
  ·rw [e'] at hv'; injection hv' with hv'; subst hv'; exact hS.apart p h1 _ hm n1 u hv (e ▸ hu) hh k hk (b4 k hk2)
  ·rw [e'] at hv'; injection hv' with hv'; subst hv'; exact hS.apart p h1 _ hm n1 u hv (e ▸ hu) hh k hk (f1 k hk2)
  ·exact hS.apart p h1 q h2 hpq u v (e ▸ hu) (e' ▸ hv') k hk hk2
 ·obtain ⟨q, hq, u', g1, g2⟩ := own p hp u hu k hk
  exact hS.iapart q hq u' g1 k o v g2
 ·obtain ⟨q, hq, u', g1, g2⟩ := own p hp u hu k hk
  exact hS.lt q hq u' g1 k g2
theorem SR.absorb (hF : Root F) (hS : SR ρ ι H w) {r n : Nat} {l : List (Nat × X)} {x : X} (hr : H.get r = some (.sem (Objs F l))) (hn : H.get n = some (.sem (Nest (F x)))) (hrn : r ≠ n) :
 ∃ b hu, ρ n = some hu ∧ hu.blk = some b ∧ b ∉ l.map (fun p : Nat × X => p.1) ∧ ∀ l', l'.Perm ((b, x) :: l) → ∃ ρ', SR ρ' ι ((H.del n).set r (.sem (Objs F l'))) w ∧ Went ρ ι H w ρ' ι ((H.del n).set r (.sem (Objs F l'))) w := by
 obtain ⟨hv, hh, A, a1, a2, a3⟩ := hS.hv hr
 obtain ⟨hu, hh2, hN⟩ := hS.hv hn
 have hm := AH.get_mem hr
 have hm2 := AH.get_mem hn
 obtain ⟨b, c1, c2⟩ := hF.foot hN
 have hbl : b ∉ l.map (fun p : Nat × X => p.1) := fun hb => by
  obtain ⟨p, hp, rfl⟩ := List.mem_map.1 hb
  obtain ⟨_, d2, _, d4⟩ := a2 p hp
  exact hS.apart _ hm _ hm2 hrn hv hu hh hh2 _ (d4 _ d2) c2
 refine ⟨b, hu, hh2, c1, hbl, fun l' hp' => ?_⟩
 let hv1 : HV := ⟨hv.blk, hv.room, fun k => hv.foot k ∨ hu.foot k⟩
 let ρ' : Rho := fun k => if k = r then some hv1 else ρ k
 have vr : ρ' r = some hv1 := by simp only [ρ', if_true]
 have vo : ∀ k, k ≠ r → ρ' k = ρ k := fun k h1 => by simp only [ρ', if_neg h1]
 have hle : Rho.le ρ ρ' := fun k hu' hk => by
  by_cases g : k = r
  ·subst g
   rw [hh] at hk
   injection hk with hk
   subst hk
   exact ⟨hv1, vr, rfl, rfl⟩
  ·exact ⟨hu', (vo k g).trans hk, rfl, rfl⟩
 have mem : ∀ p ∈ ((H.del n).set r (.sem (Objs F l'))).ch, (p = (r, .sem (Objs F l')) ∧ ρ' p.1 = some hv1) ∨ (p ∈ H.ch ∧ p.1 ≠ r ∧ p.1 ≠ n ∧ ρ' p.1 = ρ p.1) := fun p hp => by
  rcases AH.mem_set' (AH.nodup_del n hS.nodup) p hp with ⟨h1, h2⟩ | e
  ·exact .inr ⟨AH.mem_del p h1, h2, AH.key_del hS.nodup p h1, vo _ h2⟩
  ·subst e; exact .inl ⟨rfl, vr⟩
 have own : ∀ p ∈ ((H.del n).set r (.sem (Objs F l'))).ch, ∀ u, ρ' p.1 = some u → ∀ k, u.foot k → ∃ q ∈ H.ch, ∃ u', ρ q.1 = some u' ∧ u'.foot k ∧ (q.1 = p.1 ∨ (p.1 = r ∧ q.1 = n)) := fun p hp u hu' k hk => by
  rcases mem p hp with ⟨rfl, e⟩ | ⟨h1, _, _, e⟩
  ·rw [e] at hu'; injection hu' with hu'; subst hu'
   rcases hk with hk | hk
   ·exact ⟨_, hm, hv, hh, hk, .inl rfl⟩
   ·exact ⟨_, hm2, hu, hh2, hk, .inr ⟨rfl, rfl⟩⟩
  ·exact ⟨p, h1, u, e ▸ hu', hk, .inl rfl⟩
 refine ⟨ρ', ⟨hS.imm, hS.one, fun p hp => ?_, fun k hk => ?_, ?_, fun p hp q hq hpq u v hu' hv' k hk hk2 => ?_, fun p hp u hu' k o v hk => ?_, fun p hp u hu' k hk => ?_⟩,
  ⟨Touch.refl _ _, fun k ⟨p, hp, u, hu', hk⟩ => .inl (let ⟨q, h1, u', h2, h3, _⟩ := own p hp u hu' k hk; ⟨q, h1, u', h2, h3⟩), Imm.le.refl _, fun _ _ _ h => .inl h, hle⟩⟩
 ·rcases mem p hp with ⟨rfl, e⟩ | ⟨h1, _, _, e⟩
  ·refine ⟨_, e, fun k => if k = b then hu else A k, ((hp'.map _).nodup_iff).2 ?_, fun p hp => ?_, fun p hp q hq hpq k hk hk2 => ?_⟩
   ·rw [List.map_cons, List.nodup_cons]; exact ⟨hbl, a1⟩
   ·rcases List.mem_cons.1 (hp'.mem_iff.1 hp) with rfl | hp
    ·simp only [if_true]
     exact ⟨c1, c2, hN, fun k hk => .inr hk⟩
    ·have hne : p.1 ≠ b := fun e => hbl (e ▸ List.mem_map_of_mem (f := fun p : Nat × X => p.1) hp)
     simp only [if_neg hne]
     obtain ⟨d1, d2, d3, d4⟩ := a2 p hp
     exact ⟨d1, d2, d3, fun k hk => .inl (d4 k hk)⟩
   ·have far : ∀ p ∈ l, ∀ k, (A p.1).foot k → ¬ hu.foot k := fun p hp k hk => hS.apart _ hm _ hm2 hrn hv hu hh hh2 _ ((a2 p hp).2.2.2 k hk)
    have nb : ∀ p ∈ l, p.1 ≠ b := fun p hp e => hbl (e ▸ List.mem_map_of_mem (f := fun p : Nat × X => p.1) hp)
    rcases List.mem_cons.1 (hp'.mem_iff.1 hp) with rfl | hp <;> rcases List.mem_cons.1 (hp'.mem_iff.1 hq) with rfl | hq
    ·exact hpq rfl
    ·simp only [if_true] at hk
     simp only [if_neg (nb q hq)] at hk2
     exact far q hq k hk2 hk
    ·simp only [if_true] at hk2
     simp only [if_neg (nb p hp)] at hk
     exact far p hp k hk hk2
    ·simp only [if_neg (nb p hp)] at hk
     simp only [if_neg (nb q hq)] at hk2
     exact a3 p hp q hq hpq k hk hk2
  ·obtain ⟨u, hu', hR⟩ := hS.rel p h1
   exact ⟨u, e.trans hu', hR.keep hle (Imm.le.refl _) fun _ _ => rfl⟩
 ·have hk : H.next ≤ k := hk
  have h1 : k ≠ r := fun e => by
   subst e
   rw [hS.fresh _ hk] at hh
   cases hh
  rw [vo k h1]
  exact hS.fresh k hk
 ·rw [AH.keys_set]; exact AH.nodup_del n hS.nodup
 ·obtain ⟨p', h1, u', h2, h3, h4⟩ := own p hp u hu' k hk
  obtain ⟨q', k1, v', k2, k3, k4⟩ := own q hq v hv' k hk2
  have hpr : p.1 ≠ n := by rcases mem p hp with ⟨rfl, _⟩ | ⟨_, _, g, _⟩; exact hrn; exact g
  have hqr : q.1 ≠ n := by rcases mem q hq with ⟨rfl, _⟩ | ⟨_, _, g, _⟩; exact hrn; exact g
  refine hS.apart p' h1 q' k1 (fun e => ?_) u' v' h2 k2 k h3 k3
  rcases h4 with h4 | ⟨h4, h5⟩ <;> rcases k4 with k4 | ⟨k4, k5⟩
  ·exact hpq (by rw [← h4, ← k4, e])
  ·exact hpr (by rw [← h4, e, k5])
  ·exact hqr (by rw [← k4, ← e, h5])
  ·exact hpq (by rw [h4, k4])
 ·obtain ⟨q, h1, u', h2, h3, _⟩ := own p hp u hu' k hk
  exact hS.iapart q h1 u' h2 k o v h3
 ·obtain ⟨q, h1, u', h2, h3, _⟩ := own p hp u hu' k hk
  exact hS.lt q h1 u' h2 k h3
def lset (l : List (Nat × X)) (b : Nat) (x : X) : List (Nat × X) := l.map fun p => if p.1 = b then (b, x) else p
theorem lset_perm {b : Nat} {x : X} (y : X) : ∀ {l : List (Nat × X)}, (l.map fun p : Nat × X => p.1).Nodup → (b, x) ∈ l → (lset l b y).Perm ((b, y) :: ldel l b)
 | [], _, h => by cases h
 | p :: ps, hn, h => by
   simp only [List.map_cons, List.nodup_cons] at hn
   by_cases e : p.1 = b
   ·have hd : ldel (p :: ps) b = ps := by
     unfold ldel
     rw [List.filter_cons_of_neg (by simpa using e), List.filter_eq_self]
     intro q hq
     have : q.1 ≠ b := fun g => hn.1 (by rw [e, ← g]; exact List.mem_map_of_mem (f := fun p : Nat × X => p.1) hq)
     simpa using this
    have hs : lset (p :: ps) b y = (b, y) :: ps := by
     unfold lset
     rw [List.map_cons, if_pos e]
     congr 1
     conv => rhs; rw [← List.map_id ps]
     refine List.map_congr_left fun q hq => ?_
     have : q.1 ≠ b := fun g => hn.1 (by rw [e, ← g]; exact List.mem_map_of_mem (f := fun p : Nat × X => p.1) hq)
     rw [if_neg this]
     rfl
    rw [hd, hs]
   ·have hm : (b, x) ∈ ps := by
     rcases List.mem_cons.1 h with g | g
     ·rw [← g] at e; exact (e rfl).elim
     ·exact g
    have hd : ldel (p :: ps) b = p :: ldel ps b := by unfold ldel; rw [List.filter_cons_of_pos (by simpa using e)]
    have hs : lset (p :: ps) b y = p :: lset ps b y := by unfold lset; rw [List.map_cons, if_neg e]
    rw [hd, hs]
    exact ((lset_perm y hn.2 hm).cons p).trans (List.Perm.swap ..)
theorem ACall.atObj {P : Program} {f : FuncId} (hF : Root F) {as : List AV} {K QP : AV → AH → Prop} (r b : Nat) {l : List (Nat × X)} {x : X} (hr : H.get r = some (.sem (Objs F l))) (hb : (b, x) ∈ l)
 (h : ACall P f (.ptr H.next 0 :: as) ((H.set r (.sem (Objs F (ldel l b)))).add (.sem (Nest (F x)))) (fun v H' => ∃ x', H'.get H.next = some (.sem (Nest (F x'))) ∧ H'.get r = some (.sem (Objs F (ldel l b))) ∧ K v ((H'.del H.next).set r (.sem (Objs F (lset l b x'))))) fun _ _ => False) :
 ACall P f (ptrV b :: as) H K QP :=
 ⟨h.fn, fun ρ ι w cargs hG hS ha => by
  obtain ⟨ρ1, s1, s2, hv, e1, e2⟩ := hS.expose hr hb
  have hn : (l.map fun p : Nat × X => p.1).Nodup := by obtain ⟨_, _, _, a1, _⟩ := hS.hv hr; exact a1
  have hrn : r ≠ H.next := hS.key_ne _ (AH.get_mem hr)
  refine (h.run ρ1 ι w cargs hG s1 ?_).mono fun en w' hp => ?_
  ·simp only [AV.Rs] at ha ⊢
   obtain ⟨u, us, rfl, r1, r2⟩ := ha
   simp only [AV.R, IV.R] at r1
   refine ⟨u, us, rfl, ?_, AV.Rs_mono s2.agree (Imm.le.refl _) _ _ r2⟩
   simp only [AV.R]
   exact ⟨hv, b, e1, e2, r1⟩
  ·cases en with
   | panicked ch => obtain ⟨v, _, r, H', ρ', ι', g, _⟩ := hp; exact g.elim
   | outgrown => exact hp.elim
   | returned v =>
     obtain ⟨rv, H', ρ', ι', ⟨x', g1, g2, k⟩, h1, h2, h3⟩ := hp
     obtain ⟨b', hu, q1, q2, _, q4⟩ := h2.absorb hF g2 g1 hrn
     obtain ⟨hu', k1, k2, _⟩ := h3.agree _ _ e1
     rw [q1] at k1
     injection k1 with k1
     subst k1
     rw [q2, e2] at k2
     injection k2 with k2
     subst k2
     obtain ⟨ρ2, t1, t2⟩ := q4 _ (lset_perm x' hn hb)
     exact ⟨rv, _, ρ2, ι', k, AV.R_mono t2.agree (Imm.le.refl _) _ _ h1, t1, (s2.trans h3).trans t2⟩⟩
theorem ACall.absorb {P : Program} {f : FuncId} (hF : Root F) {args : List AV} {K QP : AV → AH → Prop}
 (h : ACall P f args H (fun v H' => ∃ r n l x, v = .ptr n 0 ∧ H'.get n = some (.sem (Nest (F x))) ∧ H'.get r = some (.sem (Objs F l)) ∧ Nat.beq r n = false ∧ ∀ b, b ∉ l.map (fun p : Nat × X => p.1) → K (ptrV b) ((H'.del n).set r (.sem (Objs F ((b, x) :: l))))) QP) :
 ACall P f args H K QP :=
 ⟨h.fn, fun ρ ι w cargs hG hS ha => by
  refine (h.run ρ ι w cargs hG hS ha).mono fun en w' hp => ?_
  cases en with
  | panicked ch => exact hp
  | outgrown => exact hp
  | returned v =>
    obtain ⟨rv, H', ρ', ι', ⟨r, n, l, x, rfl, g1, g2, g3, k⟩, h1, h2, h3⟩ := hp
    have hrn : r ≠ n := fun e => by subst e; rw [Nat.beq_refl] at g3; cases g3
    obtain ⟨b, hu, q1, q2, q3, q4⟩ := h2.absorb hF g2 g1 hrn
    obtain ⟨ρ2, t1, t2⟩ := q4 _ (List.Perm.refl _)
    simp only [AV.R] at h1
    obtain ⟨hv, b', k1, k2, rfl⟩ := h1
    rw [q1] at k1
    injection k1 with k1
    subst k1
    rw [q2] at k2
    injection k2 with k2
    subst k2
    refine ⟨ptrV b, _, ρ2, ι', k b q3, ?_, t1, h3.trans t2⟩
    simp only [AV.R, IV.R]⟩
theorem HEnt.objs0 (F : X → AH) (H : AH) : HEnt H (H.add (.sem (Objs F []))) := ⟨fun ρ ι w hS => by
 obtain ⟨h1, h2⟩ := hS.add (w' := w) (.sem (Objs F [])) ⟨none, 0, fun _ => False⟩ (Touch.refl _ _) (fun _ h => h.elim) ⟨fun _ => ⟨none, 0, fun _ => False⟩, List.nodup_nil, fun p hp => (by cases hp), fun p hp => (by cases hp)⟩
 exact ⟨_, ι, h1, h2⟩⟩
theorem ChE.objs {l l' : List (Nat × X)} (h : l'.Sublist l) : ChE (.sem (Objs F l)) (.sem (Objs F l')) := ⟨fun _ _ _ _ ⟨A, h1, h2, h3⟩ =>
 ⟨A, (h.map _).nodup h1, fun p hp => h2 p (h.subset hp), fun p hp q hq => h3 p (h.subset hp) q (h.subset hq)⟩⟩
end
end Go.Proofs.YtgfkepebfaiepaaGreatDoor.Ax

namespace Go.Proofs.YtgfkepebfaiepaaGreatDoor.Ax
open Go.RowKit
theorem sideI {a b : Prop} (hb : b) (ha : a := by first | ((repeat' (first | exact trivial | refine And.intro rfl ?_)); done) | omega | (dsimp -iota only; omega) | (simp -iota; omega) | (simp -iota; done) | decide) : a ∧ b := ⟨ha, hb⟩
structure Wr (p : Prop) : Prop where
 out : p
theorem goA {a b : Prop} (hb : b) (h : Wr b → a := by intro hgo; (conv => whnf); (repeat (refine sideI ?_; conv => whnf)); exact hgo.out) : a := h ⟨hb⟩
theorem ifdA {b : Bool} {y n p q : Prop} (hy : p → y) (hn : q → n)
 (hp : b = true → p := by first | exact fun h => Classical.not_not.1 (of_decide_eq_false (not_t h)) | exact fun h => of_decide_eq_false (not_t h) | exact fun h => not_t h | exact fun h => Classical.not_not.1 (of_decide_eq_true h) | exact fun h => of_decide_eq_true h | exact fun h => h)
 (hq : b = false → q := by first | exact fun h => Classical.not_not.1 (of_decide_eq_true (not_f h)) | exact fun h => of_decide_eq_true (not_f h) | exact fun h => not_f h | exact fun h => Classical.not_not.1 (of_decide_eq_false h) | exact fun h => of_decide_eq_false h | exact fun h => h) : branchB b y n :=
 branchB_of (fun h => hy (hp h)) fun h => hn (hq h)
theorem subC {p : Prop} (h : p := by (repeat' first | exact trivial | refine ⟨⟨_, rfl, ChE.refl _⟩, ?_⟩)) : p := h
theorem AFn.useA {P : Program} {f : FuncId} {args0 : List AV} {H0 : AH} {X : Type} {R : X → AV} {HH : X → AH} (l : List Nat) (h : AFn P f args0 H0 R HH) {args : List AV} {H : AH} {K QP : AV → AH → Prop}
 (hK : ∀ x, K ((R x).ren (sig l H0.next H.next)) (mergeH l H H0 (HH x)))
 (hok : useOk l H H0 = true := by kernel_rfl) (hargs : args = AV.rens (sig l H0.next H.next) args0 := by rfl) (hsub : subRen (sig l H0.next H.next) H H0.ch := by repeat' first | exact trivial | refine ⟨rfl, ?_⟩) : ACall P f args H K QP :=
 AFn.use l h hok hargs hsub hK
theorem Ent.mkC {N B : Nat} {e e' : Env} {H H' : AH} (l : List (Option Nat)) (hch : chE (sigO l H.next) l H H'.ch) (hok : entOk B l H H' = true := by kernel_rfl)
 (henv : envE (sigO l H.next) e e' := by repeat' first | exact trivial | refine And.intro (AVE.refl _) ?_ | refine And.intro (AVE.int (by first | rfl | omega | (dsimp only; omega) | (simp -iota; omega) | (simp -iota; done))) ?_ | refine And.intro (AVE.bool (by assumption)) ?_ | refine And.intro (AVE.len (by first | rfl | omega | (dsimp only; omega) | (simp -iota; omega) | (simp -iota; done))) ?_) : Ent N B e H e' H' :=
 Ent.mk' l hok henv hch
theorem Ent.mkA {N B : Nat} {e e' : Env} {H H' : AH} (l : List (Option Nat)) (hok : entOk B l H H' = true := by kernel_rfl)
 (henv : envE (sigO l H.next) e e' := by repeat' first | exact trivial | refine And.intro (AVE.refl _) ?_ | refine And.intro (AVE.int (by first | rfl | omega | (dsimp only; omega) | (simp -iota; omega) | (simp -iota; done))) ?_ | refine And.intro (AVE.bool (by assumption)) ?_ | refine And.intro (AVE.len (by first | rfl | omega | (dsimp only; omega) | (simp -iota; omega) | (simp -iota; done))) ?_)
 (hch : chE (sigO l H.next) l H H'.ch := by (repeat' first | exact trivial | refine ⟨⟨_, rfl, ChE.refl _⟩, ?_⟩)) : Ent N B e H e' H' :=
 Ent.mk' l hok henv hch
end Go.Proofs.YtgfkepebfaiepaaGreatDoor.Ax

namespace Go.Proofs.YtgfkepebfaiepaaGreatDoor.Ax
open Go.RowKit
structure AVC (h : Nat) (z x y : AV) : Prop where
 run : ∀ ρ ι ι' v, Imm.le ι ι' → (∀ u, (AV.ptr h 0).R ρ ι u → z.R ρ ι' u) → x.R ρ ι v → y.R ρ ι' v
theorem AVC.same (h : Nat) (z x : AV) : AVC h z x x := ⟨fun _ _ _ _ hi _ hx => AV.R_mono (Rho.le.refl _) hi _ _ hx⟩
theorem AVC.here (h : Nat) (z : AV) : AVC h z (.ptr h 0) z := ⟨fun _ _ _ v _ hp hx => hp v hx⟩
def envC (h : Nat) (z : AV) (e : Env) : Env → Prop
 | [] => True
 | p :: ps => AVC h z (e.get p.1) p.2 ∧ envC h z e ps
theorem ivs_of {ρ : Rho} {ι : Imm} : ∀ (l : List IV) (vs : List Value), AV.Rs ρ ι (l.map AV.iv) vs → IV.Rs ι l vs
 | [], vs, h => by simpa [AV.Rs, IV.Rs] using h
 | x :: l, vs, h => by
   simp only [List.map_cons, AV.Rs, AV.R] at h
   obtain ⟨u, us, e, h1, h2⟩ := h
   simp only [IV.Rs]
   exact ⟨u, us, e, h1, ivs_of l us h2⟩
theorem Ent.freezeZ {N B : Nat} {e e' : Env} {H : AH} (h : Nat) (z : AV) {tc : TypeId} {cs : List AV} (hc : H.get h = some (.cells tc cs)) (hone : cs.all AV.one = true) (he : envC h z e e')
 (hz : ∀ ρ ι b vs, AV.Rs ρ ι cs vs → (∀ j u, vs[j]? = some u → ι b j = some u) → z.R ρ ι (.pointer (some ⟨b, 0, none⟩))) : Ent N B e H e' (H.del h) := ⟨fun ρ ι a w hE hS => by
 obtain ⟨hv, hhr, b, vs, g1, g2, g3, g4⟩ := hS.hv hc
 have hone' := all_one hone g4
 obtain ⟨q1, q2, q3⟩ := hS.freeze hc hhr ((g2 b).2 rfl) (fun o => vs[o]?) (fun o v hg => ⟨cellAt g3 (by simpa using hg), hone' v (List.mem_of_getElem? hg)⟩)
 refine ⟨ρ, fun b' o => if b' = b then vs[o]? else ι b' o, ⟨hE.glob.mono q1, hE.size, fun t => ?_⟩, q2, q3.weak⟩
 have key : ∀ e'' : Env, envC h z e e'' → (e''.get t).R ρ (fun b' o => if b' = b then vs[o]? else ι b' o) (a.tmps.getD t undef) := by
  intro e''
  induction e'' with
  | nil => intro _; simp [Env.get, AV.R]
  | cons p ps ih =>
    intro g
    simp only [Env.get]
    cases hb : Nat.beq p.1 t with
    | true =>
      have := Nat.eq_of_beq_eq_true hb
      subst this
      refine g.1.run ρ ι _ _ q1 (fun u hu => ?_) (hE.slot p.1)
      simp only [AV.R] at hu
      obtain ⟨hu', b', e1, e2, rfl⟩ := hu
      rw [hhr] at e1; injection e1 with e1; subst e1
      rw [g1] at e2; injection e2 with e2; subst e2
      exact hz _ _ _ vs (AV.Rs_mono (Rho.le.refl _) q1 _ _ g4) fun j u hj => by simpa using hj
    | false => exact ih g.2
 exact key e' he⟩
theorem Ent.freezeC {N B : Nat} {e e' : Env} {H : AH} (h : Nat) (cs : List IV) {tc : TypeId} (hc : H.get h = some (.cells tc (cs.map AV.iv))) (hone : (cs.map AV.iv).all AV.one = true) (he : envC h (.iv (.pp cs)) e e') : Ent N B e H e' (H.del h) :=
 Ent.freezeZ h _ hc hone he fun ρ ι b vs h1 h2 => by
  simp only [AV.R, IV.R]
  exact ⟨_, vs, rfl, rfl, ivs_of _ _ h1, fun j u hj => by rw [Nat.zero_add]; exact h2 j u hj⟩
theorem Ent.freezeP {N B : Nat} {e e' : Env} {H : AH} (h : Nat) (cs : List AV) {tc : TypeId} (hc : H.get h = some (.cells tc cs)) (hone : cs.all AV.one = true) (he : envC h (.pp cs) e e') : Ent N B e H e' (H.del h) :=
 Ent.freezeZ h _ hc hone he fun ρ ι b vs h1 h2 => by
  simp only [AV.R]
  exact ⟨_, vs, rfl, rfl, h1, fun j u hj => by rw [Nat.zero_add]; exact h2 j u hj⟩
end Go.Proofs.YtgfkepebfaiepaaGreatDoor.Ax
