/-
  Loops over functions: a round of such a loop, as a call of yield.
-/
import Derived.Test.YtpgdbeacmlojcaaGreatBxZb
namespace Go.Proofs.YtpgdbeacmlojcaaGreat.Ax
open Go.RowKit

/-- Memory's state stays, where its own blocks stay, and what is written no more. -/
theorem SR.still {ρ : Rho} {ι : Imm} {H : AH} {w w' : World} (hS : SR ρ ι H w) (ht : Touch (fun k => (∀ o, w.cell? ⟨k, o, none⟩ = none) ∧ ¬ H.foot ρ k) w w') : SR ρ ι H w' := by
  refine ⟨fun b o v hi => ?_, hS.one, fun p hp => ?_, hS.fresh, hS.nodup, hS.apart, hS.iapart, fun p hp hv hh k hk => Nat.lt_of_lt_of_le (hS.lt p hp hv hh k hk) ht.size⟩
  · have h1 := hS.imm b o v hi
    rw [← h1]
    exact World.cell?_of_block (ht.block b (World.block_lt_of_cell? w _ h1) fun x => by have := x.1 o; rw [h1] at this; cases this)
  · obtain ⟨hv, h1, h2⟩ := hS.rel p hp
    exact ⟨hv, h1, h2.keep (Rho.le.refl _) (Imm.le.refl _) fun k hk => ht.block k (hS.lt p hp hv h1 k hk) fun x => x.2 ⟨p, hp, hv, h1, hk⟩⟩
theorem SR.sub {ρ : Rho} {ι : Imm} {H : AH} {w : World} (hS : SR ρ ι H w) {L : List (Nat × Chunk)} (hm : ∀ p ∈ L, p ∈ H.ch) (hn : (L.map (·.1)).Nodup) : SR ρ ι ⟨H.next, L⟩ w :=
  ⟨hS.imm, hS.one, fun p hp => hS.rel p (hm p hp), hS.fresh, hn, fun p hp q hq => hS.apart p (hm p hp) q (hm q hq), fun p hp => hS.iapart p (hm p hp), fun p hp => hS.lt p (hm p hp)⟩
theorem loop_cell {w : World} {l : Nat} {r : Loop} (h : w.heap[l]? = some (.loop r)) (o : Nat) : w.cell? ⟨l, o, none⟩ = none := by simp [World.cell?, h]
theorem def_cell {w : World} {l : Nat} {r : Option (List Deferred)} (h : w.heap[l]? = some (.deferred r)) (o : Nat) : w.cell? ⟨l, o, none⟩ = none := by simp [World.cell?, h]
theorem touch_put (w : World) (l : Nat) (o : Obj) : Touch (fun k => k = l) w (w.putObj l o) := ⟨rfl, rfl, rfl, by rw [putObj_size]; exact Nat.le_refl _, fun _ _ hk => World.putObj_heap_other hk⟩
theorem put_at {w : World} {l : Nat} {o o' : Obj} (h : w.heap[l]? = some o) : (w.putObj l o').heap[l]? = some o' := World.putObj_heap_same (Array.getElem?_eq_some_iff.1 h).1
/-- What a piece of a round has done; the loop's own record may turn. -/
structure Pass (l n0 : Nat) (ρ : Rho) (ι : Imm) (H : AH) (w : World) (ρ' : Rho) (ι' : Imm) (H' : AH) (w' : World) : Prop where
  touch : Touch (fun k => k = l ∨ H.foot ρ k) w w'
  grow : ∀ k, H'.foot ρ' k → H.foot ρ k ∨ w.heap.size ≤ k
  imm : Imm.le ι ι'
  immNew : ∀ b o v, ι' b o = some v → ι b o = some v ∨ H.foot ρ b ∨ w.heap.size ≤ b
  agree : ∀ h hv, h < n0 → ρ h = some hv → ∃ hu : HV, ρ' h = some hu ∧ hu.blk = hv.blk ∧ hu.room = hv.room
theorem Pass.of {l n0 ρ ι H w ρ' ι' H' w'} (h : WentB n0 ρ ι H w ρ' ι' H' w') : Pass l n0 ρ ι H w ρ' ι' H' w' := ⟨h.touch.weaken fun _ hk => .inr hk, h.grow, h.imm, h.immNew, h.agree⟩
theorem Pass.put {l n0 ρ ι H w} (o : Obj) : Pass l n0 ρ ι H w ρ ι H (w.putObj l o) :=
  ⟨(touch_put w l o).weaken fun _ hk => .inl hk, fun _ h => .inl h, Imm.le.refl _, fun _ _ _ h => .inl h, fun _ hv _ h => ⟨hv, h, rfl, rfl⟩⟩
theorem Pass.trans {l n0 ρ ι H w ρ' ι' H' w' ρ'' ι'' H'' w''} (h : Pass l n0 ρ ι H w ρ' ι' H' w') (h' : Pass l n0 ρ' ι' H' w' ρ'' ι'' H'' w'') : Pass l n0 ρ ι H w ρ'' ι'' H'' w'' := by
  refine ⟨⟨h'.touch.os.trans h.touch.os, h'.touch.tape.trans h.touch.tape, h'.touch.output.trans h.touch.output, Nat.le_trans h.touch.size h'.touch.size, fun k hk hs => ?_⟩, fun k hk => ?_, h.imm.trans h'.imm, fun b o v hv => ?_, fun k hv hk hh => ?_⟩
  · refine (h'.touch.block k (Nat.lt_of_lt_of_le hk h.touch.size) fun hf => ?_).trans (h.touch.block k hk hs)
    rcases hf with h1 | h1
    · exact hs (.inl h1)
    · rcases h.grow k h1 with h2 | h2
      · exact hs (.inr h2)
      · omega
  · rcases h'.grow k hk with h1 | h1
    · exact h.grow k h1
    · exact .inr (Nat.le_trans h.touch.size h1)
  · rcases h'.immNew b o v hv with h1 | h1 | h1
    · exact h.immNew b o v h1
    · exact (h.grow b h1).elim (fun x => .inr (.inl x)) (fun x => .inr (.inr x))
    · exact .inr (.inr (Nat.le_trans h.touch.size h1))
  · obtain ⟨u, h1, h2, h3⟩ := h.agree k hv hk hh
    obtain ⟨v, g1, g2, g3⟩ := h'.agree k u hk h1
    exact ⟨v, g1, g2.trans h2, g3.trans h3⟩
/-- Memory that the rounds of a loop turn, under handles of its own, beside the loop's record. -/
structure BodyR (ρ0 ρ : Rho) (ι : Imm) (l : Nat) (Hb : AH) (foot : Nat → Prop) (w : World) : Prop where
  le : Rho.le ρ0 ρ
  foot : ∀ k, foot k ↔ k = l ∨ Hb.foot ρ k
  off : ¬ Hb.foot ρ l
  rel : ∀ p ∈ Hb.ch, ∃ hu, ρ p.1 = some hu ∧ p.2.R ρ ι hu w
  fresh : ∀ h, Hb.next ≤ h → ρ h = none
  nodup : (Hb.ch.map (·.1)).Nodup
  apart : ∀ p ∈ Hb.ch, ∀ q ∈ Hb.ch, p.1 ≠ q.1 → ∀ a b, ρ p.1 = some a → ρ q.1 = some b → ∀ k, a.foot k → ¬ b.foot k
/-- A loop between its rounds. -/
def LoopS (l : Nat) (r : Loop) (ρ0 : Rho) (ι0 : Imm) (Hb : AH) : SemP where
  R ι hv w := Imm.le ι0 ι ∧ w.heap[l]? = some (.loop r) ∧ ∃ ρ : Rho, BodyR ρ0 ρ ι l Hb hv.foot w
  loc ι ι' hv w w' hι hk := fun ⟨h1, h2, ρ, h3⟩ => ⟨h1.trans hι, (hk l ((h3.foot l).2 (.inl rfl))).trans h2, ρ, h3.le, h3.foot, h3.off, fun p hp => by
    obtain ⟨hu, g1, g2⟩ := h3.rel p hp
    exact ⟨hu, g1, g2.keep (Rho.le.refl _) hι fun k hf => hk k ((h3.foot k).2 (.inr ⟨p, hp, hu, g1, hf⟩))⟩, h3.fresh, h3.nodup, h3.apart⟩
def recOf (fn : FuncId) (tmps : Array Value) (ps : Array Tmp) (assign body : Code) (D : Nat) (j : Option Code) : Loop :=
  { state := if j.isNone then .ready else .done, pending := j, fn, tmps, params := ps, assign, body, defers := D }
/-- A frame whose parameters are put. -/
def putPs (N : Nat) : Env → List Tmp → List AV → Env
  | e, t :: ts, x :: xs => putPs N (e.putd N (some t) x) ts xs
  | e, _, _ => e
theorem ER.putPs {ρ : Rho} {ι : Imm} {N : Nat} : ∀ (ts : List Tmp) (xs : List AV) (us : List Value) (e : Env) (a : Act), ER ρ ι N e a → AV.Rs ρ ι xs us → ER ρ ι N (putPs N e ts xs) { a with tmps := (ts.zip us).foldl (fun tmps (p : Tmp × Value) => tmps.setIfInBounds p.1 p.2) a.tmps }
  | [], _, _, _, _, h, _ => by simpa [Ax.putPs] using h
  | t :: ts, [], us, e, a, h, hr => by
    simp only [AV.Rs] at hr
    subst hr
    simpa [Ax.putPs] using h
  | t :: ts, x :: xs, us, e, a, h, hr => by
    simp only [AV.Rs] at hr
    obtain ⟨u, us, rfl, h1, h2⟩ := hr
    exact ER.putPs ts xs us _ (a.put (some t) u) (h.putd (some t) h1) h2
/-- How a round is left: on; by a jump. -/
def JQ {X A : Type} (N n0 : Nat) (Hb : X → AH) (Nx : X → A → Option Code → X → Prop) (x : X) (a : A) : Post :=
  ⟨fun e' H' => ∃ x', Nx x a none x' ∧ Ent N n0 e' H' [] (Hb x'), fun id e' H' => ∃ x', Nx x a (some (.exit id)) x' ∧ Ent N n0 e' H' [] (Hb x'), fun e' H' => ∃ x', Nx x a (some .ret) x' ∧ Ent N n0 e' H' [] (Hb x'), fun _ _ => False⟩
theorem loop_yield {C : Cfg} {X A : Type} {ps : Array Tmp} {assign body : Code} {e : Env} {n0 : Nat} (enc : A → List IV) (Hb : X → AH) (Nx : X → A → Option Code → X → Prop) {ρ0 : Rho} {ι0 : Imm} {a0 : Act} (hE : ER ρ0 ι0 C.N e a0) (hfr : ∀ h, n0 ≤ h → ρ0 h = none) {l D : Nat} {fn : FuncId} {x : X} {a : A} (hlen : (enc a).length = ps.size)
    (hr : AWP { C with ro := some l, base := n0 } assign (putPs C.N e ps.toList ((enc a).map .iv)) (Hb x) ⟨fun e1 H1 => AWP { C with ro := some l, base := n0 } body e1 H1 (JQ C.N n0 Hb Nx x a), fun _ _ _ => False, fun _ _ => False, fun _ _ => False⟩) :
    YCall C.P l ((enc a).map .iv) ⟨1, [(0, .sem (LoopS l (recOf fn a0.tmps ps assign body D none) ρ0 ι0 (Hb x)))]⟩
      (fun r H' => ∃ j x', Nx x a j x' ∧ r = AV.bool j.isNone ∧ H' = ⟨1, [(0, .sem (LoopS l (recOf fn a0.tmps ps assign body D j) ρ0 ι0 (Hb x')))]⟩) (fun _ _ => False) := by
  refine ⟨fun ρ ι w cargs hG hS hx => ?_⟩
  obtain ⟨hv, hr0, hi0, hl, ρ2, hB⟩ := hS.hv (k := 0) (c := .sem (LoopS l (recOf fn a0.tmps ps assign body D none) ρ0 ι0 (Hb x))) rfl
  have hmem : ((0 : Nat), Chunk.sem (LoopS l (recOf fn a0.tmps ps assign body D none) ρ0 ι0 (Hb x))) ∈ (AH.mk 1 [(0, .sem (LoopS l (recOf fn a0.tmps ps assign body D none) ρ0 ι0 (Hb x)))]).ch := List.mem_cons_self ..
  have in0 : ∀ p ∈ (Hb x).ch, ∀ u, ρ2 p.1 = some u → ∀ k, u.foot k → hv.foot k := fun p hp u hu k hk => (hB.foot k).2 (.inr ⟨p, hp, u, hu, hk⟩)
  have hS2 : SR ρ2 ι (Hb x) w := ⟨hS.imm, hS.one, hB.rel, hB.fresh, hB.nodup, hB.apart, fun p hp u hu k o v hk => hS.iapart _ hmem hv hr0 k o v (in0 p hp u hu k hk), fun p hp u hu k hk => hS.lt _ hmem hv hr0 k (in0 p hp u hu k hk)⟩
  have hcl : cargs.length = ps.size := by have := Rs_lenA _ _ hx; rw [List.length_map] at this; omega
  have hx2 : AV.Rs ρ2 ι ((enc a).map .iv) cargs := (Rs_iv _ _).2 ((Rs_iv _ _).1 hx)
  have hE2 := ER.putPs ps.toList _ _ e a0 (hE.mono hB.le hi0) hx2
  have hy := run_yield (P := C.P) (args := cargs.toArray) hl (by simp [recOf, hcl])
  refine ⟨_, _, _, _, hy, roundIn_of_wpIn trivial ?_⟩
  have etm : ((recOf fn a0.tmps ps assign body D none).params.zip cargs.toArray).foldl (fun tmps (p : Tmp × Value) => tmps.setIfInBounds p.1 p.2) (recOf fn a0.tmps ps assign body D none).tmps = (ps.toList.zip cargs).foldl (fun tmps (p : Tmp × Value) => tmps.setIfInBounds p.1 p.2) a0.tmps := by
    rw [← Array.foldl_toList, Array.toList_zip]
    rfl
  have hE3 : ER ρ2 ι C.N (putPs C.N e ps.toList ((enc a).map .iv)) { tmps := ((recOf fn a0.tmps ps assign body D none).params.zip cargs.toArray).foldl (fun tmps (p : Tmp × Value) => tmps.setIfInBounds p.1 p.2) (recOf fn a0.tmps ps assign body D none).tmps, defers := [] } := by
    rw [etm]
    exact ⟨hG, hE2.size, hE2.slot⟩
  have h0 := hr.run w.heap.size ρ2 ι _ w hE3 hS2 (Mk.nil (Nat.le_refl _))
  refine wpIn_mono h0 fun ex a1 w1 hq => ?_
  cases ex with
  | normal =>
    obtain ⟨e1, H1, ρ3, ι3, hb, p1, p2, p3, p4⟩ := hq
    have P1 : Pass l n0 ρ2 ι (Hb x) w ρ3 ι3 H1 w1 := Pass.of p3
    have hlt : l < w.heap.size := (Array.getElem?_eq_some_iff.1 hl).1
    have hl1 : w1.heap[l]? = some (.loop (recOf fn a0.tmps ps assign body D none)) := (p3.touch.block l hlt hB.off).trans hl
    have off1 : ¬ H1.foot ρ3 l := fun hf => by
      rcases p3.grow l hf with h1 | h1
      · exact hB.off h1
      · omega
    have hbr := run_beginRound (P := C.P) hl1 rfl
    obtain ⟨w2, hw2⟩ : ∃ w2, w1.putObj l (.loop { recOf fn a0.tmps ps assign body D none with state := .busy }) = w2 := ⟨_, rfl⟩
    rw [hw2] at hbr
    have P2 : Pass l n0 ρ3 ι3 H1 w1 ρ3 ι3 H1 w2 := by rw [← hw2]; exact Pass.put _
    have hl2 : w2.heap[l]? = some (.loop { recOf fn a0.tmps ps assign body D none with state := .busy }) := by rw [← hw2]; exact put_at hl1
    have hS3 : SR ρ3 ι3 H1 w2 := p2.still (by rw [← hw2]; exact (touch_put w1 l _).weaken fun k hk => by subst hk; exact ⟨loop_cell hl1, off1⟩)
    have hM3 : Mk w.heap.size ρ3 H1 w2 a1.defers := ⟨Nat.le_trans p4.1 P2.touch.size, p4.2.1, fun d hd => by
      obtain ⟨D', k1, k2, k3, k4⟩ := p4.2.2 d hd
      refine ⟨D', k1, k2, ?_, k4⟩
      rw [← hw2, World.putObj_heap_other (fun e => by subst e; rw [hl1] at k3; cases k3)]
      exact k3⟩
    refine ⟨w2, hbr, wpIn_mono (hb.run w.heap.size ρ3 ι3 a1 w2 p1 hS3 hM3) fun ex a2 w3 hq => ?_⟩
    -- the round's end
    have fin : ∀ (j : Option Code) (e2 : Env) (H2 : AH) (ρ4 : Rho) (ι4 : Imm) (x' : X), Nx x a j x' → Ent C.N n0 e2 H2 [] (Hb x') → ER ρ4 ι4 C.N e2 a2 → SR ρ4 ι4 H2 w3 → WentB n0 ρ3 ι3 H1 w2 ρ4 ι4 H2 w3 →
        ∃ v w', (Instr.endRound l j).run C.P w3 = .ok v w' ∧ CPost (fun r H' => ∃ j x', Nx x a j x' ∧ r = AV.bool j.isNone ∧ H' = ⟨1, [(0, .sem (LoopS l (recOf fn a0.tmps ps assign body D j) ρ0 ι0 (Hb x')))]⟩) (fun _ _ => False) ρ ι ⟨1, [(0, .sem (LoopS l (recOf fn a0.tmps ps assign body D none) ρ0 ι0 (Hb x)))]⟩ w (.returned v) w' := by
      intro j e2 H2 ρ4 ι4 x' hN hent q1 q2 q3
      obtain ⟨ρ5, ι5, r1, r2, r3⟩ := hent.run ρ4 ι4 a2 w3 q1 q2
      have W := q3.trans r3
      have hl3 : w3.heap[l]? = some (.loop { recOf fn a0.tmps ps assign body D none with state := .busy }) := (q3.touch.block l (Array.getElem?_eq_some_iff.1 hl2).1 off1).trans hl2
      have hend := run_endRound (P := C.P) j hl3
      have erec : ({ { recOf fn a0.tmps ps assign body D none with state := .busy } with state := if j.isNone then .ready else .done, pending := j } : Loop) = recOf fn a0.tmps ps assign body D j := rfl
      rw [erec] at hend
      obtain ⟨w4, hw4⟩ : ∃ w4, w3.putObj l (.loop (recOf fn a0.tmps ps assign body D j)) = w4 := ⟨_, rfl⟩
      rw [hw4] at hend
      have off5 : ¬ (Hb x').foot ρ5 l := fun hf => by
        rcases W.grow l hf with h1 | h1
        · exact off1 h1
        · have := (Array.getElem?_eq_some_iff.1 hl2).1; omega
      have hS5 : SR ρ5 ι5 (Hb x') w4 := r2.still (by rw [← hw4]; exact (touch_put w3 l _).weaken fun k hk => by subst hk; exact ⟨loop_cell hl3, off5⟩)
      have P4 : Pass l n0 ρ5 ι5 (Hb x') w3 ρ5 ι5 (Hb x') w4 := by rw [← hw4]; exact Pass.put _
      have PP : Pass l n0 ρ2 ι (Hb x) w ρ5 ι5 (Hb x') w4 := ((P1.trans P2).trans (Pass.of W)).trans P4
      have hl4 : w4.heap[l]? = some (.loop (recOf fn a0.tmps ps assign body D j)) := by rw [← hw4]; exact put_at hl3
      have hle : Rho.le ρ0 ρ5 := fun h u hu => by
        have hh : h < n0 := by
          rcases Nat.lt_or_ge h n0 with g | g
          · exact g
          · rw [hfr h g] at hu; cases hu
        obtain ⟨u1, g1, g2, g3⟩ := hB.le h u hu
        obtain ⟨u2, k1, k2, k3⟩ := PP.agree h u1 hh g1
        exact ⟨u2, k1, k2.trans g2, k3.trans g3⟩
      refine ⟨.bool j.isNone, w4, hend, AV.bool j.isNone, _, ρ.upd 0 { hv with foot := fun k => k = l ∨ (Hb x').foot ρ5 k }, ι5, ⟨j, x', hN, rfl, rfl⟩, by simp only [AV.R, IV.R], ?_, ?_⟩
      · refine ⟨hS5.imm, hS5.one, fun p hp => ?_, fun h hh => ?_, by simp, fun p hp q hq hpq => ?_, fun p hp u hu k o v hk hi => ?_, fun p hp u hu k hk => ?_⟩
        · rw [List.mem_singleton] at hp
          subst hp
          exact ⟨_, Rho.upd_same _ _ _, hi0.trans PP.imm, hl4, ρ5, hle, fun k => Iff.rfl, off5, hS5.rel, hS5.fresh, hS5.nodup, hS5.apart⟩
        · have hh' : 1 ≤ h := hh
          unfold Rho.upd
          rw [if_neg (by omega)]
          exact hS.fresh h hh
        · rw [List.mem_singleton] at hp hq
          exact absurd (by rw [hp, hq]) hpq
        · rw [List.mem_singleton] at hp
          subst hp
          rw [Rho.upd_same] at hu
          injection hu with hu
          subst hu
          rcases hk with hk | hk
          · subst hk
            have := hS5.imm k o v hi
            rw [loop_cell hl4] at this
            cases this
          · obtain ⟨p, hp, u, hu, hk⟩ := hk
            exact hS5.iapart p hp u hu k o v hk hi
        · rw [List.mem_singleton] at hp
          subst hp
          rw [Rho.upd_same] at hu
          injection hu with hu
          subst hu
          rcases hk with hk | hk
          · subst hk; exact (Array.getElem?_eq_some_iff.1 hl4).1
          · obtain ⟨p, hp, u, hu, hk⟩ := hk
            exact hS5.lt p hp u hu k hk
      · have foot0 : ∀ k, hv.foot k → (AH.mk 1 [(0, Chunk.sem (LoopS l (recOf fn a0.tmps ps assign body D none) ρ0 ι0 (Hb x)))]).foot ρ k := fun k hk => ⟨_, hmem, hv, hr0, hk⟩
        refine ⟨PP.touch.weaken fun k hk => foot0 k ((hB.foot k).2 hk), fun k hk => ?_, PP.imm, fun b o v hi => ?_, fun h u hu => ?_⟩
        · obtain ⟨p, hp, u, hu, hk⟩ := hk
          rw [List.mem_singleton] at hp
          subst hp
          rw [Rho.upd_same] at hu
          injection hu with hu
          subst hu
          rcases hk with hk | hk
          · exact .inl (foot0 k ((hB.foot k).2 (.inl hk)))
          · rcases PP.grow k hk with h1 | h1
            · exact .inl (foot0 k ((hB.foot k).2 (.inr h1)))
            · exact .inr h1
        · rcases PP.immNew b o v hi with h1 | h1 | h1
          · exact .inl h1
          · exact .inr (.inl (foot0 b ((hB.foot b).2 (.inr h1))))
          · exact .inr (.inr h1)
        · by_cases h0 : h = 0
          · subst h0
            rw [hr0] at hu
            injection hu with hu
            subst hu
            exact ⟨_, Rho.upd_same _ _ _, rfl, rfl⟩
          · exact ⟨u, by unfold Rho.upd; rw [if_neg h0]; exact hu, rfl, rfl⟩
    cases ex with
    | normal =>
      obtain ⟨e2, H2, ρ4, ι4, ⟨x', hN, hent⟩, q1, q2, q3, _⟩ := hq
      exact fin none e2 H2 ρ4 ι4 x' hN hent q1 q2 q3
    | exit id =>
      obtain ⟨e2, H2, ρ4, ι4, ⟨x', hN, hent⟩, q1, q2, q3, _⟩ := hq
      exact fin (some (.exit id)) e2 H2 ρ4 ι4 x' hN hent q1 q2 q3
    | ret =>
      obtain ⟨e2, H2, ρ4, ι4, ⟨x', hN, hent⟩, q1, q2, q3, _⟩ := hq
      exact fin (some .ret) e2 H2 ρ4 ι4 x' hN hent q1 q2 q3
    | goto t => exact hq.elim
    | panic ch => obtain ⟨v, _, r, H', ρ', ι', k, _⟩ := hq; exact k.elim
    | outgrown => exact hq.elim
  | exit id => obtain ⟨_, _, _, _, k, _⟩ := hq; exact k.elim
  | ret => obtain ⟨_, _, _, _, k, _⟩ := hq; exact k.elim
  | goto t => exact hq.elim
  | panic ch => obtain ⟨v, _, r, H', ρ', ι', k, _⟩ := hq; exact k.elim
  | outgrown => exact hq.elim
end Go.Proofs.YtpgdbeacmlojcaaGreat.Ax
