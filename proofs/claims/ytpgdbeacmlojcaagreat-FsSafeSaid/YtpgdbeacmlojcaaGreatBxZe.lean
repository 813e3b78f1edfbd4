/-
  Loops over functions: the rule for the statement.
-/
import Derived.Test.YtpgdbeacmlojcaaGreatBxZd
import Derived.Test.YtpgdbeacmlojcaaGreatBxZc
namespace Go.Proofs.YtpgdbeacmlojcaaGreat.Ax
open Go.RowKit

def keepK (l : List Nat) : List (Nat × Chunk) → List (Nat × Chunk)
  | [] => []
  | p :: ps => bif l.any (Nat.beq p.1) then p :: keepK l ps else keepK l ps
theorem keep_mem {l : List Nat} : ∀ {c : List (Nat × Chunk)}, ∀ p ∈ keepK l c, p ∈ c ∧ p.1 ∈ l
  | [], p, hp => by cases hp
  | q :: qs, p, hp => by
    simp only [keepK] at hp
    cases hb : l.any (Nat.beq q.1) with
    | true =>
      rw [hb] at hp
      simp only [cond_true, List.mem_cons] at hp
      rcases hp with rfl | hp
      · refine ⟨List.mem_cons_self .., ?_⟩
        obtain ⟨x, h1, h2⟩ := List.any_eq_true.1 hb
        rw [Nat.eq_of_beq_eq_true h2]; exact h1
      · obtain ⟨h1, h2⟩ := keep_mem p hp; exact ⟨List.mem_cons_of_mem _ h1, h2⟩
    | false =>
      rw [hb] at hp
      obtain ⟨h1, h2⟩ := keep_mem p hp; exact ⟨List.mem_cons_of_mem _ h1, h2⟩
theorem keep_nodup {l : List Nat} : ∀ {c : List (Nat × Chunk)}, (c.map (·.1)).Nodup → ((keepK l c).map (·.1)).Nodup
  | [], _ => by simp [keepK]
  | q :: qs, h => by
    simp only [List.map_cons, List.nodup_cons] at h
    simp only [keepK]
    cases hb : l.any (Nat.beq q.1) with
    | true =>
      simp only [cond_true, List.map_cons, List.nodup_cons]
      refine ⟨fun hm => h.1 ?_, keep_nodup h.2⟩
      obtain ⟨p, hp, e⟩ := List.mem_map.1 hm
      rw [← e]; exact List.mem_map_of_mem (keep_mem p hp).1
    | false => exact keep_nodup h.2
/-- Values that name handles of some kind alone. -/
def AV.flat (B : Nat → Bool) : AV → Bool
  | .iv _ => true
  | .ptr h _ => B h
  | .el h _ _ _ => B h
  | .row h _ _ _ => B h
  | .mp h => B h
  | _ => false
def Chunk.flat (B : Nat → Bool) : Chunk → Bool
  | .cells _ cs => cs.all (AV.flat B)
  | .maph .. => false
  | .mapit .. => false
  | _ => true
def Agree (B : Nat → Bool) (ρ ρ' : Rho) : Prop := ∀ h hv, B h = true → ρ h = some hv → ∃ hu : HV, ρ' h = some hu ∧ hu.blk = hv.blk ∧ hu.room = hv.room
theorem AV.flat_R {B : Nat → Bool} {ρ ρ' : Rho} {ι : Imm} (ha : Agree B ρ ρ') : ∀ (x : AV) (v : Value), x.flat B = true → x.R ρ ι v → x.R ρ' ι v
  | .iv x, v, _, h => by simpa only [AV.R] using h
  | .ptr h off, v, hb, hR => by
    simp only [AV.R] at hR ⊢
    obtain ⟨hv, b, h1, h2, h3⟩ := hR
    obtain ⟨hu, g1, g2, _⟩ := ha _ _ hb h1
    exact ⟨hu, b, g1, g2.trans h2, h3⟩
  | .el h sz i fo, v, hb, hR => by
    simp only [AV.R] at hR ⊢
    obtain ⟨hv, b, h1, h2, h3⟩ := hR
    obtain ⟨hu, g1, g2, _⟩ := ha _ _ hb h1
    exact ⟨hu, b, g1, g2.trans h2, h3⟩
  | .row h sz off len, v, hb, hR => by
    simp only [AV.R] at hR ⊢
    obtain ⟨A, c, h1, h2, h3, h4⟩ := hR
    refine ⟨A, c, h1, h2, h3, fun h0 => ?_⟩
    obtain ⟨hv, b, g1, g2, g3, g4⟩ := h4 h0
    obtain ⟨hu, k1, k2, k3⟩ := ha _ _ hb g1
    exact ⟨hu, b, k1, k2.trans g2, g3, by rw [k3]; exact g4⟩
  | .mp h, v, hb, hR => by
    simp only [AV.R] at hR ⊢
    obtain ⟨hv, b, h1, h2, h3⟩ := hR
    obtain ⟨hu, g1, g2, _⟩ := ha _ _ hb h1
    exact ⟨hu, b, g1, g2.trans h2, h3⟩
  | .agg _, _, hb, _ => by cases hb
  | .tup _, _, hb, _ => by cases hb
  | .ifc .., _, hb, _ => by cases hb
  | .fnc .., _, hb, _ => by cases hb
  | .pp _, _, hb, _ => by cases hb
  | .sl .., _, hb, _ => by cases hb
  | .junk, _, hb, _ => by cases hb
  | .anyb, _, hb, _ => by cases hb
theorem AV.flats_R {B : Nat → Bool} {ρ ρ' : Rho} {ι : Imm} (ha : Agree B ρ ρ') : ∀ (xs : List AV) (vs : List Value), xs.all (AV.flat B) = true → AV.Rs ρ ι xs vs → AV.Rs ρ' ι xs vs
  | [], vs, _, h => by simpa only [AV.Rs] using h
  | x :: xs, vs, hb, h => by
    simp only [List.all_cons, Bool.and_eq_true] at hb
    simp only [AV.Rs] at h ⊢
    obtain ⟨u, us, e, h1, h2⟩ := h
    exact ⟨u, us, e, AV.flat_R ha x u hb.1 h1, AV.flats_R ha xs us hb.2 h2⟩
theorem Chunk.flat_R {B : Nat → Bool} {ρ ρ' : Rho} {ι : Imm} {hv : HV} {w : World} (ha : Agree B ρ ρ') {c : Chunk} (hb : c.flat B = true) (h : c.R ρ ι hv w) : c.R ρ' ι hv w := by
  cases c with
  | cells e cs =>
    obtain ⟨b, vs, h1, h2, h3, h4⟩ := h
    exact ⟨b, vs, h1, h2, h3, AV.flats_R ha cs vs hb h4⟩
  | maph kk m => cases hb
  | mapit kk m left i la => cases hb
  | rowc e sz n f => exact h
  | brow e l => exact h
  | map kk m => exact h
  | icells cs => exact h
  | gmap g kk m es clock => exact h
  | sem S => exact h
theorem go_keep {l : List Nat} : ∀ {c : List (Nat × Chunk)}, ∀ p ∈ mergeH.go l c, ∀ q ∈ keepK l c, p.1 ≠ q.1 := fun p hp q hq e => (merge_go p hp).2 q.1 (keep_mem q hq).2 e
abbrev yieldV (l : Nat) : AV := .iv (.v (.func (.yield l) ⟨[]⟩ ⟨[]⟩))
set_option maxHeartbeats 1000000 in
/-- **A loop over a function**: the function has a contract, told of any body; the body's rounds go from state to state. -/
theorem AWP.range {C : Cfg} (hro : C.ro = none) {X A : Type} {g : Operand} {ps : Array Tmp} {assign body : Code} {e : Env} {H : AH} {q : Post}
    (lI : List Nat) {gf : FuncId} {b c : List AV} (hg : opd e g = .fnc (.func gf) b c)
    (enc : A → List IV) (hps : ∀ a, (enc a).length = ps.size)
    (Hb : X → AH) (x0 : X) (Al : X → A → Prop) (Nx : X → A → Option Code → X → Prop) (Fin : X → Option Code → List (Nat × Chunk) → Prop)
    (hnext : ∀ x, H.next ≤ (Hb x).next)
    (hdis : ∀ x j L, Fin x j L → ∀ p ∈ L, ∀ r ∈ (Hb x).ch, p.1 ≠ r.1)
    (hflat : ∀ x j L, Fin x j L → ∀ p ∈ L, (H.get p.1).isSome = true ∧ p.2.flat (fun h => (H.get h).isSome) = true)
    (h0 : HEnt ⟨H.next, mergeH.go lI H.ch⟩ (Hb x0))
    (hround : ∀ l x a, Al x a → AWP { C with ro := some l, base := H.next } assign (putPs C.N e ps.toList ((enc a).map .iv)) (Hb x) ⟨fun e1 H1 => AWP { C with ro := some l, base := H.next } body e1 H1 (JQ C.N H.next Hb Nx x a), fun _ _ _ => False, fun _ _ => False, fun _ _ => False⟩)
    (hit : ∀ (l : Nat) (Bd : X → Option Code → SemP), (∀ x a, Al x a → YCall C.P l ((enc a).map .iv) ⟨1, [(0, .sem (Bd x none))]⟩ (fun r H' => ∃ j x', Nx x a j x' ∧ r = AV.bool j.isNone ∧ H' = ⟨1, [(0, .sem (Bd x' j))]⟩) (fun _ _ => False)) →
      ACall C.P gf (b ++ [yieldV l] ++ c) ⟨H.next + 1, keepK lI H.ch ++ [(H.next, .sem (Bd x0 none))]⟩ (fun _ H' => ∃ x j L nx, Fin x j L ∧ H' = ⟨nx, L ++ [(H.next, .sem (Bd x j))]⟩) (fun _ _ => False))
    (hend : ∀ x j L, Fin x j L → match j with
      | none => q.n e ⟨(Hb x).next, (Hb x).ch ++ L⟩
      | some (.exit id) => q.x id e ⟨(Hb x).next, (Hb x).ch ++ L⟩
      | some .ret => q.r e ⟨(Hb x).next, (Hb x).ch ++ L⟩
      | some _ => False) : AWP C (.rangeFunc g ps assign body) e H q := by
  refine ⟨fun lo ρ ι a w hE hS hM => ?_⟩
  rw [hro]
  refine wpIn_rangeFunc fun fn _ => ?_
  -- the loop's blocks
  obtain ⟨w1, hw1⟩ : ∃ w1, (w.alloc (.deferred (some []))).alloc (.loop (recOf fn a.tmps ps assign body w.heap.size none)) = w1 := ⟨_, rfl⟩
  have hs1 : w1.heap.size = w.heap.size + 2 := by rw [← hw1]; simp
  have ht1 : Touch (fun _ => False) w w1 := by
    refine ⟨by rw [← hw1]; rfl, by rw [← hw1]; rfl, by rw [← hw1]; rfl, by omega, fun k hk _ => ?_⟩
    rw [← hw1]
    exact (Below.heap_alloc _ _ k (by simp; omega)).trans (Below.heap_alloc _ _ k hk)
  have hD1 : w1.heap[w.heap.size]? = some (.deferred (some [])) := by
    rw [← hw1]
    exact (Below.heap_alloc _ _ _ (by simp)).trans (World.alloc_heap_new w _)
  have hl1 : w1.heap[w.heap.size + 1]? = some (.loop (recOf fn a.tmps ps assign body w.heap.size none)) := by
    rw [← hw1]
    have := World.alloc_heap_new (w.alloc (.deferred (some []))) (.loop (recOf fn a.tmps ps assign body w.heap.size none))
    rwa [World.size_alloc] at this
  have henter : (Instr.enterLoop fn a.tmps ps assign body none).run C.P w = .ok (w.heap.size + 1, [{ target := .collected w.heap.size, args := #[] }]) w1 := by
    rw [← hw1]; exact run_enterLoop_outer _ _ _ _ _
  generalize hl : w.heap.size + 1 = l at hl1 henter
  have hS1 : SR ρ ι H w1 := hS.still (ht1.weaken fun _ h => h.elim)
  -- the body's memory
  have hgo : ∀ p ∈ mergeH.go lI H.ch, p ∈ H.ch := fun p hp => (merge_go p hp).1
  have hke : ∀ p ∈ keepK lI H.ch, p ∈ H.ch := fun p hp => (keep_mem p hp).1
  have hSr : SR ρ ι ⟨H.next, mergeH.go lI H.ch⟩ w1 := hS1.sub hgo (merge_go_nodup hS.nodup)
  obtain ⟨ρ1, ι1, hSb, hW1⟩ := h0.run ρ ι w1 hSr
  have hft : ∀ p ∈ H.ch, ∀ u, ρ p.1 = some u → ∀ k, u.foot k → k < w.heap.size := fun p hp u hu k hk => hS.lt p hp u hu k hk
  have footr : ∀ k, (AH.mk H.next (mergeH.go lI H.ch)).foot ρ k → H.foot ρ k ∧ k < w.heap.size := fun k ⟨p, hp, u, hu, hk⟩ => ⟨⟨p, hgo p hp, u, hu, hk⟩, hft p (hgo p hp) u hu k hk⟩
  have footb : ∀ k, (Hb x0).foot ρ1 k → H.foot ρ k ∧ k < w.heap.size ∧ (AH.mk H.next (mergeH.go lI H.ch)).foot ρ k := fun k hk => by
    rcases hW1.grow k hk with h1 | h1
    · exact ⟨(footr k h1).1, (footr k h1).2, h1⟩
    · obtain ⟨p, hp, u, hu, hk⟩ := hk
      have := hSb.lt p hp u hu k hk
      omega
  have hfr : ∀ h, H.next ≤ h → ρ h = none := hS.fresh
  let Bd : X → Option Code → SemP := fun x j => LoopS l (recOf fn a.tmps ps assign body w.heap.size j) ρ ι (Hb x)
  have hY : ∀ x a', Al x a' → YCall C.P l ((enc a').map .iv) ⟨1, [(0, .sem (Bd x none))]⟩ (fun r H' => ∃ j x', Nx x a' j x' ∧ r = AV.bool j.isNone ∧ H' = ⟨1, [(0, .sem (Bd x' j))]⟩) (fun _ _ => False) := fun x a' ha => loop_yield enc Hb Nx hE hfr (hps a') (hround l x a' ha)
  have hcall := hit l Bd hY
  -- the function's memory
  obtain ⟨hvB, hhB⟩ : ∃ hvB : HV, hvB = { blk := none, room := 0, foot := fun k => k = l ∨ (Hb x0).foot ρ1 k } := ⟨_, rfl⟩
  have hvF : ∀ k, hvB.foot k ↔ k = l ∨ (Hb x0).foot ρ1 k := fun k => by rw [hhB]
  have offl : ¬ (Hb x0).foot ρ1 l := fun hf => by have := (footb l hf).2.1; omega
  have hkl : ∀ p ∈ H.ch, p.1 < H.next := fun p hp => by
    obtain ⟨u, h1, _⟩ := hS.rel p hp
    rcases Nat.lt_or_ge p.1 H.next with h2 | h2
    · exact h2
    · rw [hS.fresh _ h2] at h1; cases h1
  have hupd : ∀ h, h < H.next → (ρ.upd H.next hvB) h = ρ h := fun h hh => by unfold Rho.upd; rw [if_neg (by omega)]
  have hSI : SR (ρ.upd H.next hvB) ι1 ⟨H.next + 1, keepK lI H.ch ++ [(H.next, .sem (Bd x0 none))]⟩ w1 := by
    have mem : ∀ p ∈ keepK lI H.ch ++ [(H.next, Chunk.sem (Bd x0 none))], (p ∈ keepK lI H.ch ∧ (ρ.upd H.next hvB) p.1 = ρ p.1) ∨ p = (H.next, .sem (Bd x0 none)) := fun p hp => by
      rcases List.mem_append.1 hp with hp | hp
      · exact .inl ⟨hp, hupd _ (hkl p (hke p hp))⟩
      · rw [List.mem_singleton] at hp; exact .inr hp
    refine ⟨hSb.imm, hSb.one, fun p hp => ?_, fun h hh => ?_, ?_, fun p hp q hq hpq x y hx hy k hk hk2 => ?_, fun p hp x hx k o v hk hi => ?_, fun p hp x hx k hk => ?_⟩
    · rcases mem p hp with ⟨h1, h2⟩ | rfl
      · obtain ⟨u, g1, g2⟩ := hS1.rel p (hke p h1)
        exact ⟨u, h2.trans g1, g2.keep (Rho.le_upd hvB (hfr _ (Nat.le_refl _))) hW1.imm fun _ _ => rfl⟩
      · exact ⟨hvB, Rho.upd_same _ _ _, hW1.imm, hl1, ρ1, hW1.agree, hvF, offl, hSb.rel, hSb.fresh, hSb.nodup, hSb.apart⟩
    · have hh' : H.next + 1 ≤ h := hh
      unfold Rho.upd
      rw [if_neg (by omega)]
      exact hfr h (by omega)
    · rw [List.map_append, List.nodup_append]
      refine ⟨keep_nodup hS.nodup, by simp, fun x hx y hy e => ?_⟩
      obtain ⟨p, hp, rfl⟩ := List.mem_map.1 hx
      simp at hy
      have := hkl p (hke p hp)
      omega
    · have farB : ∀ p ∈ keepK lI H.ch, ∀ x, ρ p.1 = some x → ∀ k, x.foot k → ¬ hvB.foot k := fun p hp x hx k hk hk2 => by
        rcases (hvF k).1 hk2 with h1 | h1
        · have := hft p (hke p hp) x hx k hk; omega
        · obtain ⟨r, hr, y, hy, hk3⟩ := (footb k h1).2.2
          exact hS.apart p (hke p hp) r (hgo r hr) (fun e => go_keep r hr p hp e.symm) x y hx hy k hk hk3
      rcases mem p hp with ⟨h1, h2⟩ | rfl <;> rcases mem q hq with ⟨h3, h4⟩ | rfl
      · rw [h2] at hx; rw [h4] at hy
        exact hS.apart p (hke p h1) q (hke q h3) hpq x y hx hy k hk hk2
      · rw [h2] at hx; rw [Rho.upd_same] at hy; injection hy with hy; subst hy
        exact farB p h1 x hx k hk hk2
      · rw [h4] at hy; rw [Rho.upd_same] at hx; injection hx with hx; subst hx
        exact farB q h3 y hy k hk2 hk
      · exact hpq rfl
    · rcases mem p hp with ⟨h1, h2⟩ | rfl
      · rw [h2] at hx
        have hlt := hft p (hke p h1) x hx k hk
        rcases hW1.immNew k o v hi with h3 | h3 | h3
        · exact hS.iapart p (hke p h1) x hx k o v hk h3
        · obtain ⟨r, hr, y, hy, hk3⟩ := h3
          exact hS.apart p (hke p h1) r (hgo r hr) (fun e => go_keep r hr p h1 e.symm) x y hx hy k hk hk3
        · omega
      · rw [Rho.upd_same] at hx; injection hx with hx; subst hx
        rcases (hvF k).1 hk with h1 | h1
        · subst h1
          have := hSb.imm k o v hi
          rw [loop_cell hl1] at this
          cases this
        · obtain ⟨r, hr, y, hy, hk⟩ := h1
          exact hSb.iapart r hr y hy k o v hk hi
    · rcases mem p hp with ⟨h1, h2⟩ | rfl
      · rw [h2] at hx; exact hS1.lt p (hke p h1) x hx k hk
      · rw [Rho.upd_same] at hx; injection hx with hx; subst hx
        rcases (hvF k).1 hk with h1 | h1
        · omega
        · have := (footb k h1).2.1; omega
  -- the call
  have hgv := opd_ok hE g
  rw [hg] at hgv
  simp only [AV.R] at hgv
  obtain ⟨bs, cs, hge, hrb, hrc⟩ := hgv
  have hleI : Rho.le ρ (ρ.upd H.next hvB) := Rho.le_upd hvB (hfr _ (Nat.le_refl _))
  have hargs : AV.Rs (ρ.upd H.next hvB) ι1 (b ++ [yieldV l] ++ c) (bs ++ [Value.func (.yield l) #[] #[]] ++ cs) :=
    Rs_append (Rs_append (AV.Rs_mono hleI hW1.imm _ _ hrb) (by simp only [AV.Rs, AV.R, IV.R]; exact ⟨_, _, rfl, rfl, rfl⟩)) (AV.Rs_mono hleI hW1.imm _ _ hrc)
  have hrun := hcall.run _ ι1 w1 _ (hE.glob.mono hW1.imm) hSI hargs
  obtain ⟨f0, f1, f2, f3⟩ := hcall.fn
  have hcf : ∀ as : Array Value, (callFunc gf as).run C.P w1 = .ok (.enter gf as) w1 := fun as => by
    simp only [callFunc, Sem.run_bind, run_program, Result.andThen_ok, f1, f2, f3, Bool.false_eq_true, if_false, Sem.run_pure]
  refine ⟨l, [{ target := .collected w.heap.size, args := #[] }], w1, { target := .fn (.func gf) cs.toArray, args := bs.toArray ++ #[Value.func (.yield l) #[] #[]] }, w1, gf, (bs ++ [Value.func (.yield l) #[] #[]] ++ cs).toArray, w1, henter, ?_, fun _ _ => trivial, ?_, fun hd => Bool.noConfusion (show false = true from hd), ?_⟩
  · have ec : a.eval (.const (.func (.yield l) #[] #[])) = .func (.yield l) #[] #[] := rfl
    simp [resolve, hge, ec, Deferred.ofValue]
  · simp [invoke, hcf]
  refine (calls_FE hrun).mono fun en w6 hp => ?_
  cases en with
  | outgrown => exact hp.elim
  | panicked ch => obtain ⟨v, _, r, H', ρ', ι', k, _⟩ := hp; exact k.elim
  | returned v =>
    obtain ⟨r, H', ρ6, ι6, ⟨x, j, L, nx, hF, rfl⟩, _, hS6, hW6⟩ := hp
    have hmB : (H.next, Chunk.sem (Bd x j)) ∈ (AH.mk nx (L ++ [(H.next, Chunk.sem (Bd x j))])).ch := List.mem_append_right _ (List.mem_singleton.2 rfl)
    obtain ⟨hvE, hrE, hi6, hl6, ρ7, hB⟩ := hS6.rel _ hmB
    have hLm : ∀ p ∈ L, p ∈ (AH.mk nx (L ++ [(H.next, Chunk.sem (Bd x j))])).ch := fun p hp => List.mem_append_left _ hp
    have hL := hflat x j L hF
    have hdj := hdis x j L hF
    have hend6 : (Instr.endLoop l).run C.P w6 = .ok j (w6.putObj l (.loop { recOf fn a.tmps ps assign body w.heap.size j with state := .exhausted })) := run_endLoop (P := C.P) hl6 (by unfold recOf; cases j <;> simp)
    obtain ⟨w7, hw7⟩ : ∃ w7, w6.putObj l (.loop { recOf fn a.tmps ps assign body w.heap.size j with state := .exhausted }) = w7 := ⟨_, rfl⟩
    rw [hw7] at hend6
    have ht7 : Touch (fun k => k = l) w6 w7 := by rw [← hw7]; exact touch_put w6 l _
    have hS7 : SR ρ6 ι6 ⟨nx, L⟩ w6 := ⟨hS6.imm, hS6.one, fun p hp => hS6.rel p (hLm p hp), hS6.fresh, (List.nodup_append.1 (by have := hS6.nodup; rwa [List.map_append] at this)).1, fun p hp q hq => hS6.apart p (hLm p hp) q (hLm q hq), fun p hp => hS6.iapart p (hLm p hp), fun p hp => hS6.lt p (hLm p hp)⟩
    have in6 : ∀ p ∈ (Hb x).ch, ∀ u, ρ7 p.1 = some u → ∀ k, u.foot k → hvE.foot k := fun p hp u hu k hk => (hB.foot k).2 (.inr ⟨p, hp, u, hu, hk⟩)
    -- both memories together
    let ρc : Rho := fun h => if (L.any fun p => Nat.beq p.1 h) = true then ρ6 h else ρ7 h
    have cL : ∀ p ∈ L, ρc p.1 = ρ6 p.1 := fun p hp => if_pos (List.any_eq_true.2 ⟨p, hp, by simp⟩)
    have cB : ∀ p ∈ (Hb x).ch, ρc p.1 = ρ7 p.1 := fun p hp => if_neg (by
      rw [List.any_eq_true]
      rintro ⟨r, hr, e1⟩
      exact hdj r hr p hp (Nat.eq_of_beq_eq_true e1))
    have ag6 : ∀ h u, ρ h = some u → ∃ hu : HV, ρ6 h = some hu ∧ hu.blk = u.blk ∧ hu.room = u.room := fun h u hu => hW6.agree h u (by
      have hh : h < H.next := by
        rcases Nat.lt_or_ge h H.next with g | g
        · exact g
        · rw [hfr h g] at hu; cases hu
      rw [hupd h hh]; exact hu)
    have hle7 : Rho.le ρ ρ7 := hB.le
    have alive : ∀ h, (H.get h).isSome = true → ∃ u, ρ h = some u := fun h hh => by
      obtain ⟨c, hc⟩ := Option.isSome_iff_exists.1 hh
      obtain ⟨u, hu, _⟩ := hS.hv hc
      exact ⟨u, hu⟩
    have hlec : Rho.le ρ ρc := fun h u hu => by
      by_cases hm : (L.any fun p => Nat.beq p.1 h) = true
      · simp only [ρc, if_pos hm]; exact ag6 h u hu
      · simp only [ρc, if_neg hm]; exact hle7 h u hu
    have le7c : Rho.le ρ7 ρc := fun h u hu => by
      by_cases hm : (L.any fun p => Nat.beq p.1 h) = true
      · simp only [ρc, if_pos hm]
        obtain ⟨p, hp, e1⟩ := List.any_eq_true.1 hm
        have e1 := Nat.eq_of_beq_eq_true e1
        subst e1
        obtain ⟨u0, hu0⟩ := alive _ (hL p hp).1
        obtain ⟨u1, g1, g2, g3⟩ := hle7 _ u0 hu0
        obtain ⟨u2, k1, k2, k3⟩ := ag6 _ u0 hu0
        rw [hu] at g1
        injection g1 with g1
        subst g1
        exact ⟨u2, k1, k2.trans g2.symm, k3.trans g3.symm⟩
      · simp only [ρc, if_neg hm]; exact ⟨u, hu, rfl, rfl⟩
    have ag6c : Agree (fun h => (H.get h).isSome) ρ6 ρc := fun h u hh hu => by
      obtain ⟨u0, hu0⟩ := alive h hh
      obtain ⟨u1, g1, g2, g3⟩ := hlec h u0 hu0
      obtain ⟨u2, k1, k2, k3⟩ := ag6 h u0 hu0
      rw [hu] at k1
      injection k1 with k1
      subst k1
      exact ⟨u1, g1, g2.trans k2.symm, g3.trans k3.symm⟩
    have footI : ∀ k, (AH.mk (H.next + 1) (keepK lI H.ch ++ [(H.next, Chunk.sem (Bd x0 none))])).foot (ρ.upd H.next hvB) k → k = l ∨ (H.foot ρ k ∧ k < w.heap.size) := fun k ⟨p, hp, u, hu, hk⟩ => by
      rcases List.mem_append.1 hp with hp | hp
      · rw [hupd _ (hkl p (hke p hp))] at hu
        exact .inr ⟨⟨p, hke p hp, u, hu, hk⟩, hft p (hke p hp) u hu k hk⟩
      · rw [List.mem_singleton] at hp
        subst hp
        rw [Rho.upd_same] at hu
        injection hu with hu
        subst hu
        rcases (hvF k).1 hk with h1 | h1
        · exact .inl h1
        · exact .inr ⟨(footb k h1).1, (footb k h1).2.1⟩
    have footE : ∀ k, hvE.foot k → k = l ∨ H.foot ρ k ∨ w1.heap.size ≤ k := fun k hk => by
      rcases hW6.grow k ⟨_, hmB, hvE, hrE, hk⟩ with h1 | h1
      · rcases footI k h1 with h2 | h2
        · exact .inl h2
        · exact .inr (.inl h2.1)
      · exact .inr (.inr h1)
    have footL : ∀ p ∈ L, ∀ u, ρ6 p.1 = some u → ∀ k, u.foot k → k = l ∨ H.foot ρ k ∨ w1.heap.size ≤ k := fun p hp u hu k hk => by
      rcases hW6.grow k ⟨p, hLm p hp, u, hu, hk⟩ with h1 | h1
      · rcases footI k h1 with h2 | h2
        · exact .inl h2
        · exact .inr (.inl h2.1)
      · exact .inr (.inr h1)
    have notl : ∀ p ∈ L, ∀ u, ρ6 p.1 = some u → ¬ u.foot l := fun p hp u hu hk => by
      have hne : p.1 ≠ H.next := fun e => by
        obtain ⟨c0, hc0⟩ := Option.isSome_iff_exists.1 (hL p hp).1
        have := hkl _ (AH.get_mem hc0)
        simp only at this
        omega
      exact hS6.apart p (hLm p hp) _ hmB hne u hvE hu hrE l hk ((hB.foot l).2 (.inl rfl))
    have farLB : ∀ p ∈ L, ∀ u, ρ6 p.1 = some u → ∀ k, u.foot k → ¬ hvE.foot k := fun p hp u hu k hk => by
      have hne : p.1 ≠ H.next := fun e => by
        obtain ⟨c0, hc0⟩ := Option.isSome_iff_exists.1 (hL p hp).1
        have := hkl _ (AH.get_mem hc0)
        simp only at this
        omega
      exact hS6.apart p (hLm p hp) _ hmB hne u hvE hu hrE k hk
    have imm7 : ∀ b o v, ι6 b o = some v → w7.cell? ⟨b, o, none⟩ = some v := fun b o v hi => by
      have h1 := hS6.imm b o v hi
      rw [← h1]
      refine World.cell?_of_block (ht7.block b (World.block_lt_of_cell? w6 _ h1) fun e => ?_)
      subst e
      rw [loop_cell hl6] at h1
      cases h1
    obtain ⟨Hc, hHc⟩ : ∃ Hc : AH, Hc = ⟨(Hb x).next, (Hb x).ch ++ L⟩ := ⟨_, rfl⟩
    have memc : ∀ p ∈ Hc.ch, (p ∈ (Hb x).ch ∧ ρc p.1 = ρ7 p.1) ∨ (p ∈ L ∧ ρc p.1 = ρ6 p.1) := fun p hp => by
      rw [hHc] at hp
      rcases List.mem_append.1 hp with hp | hp
      · exact .inl ⟨hp, cB p hp⟩
      · exact .inr ⟨hp, cL p hp⟩
    have hSc : SR ρc ι6 Hc w7 := by
      refine ⟨imm7, hS6.one, fun p hp => ?_, fun h hh => ?_, ?_, fun p hp q hq hpq x2 y hx hy k hk hk2 => ?_, fun p hp x2 hx k o v hk hi => ?_, fun p hp x2 hx k hk => ?_⟩
      · rcases memc p hp with ⟨h1, h2⟩ | ⟨h1, h2⟩
        · obtain ⟨u, g1, g2⟩ := hB.rel p h1
          exact ⟨u, h2.trans g1, g2.keep le7c (Imm.le.refl _) fun k hk => ht7.block k (hS6.lt _ hmB hvE hrE k (in6 p h1 u g1 k hk)) fun e => hB.off (by subst e; exact ⟨p, h1, u, g1, hk⟩)⟩
        · obtain ⟨u, g1, g2⟩ := hS7.rel p h1
          exact ⟨u, h2.trans g1, (Chunk.flat_R ag6c (hL p h1).2 g2).keep (Rho.le.refl _) (Imm.le.refl _) fun k hk => ht7.block k (hS6.lt p (hLm p h1) u g1 k hk) fun e => notl p h1 u g1 (by subst e; exact hk)⟩
      · have hh' : (Hb x).next ≤ h := by rw [hHc] at hh; exact hh
        have hm : ¬ (L.any fun p => Nat.beq p.1 h) = true := by
          rw [List.any_eq_true]
          rintro ⟨p, hp, e1⟩
          have e1 := Nat.eq_of_beq_eq_true e1
          obtain ⟨c0, hc0⟩ := Option.isSome_iff_exists.1 (hL p hp).1
          have h2 := hkl _ (AH.get_mem hc0)
          have h3 := hnext x
          simp only at h2
          omega
        simp only [ρc, if_neg hm]
        exact hB.fresh h hh'
      · rw [hHc, List.map_append, List.nodup_append]
        refine ⟨hB.nodup, hS7.nodup, fun x2 hx y hy e1 => ?_⟩
        obtain ⟨p, hp, rfl⟩ := List.mem_map.1 hx
        obtain ⟨q, hq, rfl⟩ := List.mem_map.1 hy
        exact hdj q hq p hp e1.symm
      · rcases memc p hp with ⟨h1, h2⟩ | ⟨h1, h2⟩ <;> rcases memc q hq with ⟨h3, h4⟩ | ⟨h3, h4⟩
        · rw [h2] at hx; rw [h4] at hy; exact hB.apart p h1 q h3 hpq x2 y hx hy k hk hk2
        · rw [h2] at hx; rw [h4] at hy; exact farLB q h3 y hy k hk2 (in6 p h1 x2 hx k hk)
        · rw [h2] at hx; rw [h4] at hy; exact farLB p h1 x2 hx k hk (in6 q h3 y hy k hk2)
        · rw [h2] at hx; rw [h4] at hy; exact hS7.apart p h1 q h3 hpq x2 y hx hy k hk hk2
      · rcases memc p hp with ⟨h1, h2⟩ | ⟨h1, h2⟩
        · rw [h2] at hx; exact hS6.iapart _ hmB hvE hrE k o v (in6 p h1 x2 hx k hk) hi
        · rw [h2] at hx; exact hS7.iapart p h1 x2 hx k o v hk hi
      · refine Nat.lt_of_lt_of_le ?_ ht7.size
        rcases memc p hp with ⟨h1, h2⟩ | ⟨h1, h2⟩
        · rw [h2] at hx; exact hS6.lt _ hmB hvE hrE k (in6 p h1 x2 hx k hk)
        · rw [h2] at hx; exact hS7.lt p h1 x2 hx k hk
    have footc : ∀ k, Hc.foot ρc k → H.foot ρ k ∨ w1.heap.size ≤ k := fun k ⟨p, hp, u, hu, hk⟩ => by
      rcases memc p hp with ⟨h1, h2⟩ | ⟨h1, h2⟩
      · rw [h2] at hu
        rcases footE k (in6 p h1 u hu k hk) with h3 | h3
        · subst h3; exact absurd ⟨p, h1, u, hu, hk⟩ hB.off
        · exact h3
      · rw [h2] at hu
        rcases footL p h1 u hu k hk with h3 | h3
        · subst h3; exact absurd hk (notl p h1 u hu)
        · exact h3
    have keep7 : ∀ k, k < w1.heap.size → k ≠ l → ¬ (H.foot ρ k ∧ k < w.heap.size) → w7.heap[k]? = w1.heap[k]? := fun k hk hkl2 hn =>
      (ht7.block k (Nat.lt_of_lt_of_le hk hW6.touch.size) hkl2).trans (hW6.touch.block k hk fun hf => by
        rcases footI k hf with h1 | h1
        · exact hkl2 h1
        · exact hn h1)
    have hsz : w1.heap.size ≤ w7.heap.size := Nat.le_trans hW6.touch.size ht7.size
    have hWc : WentB C.base ρ ι H w ρc ι6 Hc w7 := by
      refine ⟨⟨ht7.os.trans (hW6.touch.os.trans ht1.os), ht7.tape.trans (hW6.touch.tape.trans ht1.tape), ht7.output.trans (hW6.touch.output.trans ht1.output), by omega, fun k hk hn => ?_⟩, fun k hk => ?_, hW1.imm.trans hW6.imm, fun b o v hi => ?_, fun h u _ hu => hlec h u hu⟩
      · exact (keep7 k (by omega) (by omega) fun x => hn x.1).trans (ht1.block k hk fun f => f.elim)
      · rcases footc k hk with h1 | h1
        · exact .inl h1
        · exact .inr (by omega)
      · rcases hW6.immNew b o v hi with h1 | h1 | h1
        · rcases hW1.immNew b o v h1 with h2 | h2 | h2
          · exact .inl h2
          · exact .inr (.inl (footr b h2).1)
          · exact .inr (.inr (by omega))
        · rcases footI b h1 with h2 | h2
          · exact .inr (.inr (by omega))
          · exact .inr (.inl h2.1)
        · exact .inr (.inr (by omega))
    have hMc : Mk lo ρc Hc w7 ([{ target := .collected w.heap.size, args := #[] }] ++ a.defers) := by
      refine ⟨by have := hM.1; omega, ?_, fun d hd => ?_⟩
      · rw [List.singleton_append, List.nodup_cons]
        refine ⟨fun hd => ?_, hM.2.1⟩
        obtain ⟨D', e1, _, e3, _⟩ := hM.2.2 _ hd
        have : D' < w.heap.size := (Array.getElem?_eq_some_iff.1 e3).1
        injection e1 with e1 _
        injection e1 with e1
        omega
      · rw [List.singleton_append, List.mem_cons] at hd
        rcases hd with rfl | hd
        · refine ⟨w.heap.size, rfl, hM.1, (keep7 _ (by omega) (by omega) fun x => by omega).trans hD1, fun hf => ?_⟩
          rcases footc _ hf with h1 | h1
          · obtain ⟨p, hp, u, hu, hk⟩ := h1
            have := hft p hp u hu _ hk
            omega
          · omega
        · obtain ⟨D', e1, e2, e3, e4⟩ := hM.2.2 d hd
          have hlt : D' < w.heap.size := (Array.getElem?_eq_some_iff.1 e3).1
          refine ⟨D', e1, e2, (keep7 D' (by omega) (by omega) fun x => e4 x.1).trans ((ht1.block D' hlt fun f => f.elim).trans e3), fun hf => ?_⟩
          rcases footc _ hf with h1 | h1
          · exact e4 h1
          · omega
    have hEc : ER ρc ι6 C.N e { a with defers := [{ target := .collected w.heap.size, args := #[] }] ++ a.defers } := by
      have := hE.mono hlec (hW1.imm.trans hW6.imm)
      exact ⟨this.glob, this.size, this.slot⟩
    have hQ := hend x j L hF
    rw [← hHc] at hQ
    refine ⟨j, w7, hend6, ?_⟩
    cases j with
    | none => exact ⟨e, Hc, ρc, ι6, hQ, hEc, hSc, hWc, hMc⟩
    | some cd =>
      cases cd with
      | exit id => exact wpIn_exit ⟨e, Hc, ρc, ι6, hQ, hEc, hSc, hWc, hMc⟩
      | ret => exact wpIn_ret ⟨e, Hc, ρc, ι6, hQ, hEc, hSc, hWc, hMc⟩
      | _ => exact hQ.elim
/-- A chunk goes on under a new handle; who names it names it anew. -/
def reN (k m : Nat) (h : Nat) : Nat := bif Nat.beq h k then m else h
def renewH (k : Nat) (c : Chunk) (H : AH) : AH := ⟨H.next + 1, go ((H.del k).add c).ch⟩
where go : List (Nat × Chunk) → List (Nat × Chunk)
  | [] => []
  | p :: ps => (p.1, p.2.ren (reN k H.next)) :: go ps
theorem renew_map (k m : Nat) (H : AH) : ∀ L, renewH.go k H L = L.map fun p => (p.1, p.2.ren (reN k H.next))
  | [] => rfl
  | p :: ps => by simp only [renewH.go, List.map_cons, renew_map k m H ps]
theorem HEnt.renew {H : AH} (k : Nat) (c : Chunk) (hc : H.get k = some c) : HEnt H (renewH k c H) := ⟨fun ρ ι w hS => by
  obtain ⟨hv, hr, hR⟩ := hS.hv hc
  have hle0 := Rho.le_upd hv (hS.fresh H.next (Nat.le_refl _))
  obtain ⟨h1, h2⟩ := hS.move hc hr c hv (Touch.refl _ _) (fun j hj => ⟨.inl hj, hS.lt _ (AH.get_mem hc) hv hr j hj⟩) (hR.keep hle0 (Imm.le.refl _) fun _ _ => rfl)
  have hle : Rho.le (ρ.upd H.next hv) (fun h => (ρ.upd H.next hv) (reN k H.next h)) := fun h u hu => by
    unfold reN
    cases hb : Nat.beq h k with
    | true =>
      have := Nat.eq_of_beq_eq_true hb
      subst this
      refine ⟨hv, by show (ρ.upd H.next hv) (bif Nat.beq h h then H.next else h) = some hv; rw [hb]; exact Rho.upd_same _ _ _, ?_⟩
      unfold Rho.upd at hu
      split at hu
      · injection hu with hu; subst hu; exact ⟨rfl, rfl⟩
      · rw [hr] at hu; injection hu with hu; subst hu; exact ⟨rfl, rfl⟩
    | false => exact ⟨u, by show (ρ.upd H.next hv) (bif Nat.beq h k then H.next else h) = some u; rw [hb]; exact hu, rfl, rfl⟩
  have mem : ∀ p ∈ (renewH k c H).ch, ∃ q ∈ ((H.del k).add c).ch, p = (q.1, q.2.ren (reN k H.next)) := fun p hp => by
    unfold renewH at hp
    rw [renew_map k 0 H] at hp
    obtain ⟨q, hq, e⟩ := List.mem_map.1 hp
    exact ⟨q, hq, e.symm⟩
  refine ⟨_, ι, ⟨h1.imm, h1.one, fun p hp => ?_, h1.fresh, ?_, fun p hp q hq => ?_, fun p hp => ?_, fun p hp => ?_⟩, ⟨h2.touch, fun j ⟨p, hp, u, hu, hj⟩ => ?_, h2.imm, h2.immNew, h2.agree⟩⟩
  · obtain ⟨q, hq, rfl⟩ := mem p hp
    obtain ⟨u, g1, g2⟩ := h1.rel q hq
    exact ⟨u, g1, (Chunk.ren_R _ _ ι u w q.2).2 (g2.keep hle (Imm.le.refl _) fun _ _ => rfl)⟩
  · unfold renewH
    rw [renew_map k 0 H, List.map_map]
    exact h1.nodup
  · obtain ⟨p', hp', rfl⟩ := mem p hp
    obtain ⟨q', hq', rfl⟩ := mem q hq
    exact h1.apart p' hp' q' hq'
  · obtain ⟨p', hp', rfl⟩ := mem p hp
    exact h1.iapart p' hp'
  · obtain ⟨p', hp', rfl⟩ := mem p hp
    exact h1.lt p' hp'
  · obtain ⟨p', hp', rfl⟩ := mem p hp
    exact h2.grow j ⟨p', hp', u, hu, hj⟩⟩
/-- A row of nothing, at a handle of its own. -/
theorem HEnt.addNil {H : AH} (e : TypeId) (sz : Nat) (f : Nat → List IV) : HEnt H (H.add (.rowc e sz 0 f)) := ⟨fun ρ ι w hS => by
  obtain ⟨h1, h2⟩ := hS.add (.rowc e sz 0 f) ⟨none, 0, fun _ => False⟩ (Touch.refl _ w) (fun k hk => hk.elim) (.inl ⟨rfl, rfl, fun _ h => h⟩)
  exact ⟨_, ι, h1, h2⟩⟩
theorem argsE_run {ρ : Rho} {ι : Imm} : ∀ {xs ys : List AV} {vs : List Value}, cellsE xs ys → AV.Rs ρ ι xs vs → AV.Rs ρ ι ys vs
  | [], ys, vs, h, hr => by simp only [cellsE] at h; subst h; exact hr
  | x :: xs, ys, vs, h, hr => by
    cases ys with
    | nil => exact h.elim
    | cons y ys =>
      simp only [AV.Rs] at hr ⊢
      obtain ⟨u, us, e, r, rs⟩ := hr
      exact ⟨u, us, e, h.1.run _ _ _ r, argsE_run h.2 rs⟩
/-- A call by arguments of which less is known. -/
theorem ACall.argsE {P : Program} {f : FuncId} {args : List AV} (args' : List AV) {H : AH} {K QP : AV → AH → Prop} (he : cellsE args args') (h : ACall P f args' H K QP) : ACall P f args H K QP :=
  ⟨h.fn, fun ρ ι w cargs hG hS hr => h.run ρ ι w cargs hG hS (argsE_run he hr)⟩
/-- A round's walk: what is assigned first, then the body. -/
theorem AWP.round {C : Cfg} (hC : C.Ok) (S : List (Nat × Sched)) {c1 c2 : Code} {e : Env} {H : AH} {q : Post} (h1 : (regsOf c1).map (fun p => schGet S p.1) = (regsOf c1).map fun p => mkSched C p.2 p.2.size (Array.replicate p.2.size false)) (h2 : (regsOf c2).map (fun p => schGet S p.1) = (regsOf c2).map fun p => mkSched C p.2 p.2.size (Array.replicate p.2.size false))
    (h : awF C S c1 e H ⟨fun e1 H1 => awF C S c2 e1 H1 q, fun _ _ _ => False, fun _ _ => False, fun _ _ => False⟩) : AWP C c1 e H ⟨fun e1 H1 => AWP C c2 e1 H1 q, fun _ _ _ => False, fun _ _ => False, fun _ _ => False⟩ := by
  refine AWP.monoQ ?_ ?_ ?_ ?_ (AWP.go hC (.of_eq h1) h)
  rotate_left
  · exact fun _ _ _ h => h
  · rfl
  · rfl
  intro e1 H1 hb
  exact AWP.go hC (.of_eq h2) hb
/-- **An iterator that goes to its end**, told of any body that goes on: it gives a row of elements. -/
structure SeqN (P : Program) (gf : FuncId) (b c : List AV) (HI : AH) {A : Type} (enc : A → List IV) (Q : List A → A → Prop) (S : List A → Prop) : Prop where
  run : ∀ (l : Nat) (Bd : List A → SemP), (∀ pre a, Q pre a → YCall P l ((enc a).map .iv) ⟨1, [(0, .sem (Bd pre))]⟩ (fun r H' => r = AV.bool true ∧ H' = ⟨1, [(0, .sem (Bd (pre ++ [a])))]⟩) (fun _ _ => False)) →
    ACall P gf (b ++ [yieldV l] ++ c) ⟨HI.next + 1, HI.ch ++ [(HI.next, .sem (Bd []))]⟩ (fun _ H' => ∃ xs nx, S xs ∧ H' = ⟨nx, HI.ch ++ [(HI.next, .sem (Bd xs))]⟩) (fun _ _ => False)
/-- **A loop over such an iterator**, of which each round goes on. -/
theorem AWP.rangeN {C : Cfg} (hro : C.ro = none) {A : Type} {g : Operand} {ps : Array Tmp} {assign body : Code} {e : Env} {H : AH} {q : Post}
    (lI : List Nat) {gf : FuncId} {b c b0 c0 : List AV} {HI : AH} (enc : A → List IV) {Q : List A → A → Prop} {S : List A → Prop} (hs : SeqN C.P gf b0 c0 HI enc Q S) (hg : opd e g = .fnc (.func gf) b c)
    (hps : ∀ a, (enc a).length = ps.size) (Hb : List A → AH) (L0 : List (Nat × Chunk))
    (hnext : ∀ xs, H.next ≤ (Hb xs).next) (hdis : ∀ xs, ∀ p ∈ L0, ∀ r ∈ (Hb xs).ch, p.1 ≠ r.1)
    (hflat : ∀ p ∈ L0, (H.get p.1).isSome = true ∧ p.2.flat (fun h => (H.get h).isSome) = true)
    (h0 : HEnt ⟨H.next, mergeH.go lI H.ch⟩ (Hb []))
    (huse : ∀ B0, useOk (lI ++ [H.next]) ⟨H.next + 1, keepK lI H.ch ++ [(H.next, .sem B0)]⟩ ⟨HI.next + 1, HI.ch ++ [(HI.next, .sem B0)]⟩ = true)
    (hargs : ∀ l, b ++ [yieldV l] ++ c = AV.rens (sig (lI ++ [H.next]) (HI.next + 1) (H.next + 1)) (b0 ++ [yieldV l] ++ c0))
    (hsub : ∀ B0, subRen (sig (lI ++ [H.next]) (HI.next + 1) (H.next + 1)) ⟨H.next + 1, keepK lI H.ch ++ [(H.next, .sem B0)]⟩ (HI.ch ++ [(HI.next, .sem B0)]))
    (hL : ∀ B0 B1 nx, (mergeH (lI ++ [H.next]) ⟨H.next + 1, keepK lI H.ch ++ [(H.next, .sem B0)]⟩ ⟨HI.next + 1, HI.ch ++ [(HI.next, .sem B0)]⟩ ⟨nx, HI.ch ++ [(HI.next, .sem B1)]⟩).ch = L0 ++ [(H.next, .sem B1)])
    (hround : ∀ l pre a, Q pre a → AWP { C with ro := some l, base := H.next } assign (putPs C.N e ps.toList ((enc a).map .iv)) (Hb pre) ⟨fun e1 H1 => AWP { C with ro := some l, base := H.next } body e1 H1 ⟨fun e' H' => Ent C.N H.next e' H' [] (Hb (pre ++ [a])), fun _ _ _ => False, fun _ _ => False, fun _ _ => False⟩, fun _ _ _ => False, fun _ _ => False, fun _ _ => False⟩)
    (hend : ∀ xs, S xs → q.n e ⟨(Hb xs).next, (Hb xs).ch ++ L0⟩) : AWP C (.rangeFunc g ps assign body) e H q := by
  refine AWP.range hro lI hg enc hps Hb [] Q (fun x a j x' => j = none ∧ x' = x ++ [a]) (fun xs j L => S xs ∧ j = none ∧ L = L0) hnext (fun xs j L hF => by rw [hF.2.2]; exact hdis xs) (fun xs j L hF => by rw [hF.2.2]; exact hflat) h0 (fun l x a ha => ?_) (fun l Bd hY => ?_) (fun xs j L hF => by obtain ⟨h1, rfl, rfl⟩ := hF; exact hend xs h1)
  · refine AWP.monoQ ?_ ?_ ?_ ?_ (hround l x a ha)
    rotate_left
    · exact fun _ _ _ h => h
    · rfl
    · rfl
    intro e1 H1 hb
    have hb : AWP { C with ro := some l, base := H.next } body e1 H1 ⟨fun e' H' => Ent C.N H.next e' H' [] (Hb (x ++ [a])), fun _ _ _ => False, fun _ _ => False, fun _ _ => False⟩ := hb
    refine ⟨fun lo ρ ι a' w hE hS hM => wpIn_mono (hb.run lo ρ ι a' w hE hS hM) fun ex a2 w2 hq => ?_⟩
    cases ex with
    | normal => obtain ⟨e', H', ρ', ι', k, p⟩ := hq; exact ⟨e', H', ρ', ι', ⟨_, ⟨rfl, rfl⟩, k⟩, p⟩
    | exit j => obtain ⟨e', H', ρ', ι', k, p⟩ := hq; exact k.elim
    | ret => obtain ⟨e', H', ρ', ι', k, p⟩ := hq; exact k.elim
    | goto l => exact hq
    | panic ch => obtain ⟨v, _, r, H', ρ', ι', k, _⟩ := hq; exact k.elim
    | outgrown => exact hq
  · have h1 := hs.run l (fun xs => Bd xs none) fun pre a ha => (hY pre a ha).mono (fun r H' ⟨j, x', ⟨h1, h2⟩, h3, h4⟩ => by subst h1 h2; exact ⟨h3, h4⟩) fun _ _ h => h
    refine ACall.use (lI ++ [H.next]) h1 (huse _) (hargs l) (hsub _) (fun r H0' ⟨xs, nx, hS, e1⟩ => ?_) fun _ _ h => h.elim
    subst e1
    refine ⟨xs, none, L0, (mergeH (lI ++ [H.next]) ⟨H.next + 1, keepK lI H.ch ++ [(H.next, .sem (Bd [] none))]⟩ ⟨HI.next + 1, HI.ch ++ [(HI.next, .sem (Bd [] none))]⟩ ⟨nx, HI.ch ++ [(HI.next, .sem (Bd xs none))]⟩).next, ⟨hS, rfl, rfl⟩, ?_⟩
    have := hL (Bd [] none) (Bd xs none) nx
    rw [← this]
end Go.Proofs.YtpgdbeacmlojcaaGreat.Ax
