/-
  Endings of bodies; rows that are written no more; contracts with a shape.
-/
import Derived.Test.YtgfkepebfaiepaaGreatDoorBxY
namespace Go.Proofs.YtgfkepebfaiepaaGreatDoor.Ax
open Go.RowKit
theorem Ent.trans {N B : Nat} {e e' e'' : Env} {H H' H'' : AH} (h : Ent N B e H e' H') (h' : Ent N B e' H' e'' H'') : Ent N B e H e'' H'' := ⟨fun ρ ι a w hE hS => by
 obtain ⟨ρ', ι', x, y, z⟩ := h.run ρ ι a w hE hS
 obtain ⟨ρ2, ι2, x2, y2, z2⟩ := h'.run ρ' ι' a w x y
 exact ⟨ρ2, ι2, x2, y2, z.trans z2⟩⟩
theorem Ent.refl (N B : Nat) (e : Env) (H : AH) : Ent N B e H e H := ⟨fun ρ ι _ w hE hS => ⟨ρ, ι, hE, hS, WentB.refl _ ρ ι H w⟩⟩
theorem Ent.rest {N B : Nat} {e : Env} {H : AH} {h i : Nat} {kk : Option IntKind} {m : List (MK × IV)} {left : List MK} {la : Option (MK × IV)} (hc : H.get h = some (.mapit kk m left i la)) : Ent N B e H e (H.set h (.map kk m)) := ⟨fun ρ ι a w hE hS => by
 obtain ⟨hv, g1, b, it, hi, es, clock, since, seen, last, k1, k2, k3, k4, k5, k6, k7, k8, _⟩ := hS.hv hc
 obtain ⟨s1, s2⟩ := hS.shrink (c' := .map kk m) hc g1 (fun k => k = b) (fun k hk => (k5 k).2 (.inl hk)) (fun ρ' _ => ⟨b, es, clock, k1, fun k => Iff.rfl, k6, k8⟩)
 exact ⟨_, ι, hE.mono (Rho.le_refoot g1 _) (Imm.le.refl _), s1, s2.weak⟩⟩
theorem ACall.fin {P : Program} {f : FuncId} {args : List AV} {H : AH} {K QP : AV → AH → Prop} (h : ACall P f args H (fun r H' => ∃ r2 H2, Ent 1 H.next [(0, r)] H' [(0, r2)] H2 ∧ K r2 H2) QP) : ACall P f args H K QP :=
 ⟨h.fn, fun ρ ι w cargs hG hS hr => (h.run ρ ι w cargs hG hS hr).mono fun e w' hp => by
  cases e with
  | returned v =>
    obtain ⟨r, H', ρ', ι', ⟨r2, H2, he, hk⟩, h1, h2, h3⟩ := hp
    have hE : ER ρ' ι' 1 [(0, r)] { tmps := #[v], defers := [] } := ⟨hG.mono h3.imm, rfl, fun t => by
     cases t with
     | zero => simpa [Env.get] using h1
     | succ t =>
       have : Nat.beq 0 (t + 1) = false := rfl
       simp [Env.get, this, AV.R]⟩
    obtain ⟨ρ2, ι2, g1, g2, g3⟩ := he.run ρ' ι' _ w' hE h2
    have h4 := WentB.trans (n := H.next) h3.weak g3
    refine ⟨r2, H2, ρ2, ι2, hk, by simpa [Env.get] using g1.slot 0, g2, ⟨h4.touch, h4.grow, h4.imm, h4.immNew, fun k hv hh => ?_⟩⟩
    rcases Nat.lt_or_ge k H.next with h5 | h5
    ·exact h4.agree k hv h5 hh
    ·rw [hS.fresh k h5] at hh; cases hh
  | panicked ch => exact hp
  | outgrown => exact hp⟩
def Fr (ρ : Rho) (ι : Imm) (h : Nat) : Chunk → Prop
 | .brow _ l => ∀ hv b, ρ h = some hv → hv.blk = some b → ∀ i, i < l.length → ι b i = some (.int .u8 ((l.getD i 0).toNat : Int))
 | .rowc _ sz n f => ∀ hv b, ρ h = some hv → hv.blk = some b → ∀ i, i < n → ∃ vs, IV.Rs ι (f i) vs ∧ vs.length = sz ∧ ∀ j u, vs[j]? = some u → ι b (i * sz + j) = some u
 | _ => True
structure AVF (h : Nat) (c : Chunk) (x y : AV) : Prop where
 run : ∀ ρ ι ι' v, Imm.le ι ι' → Fr ρ ι' h c → x.R ρ ι v → y.R ρ ι' v
theorem AVF.same (h : Nat) (c : Chunk) (x : AV) : AVF h c x x := ⟨fun _ _ _ _ hi _ hx => AV.R_mono (Rho.le.refl _) hi _ _ hx⟩
theorem AVF.bs {h e len : Nat} {l l' : List UInt8} (hl : len ≤ l.length) (he : l' = l.take len) : AVF h (.brow e l) (.row h 1 0 len) (.iv (.bs l')) := ⟨fun ρ ι ι' v hi hf hx => by
 subst he
 simp only [AV.R, IV.R] at hx ⊢
 obtain ⟨A, c, rfl, h2, h3, h4⟩ := hx
 have hlen : (l.take len).length = len := by simp; omega
 refine ⟨A, c, by rw [hlen], by omega, h3, fun k hk => ?_⟩
 obtain ⟨hv, b, g1, g2, g3, g4⟩ := h4 (by omega)
 refine ⟨_, g3, rfl, ?_⟩
 have h5 := hf hv b g1 g2 k (by omega)
 have h6 : (l.take len).getD k 0 = l.getD k 0 := by
  rw [List.getD_eq_getElem?_getD, List.getD_eq_getElem?_getD, List.getElem?_take_of_lt (by omega)]
 simp only [Nat.zero_mul, Nat.zero_add]
 rw [h6]
 exact h5⟩
theorem AVF.sl {h e sz n len : Nat} {f : Nat → List IV} (hl : len ≤ n) : AVF h (.rowc e sz n f) (.row h sz 0 len) (.iv (.sl sz len f)) := ⟨fun ρ ι ι' v hi hf hx => by
 simp only [AV.R, IV.R] at hx ⊢
 obtain ⟨A, c, rfl, h2, h3, h4⟩ := hx
 refine ⟨A, c, rfl, h2, h3, fun k hk => ?_⟩
 obtain ⟨hv, b, g1, g2, g3, g4⟩ := h4 (by omega)
 obtain ⟨vs, h5, h6, h7⟩ := hf hv b g1 g2 k (by omega)
 exact ⟨_, vs, g3, rfl, h5, h6, fun j u hj => by simp only [Nat.zero_mul, Nat.zero_add]; exact h7 j u hj⟩⟩
theorem AVF.tup {h : Nat} {c : Chunk} {x y x' y' : AV} (h1 : AVF h c x y) (h2 : AVF h c x' y') : AVF h c (.tup [x, x']) (.tup [y, y']) := ⟨fun ρ ι ι' v hi hf hx => by
 simp only [AV.R, AV.Rs] at hx ⊢
 obtain ⟨vs, rfl, u, us, rfl, g1, u', us', rfl, g2, rfl⟩ := hx
 exact ⟨_, rfl, _, _, rfl, h1.run _ _ _ _ hi hf g1, _, _, rfl, h2.run _ _ _ _ hi hf g2, rfl⟩⟩
def envF (h : Nat) (c : Chunk) (e : Env) : Env → Prop
 | [] => True
 | p :: ps => AVF h c (e.get p.1) p.2 ∧ envF h c e ps
theorem cellAt {w : World} {b : Nat} {arr : Array Value} {e : TypeId} {fr : Nat × Nat} (hb : w.heap[b]? = some (.cells arr e fr)) {o : Nat} {v : Value} (hv : arr[o]? = some v) : w.cell? ⟨b, o, none⟩ = some v := by
 simp [World.cell?, hb, hv]
theorem Ent.freeze {N B : Nat} {e e' : Env} {H : AH} (h : Nat) (c : Chunk) (hc : H.get h = some c) (hrow : (match c with | .brow .. => true | .rowc .. => true | _ => false) = true) (he : envF h c e e') : Ent N B e H e' (H.del h) := ⟨fun ρ ι a w hE hS => by
 obtain ⟨hv, hr, hR⟩ := hS.hv hc
 have fin : ∀ ι', Imm.le ι ι' → SR ρ ι' (H.del h) w → Went ρ ι H w ρ ι' (H.del h) w → Fr ρ ι' h c → ∃ ρ' ι', ER ρ' ι' N e' a ∧ SR ρ' ι' (H.del h) w ∧ WentB B ρ ι H w ρ' ι' (H.del h) w := fun ι' hi h1 h2 h3 => by
  refine ⟨ρ, ι', ⟨hE.glob.mono hi, hE.size, fun t => ?_⟩, h1, h2.weak⟩
  have key : ∀ e'' : Env, envF h c e e'' → (e''.get t).R ρ ι' (a.tmps.getD t undef) := by
   intro e''
   induction e'' with
   | nil => intro _; simp [Env.get, AV.R]
   | cons p ps ih =>
     intro g
     simp only [Env.get]
     cases hb : Nat.beq p.1 t with
     | true =>
       have := Nat.eq_of_beq_eq_true hb
       subst this
       exact g.1.run ρ ι ι' _ hi h3 (hE.slot p.1)
     | false => exact ih g.2
  exact key e' he
 have none_ : hv.blk = none → Fr ρ ι h c := fun hn => by
  cases c <;> simp only [Fr]
  ·intro hv' b g1 g2; rw [hr] at g1; injection g1 with g1; rw [← g1, hn] at g2; cases g2
  ·intro hv' b g1 g2; rw [hr] at g1; injection g1 with g1; rw [← g1, hn] at g2; cases g2
 cases c with
 | brow ety l =>
   rcases hR with ⟨h1, _, _⟩ | ⟨b, arr, fr, h1, h2, h3, h4, h5, h6, h7⟩
   ·exact fin ι (Imm.le.refl _) (hS.drop h).1 (hS.drop h).2 (none_ h1)
   ·obtain ⟨q1, q2, q3⟩ := hS.freeze hc hr ((h2 b).2 rfl) (fun o => if o < l.length then some (.int .u8 ((l.getD o 0).toNat : Int)) else none) (fun o v hg => by
     split at hg
     ·rename_i ho
      injection hg with hg
      subst hg
      exact ⟨cellAt h3 (h7 o ho), rfl⟩
     ·cases hg)
    refine fin _ q1 q2 q3 fun hv' b' g1 g2 i hi => ?_
    rw [hr] at g1
    injection g1 with g1
    rw [← g1, h1] at g2
    injection g2 with g2
    subst g2
    simp only [if_true, if_pos hi]
 | rowc ety sz n f =>
   rcases hR with ⟨h1, _, _⟩ | ⟨b, arr, fr, h1, h2, h3, h4, h5, h6, h7⟩
   ·exact fin ι (Imm.le.refl _) (hS.drop h).1 (hS.drop h).2 (none_ h1)
   ·obtain ⟨q1, q2, q3⟩ := hS.freeze hc hr ((h2 b).2 rfl) (fun o => if o < n * sz then arr[o]? else none) (fun o v hg => by
     split at hg
     ·rename_i ho
      refine ⟨cellAt h3 hg, ?_⟩
      have hsz : 0 < sz := by
       rcases Nat.eq_zero_or_pos sz with h0 | h0
       ·subst h0; omega
       ·exact h0
      obtain ⟨vs, _, g2, g3, g4⟩ := h7 (o / sz) (by rw [Nat.div_lt_iff_lt_mul hsz]; exact ho)
      have hlt : o % sz < vs.length := by rw [g2]; exact Nat.mod_lt _ hsz
      have h8 := g4 (o % sz) vs[o % sz] (List.getElem?_eq_getElem hlt)
      have h9 : o / sz * sz + o % sz = o := by rw [Nat.mul_comm]; exact Nat.div_add_mod o sz
      rw [h9, hg] at h8
      injection h8 with h8
      rw [h8]
      exact g3 _ (List.getElem_mem hlt)
     ·cases hg)
    refine fin _ q1 q2 q3 fun hv' b' g1 g2 i hi => ?_
    rw [hr] at g1
    injection g1 with g1
    rw [← g1, h1] at g2
    injection g2 with g2
    subst g2
    obtain ⟨vs, k1, k2, k3, k4⟩ := h7 i hi
    refine ⟨vs, IV.Rs_mono q1 _ _ k1, k2, fun j u hj => ?_⟩
    have hj' : j < sz := by rw [← k2]; exact (List.getElem?_eq_some_iff.1 hj).1
    have hlt : i * sz + j < n * sz := by
     have : (i + 1) * sz ≤ n * sz := Nat.mul_le_mul_right sz hi
     rw [Nat.add_mul, Nat.one_mul] at this
     omega
    simp only [if_true, if_pos hlt]
    exact k4 j u hj
 | _ => cases hrow⟩
def lenF : AV → Prop
 | .iv (.bs l) => l.length ≤ 9223372036854775807
 | .iv (.sl _ n _) => n ≤ 9223372036854775807
 | .row _ _ _ n => n ≤ 9223372036854775807
 | _ => True
def lensF : List AV → Prop
 | [] => True
 | x :: xs => lenF x ∧ lensF xs
def heapF : List (Nat × Chunk) → Prop
 | [] => True
 | (_, .cells _ cs) :: ps => lensF cs ∧ heapF ps
 | _ :: ps => heapF ps
theorem lenF_of {ρ : Rho} {ι : Imm} : ∀ (x : AV) (v : Value), x.R ρ ι v → lenF x := by
 have hm : maxLen = 9223372036854775807 := by decide
 intro x v h
 unfold lenF
 split
 ·simp only [AV.R, IV.R] at h; obtain ⟨A, c, _, h1, h2, _⟩ := h; rw [← hm]; omega
 ·simp only [AV.R, IV.R] at h; obtain ⟨A, c, _, h1, h2, _⟩ := h; rw [← hm]; omega
 ·simp only [AV.R] at h; obtain ⟨A, c, _, h1, h2, _⟩ := h; rw [← hm]; omega
 ·trivial
theorem lensF_of {ρ : Rho} {ι : Imm} : ∀ (l : List AV) (v : List Value), AV.Rs ρ ι l v → lensF l
 | [], _, _ => trivial
 | x :: xs, v, h => by
   simp only [AV.Rs] at h
   obtain ⟨u, us, _, h1, h2⟩ := h
   exact ⟨lenF_of x u h1, lensF_of xs us h2⟩
theorem heapF_of {ρ : Rho} {ι : Imm} {w : World} : ∀ (l : List (Nat × Chunk)), (∀ p ∈ l, ∃ hv, ρ p.1 = some hv ∧ p.2.R ρ ι hv w) → heapF l
 | [], _ => trivial
 | (k, c) :: ps, h => by
  have hps := heapF_of ps fun p hp => h p (List.mem_cons_of_mem _ hp)
  cases c with
  | cells e cs =>
    obtain ⟨hv, _, b, vs, _, _, _, h4⟩ := h (k, .cells e cs) (List.mem_cons_self ..)
    exact ⟨lensF_of cs vs h4, hps⟩
  | _ => exact hps
theorem ACall.walkF {C : Cfg} (hC : C.Ok) (S : List (Nat × Sched)) {f : FuncId} {fn : Func} {c : Code} {args : List AV} {H : AH} {K QP : AV → AH → Prop} (hf : C.P.funcs[f]? = some fn) (hname : (fn.name == "runtime.NumGoroutine") = false) (hb : fn.body = some c) (hN : fn.ntmps = C.N) (hSch : (regsOf c).map (fun p => schGet S p.1) = (regsOf c).map fun p => mkSched C p.2 p.2.size (Array.replicate p.2.size false)) (hl : Nat.ble args.length C.N = true) (hbase : Nat.ble H.next C.base = true)
 (h : lensF args → heapF H.ch → awF C S c (envOf 0 args) H ⟨finK C.T fn.results.toList (resF K), fun _ _ _ => False, finK C.T fn.results.toList (resF K), QP⟩) (hro : C.ro = none := by rfl) : ACall C.P f args H K QP :=
 ⟨⟨fn, hf, hname, by rw [hb]; rfl⟩, fun ρ ι w cargs hG hS hr => (ACall.walk hC S hf hname hb hN hSch hl hbase (h (lensF_of _ _ hr) (heapF_of _ hS.rel)) hro).run ρ ι w cargs hG hS hr⟩
def AFn (P : Program) (f : FuncId) (args : List AV) (H : AH) {X : Type} (R : X → AV) (HH : X → AH) : Prop := ACall P f args H (fun r H' => ∃ x, r = R x ∧ H' = HH x) fun _ _ => False
theorem AFn.use {P : Program} {f : FuncId} {args0 : List AV} {H0 : AH} {X : Type} {R : X → AV} {HH : X → AH} (l : List Nat) (h : AFn P f args0 H0 R HH) {args : List AV} {H : AH} {K QP : AV → AH → Prop}
 (hok : useOk l H H0 = true) (hargs : args = AV.rens (sig l H0.next H.next) args0) (hsub : subRen (sig l H0.next H.next) H H0.ch)
 (hK : ∀ x, K ((R x).ren (sig l H0.next H.next)) (mergeH l H H0 (HH x))) : ACall P f args H K QP :=
 ACall.use l h hok hargs hsub (fun r H' ⟨x, e1, e2⟩ => by subst e1 e2; exact hK x) fun _ _ h => h.elim
end Go.Proofs.YtgfkepebfaiepaaGreatDoor.Ax
