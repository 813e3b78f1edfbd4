/-
  A row is lent to a call that only reads it.
-/
import Derived.Test.YtpgdbeacmlojcaaGreatBxZb
namespace Go.Proofs.YtpgdbeacmlojcaaGreat.Ax
open Go.RowKit
/-- Values that say nothing of memory that is written no more. -/
def AV.Free (x : AV) : Prop := ∀ ρ ι ι2 v, x.R ρ ι v → x.R ρ ι2 v
def IV.Free (x : IV) : Prop := ∀ ι ι2 v, x.R ι v → x.R ι2 v
def IV.Frees (xs : List IV) : Prop := ∀ ι ι2 vs, IV.Rs ι xs vs → IV.Rs ι2 xs vs
theorem IV.Free.v (x : Value) : (IV.v x).Free := fun ι ι2 v h => by simpa only [IV.R] using h
theorem IV.Free.str (l : List UInt8) : (IV.str l).Free := fun ι ι2 v h => by simpa only [IV.R] using h
theorem IV.Frees.nil : IV.Frees [] := fun ι ι2 vs h => by simpa only [IV.Rs] using h
theorem IV.Frees.cons {x : IV} {xs : List IV} (h : x.Free) (h' : IV.Frees xs) : IV.Frees (x :: xs) := fun ι ι2 vs hr => by
  simp only [IV.Rs] at hr ⊢
  obtain ⟨u, us, e, r1, r2⟩ := hr
  exact ⟨u, us, e, h _ _ _ r1, h' _ _ _ r2⟩
theorem IV.Free.agg {xs : List IV} (h : IV.Frees xs) : (IV.agg xs).Free := fun ι ι2 v hr => by
  simp only [IV.R] at hr ⊢
  obtain ⟨vs, e, r⟩ := hr
  exact ⟨vs, e, h _ _ _ r⟩
theorem AV.Free.iv {x : IV} (h : x.Free) : (AV.iv x).Free := fun ρ ι ι2 v hr => by
  simp only [AV.R] at hr ⊢
  exact h _ _ _ hr
theorem AV.Free.ptr (h o : Nat) : (AV.ptr h o).Free := fun ρ ι ι2 v hr => by simpa only [AV.R] using hr
theorem AV.Free.row (h sz o n : Nat) : (AV.row h sz o n).Free := fun ρ ι ι2 v hr => by simpa only [AV.R] using hr
theorem AV.Free.mp (h : Nat) : (AV.mp h).Free := fun ρ ι ι2 v hr => by simpa only [AV.R] using hr
def AV.Frees (xs : List AV) : Prop := ∀ ρ ι ι2 vs, AV.Rs ρ ι xs vs → AV.Rs ρ ι2 xs vs
theorem AV.Frees.nil : AV.Frees [] := fun ρ ι ι2 vs h => by simpa only [AV.Rs] using h
theorem AV.Frees.cons {x : AV} {xs : List AV} (h : x.Free) (h' : AV.Frees xs) : AV.Frees (x :: xs) := fun ρ ι ι2 vs hr => by
  simp only [AV.Rs] at hr ⊢
  obtain ⟨u, us, e, r1, r2⟩ := hr
  exact ⟨u, us, e, h _ _ _ _ r1, h' _ _ _ _ r2⟩
/-- The global that a table hangs on. -/
def Chunk.gl : Chunk → Option Nat
  | .gmap g _ _ _ _ => some g
  | _ => none
/-- Chunks that say nothing of such memory, but for their own global's cell. -/
def Chunk.Free (c : Chunk) : Prop := ∀ ρ ι ι2 hv w (bad : Nat → Prop), (∀ k o v, ι k o = some v → ¬ bad k → ι2 k o = some v) → (∀ G, c.gl = some G → ¬ bad G) → c.R ρ ι hv w → c.R ρ ι2 hv w
theorem Chunk.Free.cells {e : Nat} {cs : List AV} (h : AV.Frees cs) : (Chunk.cells e cs).Free := fun ρ ι ι2 hv w bad _ _ hr => by
  obtain ⟨b, vs, h1, h2, h3, h4⟩ := hr
  exact ⟨b, vs, h1, h2, h3, h _ _ _ _ h4⟩
theorem Chunk.Free.rowc {e sz n : Nat} {f : Nat → List IV} (h : ∀ i, i < n → IV.Frees (f i)) : (Chunk.rowc e sz n f).Free := fun ρ ι ι2 hv w bad _ _ hr => by
  rcases hr with hr | ⟨b, arr, fr, h1, h2, h3, h4, h5, h6, h7⟩
  · exact .inl hr
  · refine .inr ⟨b, arr, fr, h1, h2, h3, h4, h5, h6, fun i hi => ?_⟩
    obtain ⟨vs, g1, g2, g3, g4⟩ := h7 i hi
    exact ⟨vs, h i hi _ _ _ g1, g2, g3, g4⟩
theorem Chunk.Free.brow (e : Nat) (l : List UInt8) : (Chunk.brow e l).Free := fun _ _ _ _ _ _ _ _ hr => hr
theorem ZipR.monoM {X : Type} {R R' : X → Value → Prop} : ∀ (l : List MapEntry) (m : List (MK × X)), (∀ p ∈ m, ∀ v, R p.2 v → R' p.2 v) → ZipR R l m → ZipR R' l m
  | [], m, _, h => h
  | e :: es, m, hm, h => by
    simp only [ZipR] at h ⊢
    obtain ⟨p, ps, rfl, h1, h2, h3⟩ := h
    exact ⟨p, ps, rfl, h1, hm p (List.mem_cons_self ..) _ h2, ZipR.monoM es ps (fun q hq => hm q (List.mem_cons_of_mem _ hq)) h3⟩
theorem MapR.free {kk : Option IntKind} {m : List (MK × IV)} {es : Array MapEntry} {clock : Nat} {ι ι2 : Imm} (h : ∀ p ∈ m, p.2.Free) (hr : MapR (IV.R ι) kk m es clock) : MapR (IV.R ι2) kk m es clock :=
  ⟨hr.kind, let ⟨l, h1, h2⟩ := hr.zip; ⟨l, h1, ZipR.monoM l m (fun p hp _ hv => h p hp _ _ _ hv) h2⟩, hr.keys, hr.born, hr.clock⟩
theorem Chunk.Free.map {kk : Option IntKind} {m : List (MK × IV)} (h : ∀ p ∈ m, p.2.Free) : (Chunk.map kk m).Free := fun ρ ι ι2 hv w bad _ _ hr => by
  obtain ⟨b, es, clock, h1, h2, h3, h4⟩ := hr
  exact ⟨b, es, clock, h1, h2, h3, h4.free h⟩
theorem Chunk.Free.gmap {g : Nat} {kk : Option IntKind} {m : List (MK × IV)} {es : Array MapEntry} {clock : Nat} (h : ∀ p ∈ m, p.2.Free) : (Chunk.gmap g kk m es clock).Free := fun ρ ι ι2 hv w bad hb hg hr => by
  obtain ⟨b, h1, h2, h3, h4, h5⟩ := hr
  exact ⟨b, h1, h2, h3, h4.free h, hb _ _ _ h5 (hg g rfl)⟩
theorem Chunk.Free.nest {H0 : AH} (h : ∀ p ∈ H0.ch, p.2.Free ∧ p.2.gl = none) : (Chunk.sem (Nest H0)).Free := fun ρ ι ι2 hv w bad hb _ hr => by
  obtain ⟨ρ0, hv0, h1, h2, h3, h4, h5, h6, h7, h8⟩ := hr
  refine ⟨ρ0, hv0, h1, h2, h3, h4, fun p hp => ?_, h6, h7, h8⟩
  obtain ⟨hu, g1, g2⟩ := h5 p hp
  exact ⟨hu, g1, (h p hp).1 _ _ _ _ _ bad hb (fun G hG => by rw [(h p hp).2] at hG; cases hG) g2⟩
/-- A row is frozen, said of worlds. -/
theorem SR.lend {ρ : Rho} {ι : Imm} {H : AH} {w : World} (hS : SR ρ ι H w) {h : Nat} {ety sz n : Nat} {f : Nat → List IV} (hc : H.get h = some (.rowc ety sz n f)) : ∃ ι', Imm.le ι ι' ∧ SR ρ ι' (H.del h) w ∧ Went ρ ι H w ρ ι' (H.del h) w ∧ Fr ρ ι' h (.rowc ety sz n f) := by
  obtain ⟨hv, hr, hR⟩ := hS.hv hc
  rcases hR with ⟨h1, _, _⟩ | ⟨b, arr, fr, h1, h2, h3, h4, h5, h6, h7⟩
  · exact ⟨ι, Imm.le.refl _, (hS.drop h).1, (hS.drop h).2, fun hv' b g1 g2 => by rw [hr] at g1; injection g1 with g1; rw [← g1, h1] at g2; cases g2⟩
  · obtain ⟨q1, q2, q3⟩ := hS.freeze hc hr ((h2 b).2 rfl) (fun o => if o < n * sz then arr[o]? else none) (fun o v hg => by
      split at hg
      · rename_i ho
        refine ⟨cellAt h3 hg, ?_⟩
        have hsz : 0 < sz := by
          rcases Nat.eq_zero_or_pos sz with h0 | h0
          · subst h0; omega
          · exact h0
        obtain ⟨vs, _, g2, g3, g4⟩ := h7 (o / sz) (by rw [Nat.div_lt_iff_lt_mul hsz]; exact ho)
        have hlt : o % sz < vs.length := by rw [g2]; exact Nat.mod_lt _ hsz
        have h8 := g4 (o % sz) vs[o % sz] (List.getElem?_eq_getElem hlt)
        have h9 : o / sz * sz + o % sz = o := by rw [Nat.mul_comm]; exact Nat.div_add_mod o sz
        rw [h9, hg] at h8
        injection h8 with h8
        rw [h8]
        exact g3 _ (List.getElem_mem hlt)
      · cases hg)
    refine ⟨_, q1, q2, q3, fun hv' b' g1 g2 i hi => ?_⟩
    rw [hr] at g1
    injection g1 with g1
    rw [← g1, h1] at g2
    injection g2 with g2
    subst g2
    obtain ⟨vs, k1, k2, k3, k4⟩ := h7 i hi
    refine ⟨vs, IV.Rs_mono q1 _ _ k1, k2, fun j u hj => ?_⟩
    have hj' : j < sz := by rw [← k2]; exact (List.getElem?_eq_some_iff.1 hj).1
    have hlt : i * sz + j < n * sz := by
      have : (i + 1) * sz ≤ n * sz := Nat.mul_le_mul_right sz hi
      rw [Nat.add_mul, Nat.one_mul] at this
      omega
    simp only [if_true, if_pos hlt]
    exact k4 j u hj
def argsF (h : Nat) (c : Chunk) : List AV → List AV → Prop
  | [], ys => ys = []
  | x :: xs, ys => match ys with
    | y :: ys => AVF h c x y ∧ argsF h c xs ys
    | [] => False
theorem argsF_run {h : Nat} {c : Chunk} {ρ : Rho} {ι ι' : Imm} (hi : Imm.le ι ι') (hf : Fr ρ ι' h c) : ∀ {xs ys : List AV} {vs : List Value}, argsF h c xs ys → AV.Rs ρ ι xs vs → AV.Rs ρ ι' ys vs
  | [], ys, vs, g, hr => by simp only [argsF] at g; subst g; simpa only [AV.Rs] using hr
  | x :: xs, [], vs, g, hr => g.elim
  | x :: xs, y :: ys, vs, g, hr => by
    simp only [AV.Rs] at hr ⊢
    obtain ⟨u, us, e, r1, r2⟩ := hr
    exact ⟨u, us, e, g.1.run _ _ _ _ hi hf r1, argsF_run hi hf g.2 r2⟩
theorem AVF.agg {h : Nat} {c : Chunk} {xs ys : List AV} (g : argsF h c xs ys) : AVF h c (.agg xs) (.agg ys) := ⟨fun ρ ι ι' v hi hf hr => by
  simp only [AV.R] at hr ⊢
  obtain ⟨vs, e, r⟩ := hr
  exact ⟨vs, e, argsF_run hi hf g r⟩⟩
theorem cell_lt {w : World} {b o : Nat} {v : Value} (h : w.cell? ⟨b, o, none⟩ = some v) : b < w.heap.size := by
  rcases Nat.lt_or_ge b w.heap.size with h' | h'
  · exact h'
  · simp [World.cell?, Array.getElem?_eq_none h'] at h
open Classical in
/-- **A row is lent**: a call is told by a contract whose row is written no more; behind it the row is what it was. -/
theorem ACall.lend {P : Program} {F : FuncId} {args : List AV} (args0 : List AV) {H : AH} {K QP : AV → AH → Prop} (h : Nat) {e sz n : Nat} {f : Nat → List IV} (hc : H.get h = some (.rowc e sz n f)) (ha : argsF h (.rowc e sz n f) args args0)
    (hcall : ACall P F args0 (H.del h) (fun r H' => r.Free ∧ (∀ p ∈ H'.ch, p.2.Free ∧ p.1 ≠ h ∧ ∀ G, p.2.gl = some G → ∃ q ∈ H.ch, q.2.gl = some G) ∧ h < H'.next ∧ K r ⟨H'.next, H'.ch ++ [(h, .rowc e sz n f)]⟩) fun _ _ => False) : ACall P F args H K QP :=
  ⟨hcall.fn, fun ρ ι w cargs hG hS hr => by
    obtain ⟨ι', q1, q2, q3, q4⟩ := hS.lend hc
    obtain ⟨hv, hhr, hR⟩ := hS.hv hc
    have hm := AH.get_mem hc
    refine (hcall.run ρ ι' w cargs (hG.mono q1) q2 (argsF_run q1 q4 ha hr)).mono fun en w' hp => ?_
    cases en with
    | panicked ch => obtain ⟨v, _, r, H', ρ', ι'', g, _⟩ := hp; exact g.elim
    | outgrown => exact hp.elim
    | returned v =>
      obtain ⟨r, H', ρ', ι'', ⟨hfr, hch, hlt, hK⟩, k1, k2, k3⟩ := hp
      have hfoot : ∀ k, hv.foot k → k < w.heap.size := fun k hk => hS.lt _ hm hv hhr k hk
      have hdel : ∀ k, hv.foot k → ¬ (H.del h).foot ρ k := fun k hk ⟨p, hp, hu, hu1, hu2⟩ =>
        hS.apart p (AH.mem_del p hp) _ hm (AH.key_del hS.nodup p hp) hu hv hu1 hhr k hu2 hk
      have hbad : ∀ k o v, hv.foot k → ι k o ≠ some v := fun k o v hk => hS.iapart _ hm hv hhr k o v hk
      let ι2 : Imm := fun k o => if hv.foot k then none else ι'' k o
      have up2 : ∀ k o v, ι'' k o = some v → ¬ hv.foot k → ι2 k o = some v := fun k o v hv1 hk => by simp only [ι2, if_neg hk]; exact hv1
      have dn2 : ∀ k o v, ι2 k o = some v → ¬ hv.foot k ∧ ι'' k o = some v := fun k o v hv1 => by
        by_cases hk : hv.foot k
        · simp only [ι2, if_pos hk] at hv1; cases hv1
        · simp only [ι2, if_neg hk] at hv1; exact ⟨hk, hv1⟩
      have le2 : Imm.le ι ι2 := fun k o v hv1 => up2 k o v (k3.imm _ _ _ (q1 _ _ _ hv1)) fun hk => hbad k o v hk hv1
      let ρ2 : Rho := fun k => if k = h then some hv else ρ' k
      have hρ' : Rho.le ρ' ρ2 := fun k hu hk => by
        by_cases g : k = h
        · subst g
          obtain ⟨hu', e1, e2, e3⟩ := k3.agree _ _ hhr
          rw [hk] at e1
          injection e1 with e1
          subst e1
          exact ⟨hv, by simp only [ρ2, if_true], e2.symm, e3.symm⟩
        · exact ⟨hu, by simp only [ρ2, if_neg g]; exact hk, rfl, rfl⟩
      have val : ∀ p ∈ H'.ch, ρ2 p.1 = ρ' p.1 := fun p hp => by simp only [ρ2, if_neg (hch p hp).2.1]
      have hgl : ∀ q ∈ H.ch, ∀ G, q.2.gl = some G → ¬ hv.foot G := fun q hq G hG hk => by
        obtain ⟨hu, e1, e2⟩ := hS.rel q hq
        cases hq2 : q.2 with
        | gmap g kk m es clock =>
          rw [hq2] at hG e2
          simp only [Chunk.gl, Option.some.injEq] at hG
          subst hG
          obtain ⟨b, _, _, _, _, h5⟩ := e2
          exact hbad _ _ _ hk h5
        | _ => rw [hq2] at hG; simp [Chunk.gl] at hG
      have hheap : ∀ k, hv.foot k → w'.heap[k]? = w.heap[k]? := fun k hk => k3.touch.block k (hfoot k hk) (hdel k hk)
      refine ⟨r, _, ρ2, ι2, hK, hfr _ _ _ _ (AV.R_mono hρ' (Imm.le.refl _) _ _ k1), ⟨fun k o v hv1 => k2.imm _ _ _ (dn2 k o v hv1).2, fun k o v hv1 => k2.one _ _ _ (dn2 k o v hv1).2, fun p hp => ?_, fun k hk => ?_, ?_, fun p hp q hq hpq x y hx hy k hk hk2 => ?_, fun p hp x hx k o v hk hv1 => ?_, fun p hp x hx k hk => ?_⟩, ⟨?_, fun k ⟨p, hp, x, hx, hk⟩ => ?_, le2, fun k o v hv1 => ?_, fun k hu hk => ?_⟩⟩
      · rcases List.mem_append.1 hp with hp | hp
        · obtain ⟨hu, e1, e2⟩ := k2.rel p hp
          obtain ⟨g1, g2, g3⟩ := hch p hp
          exact ⟨hu, (val p hp).trans e1, g1 _ _ _ _ _ hv.foot up2 (fun G hG => by obtain ⟨q, hq, hqG⟩ := g3 G hG; exact hgl q hq G hqG) (e2.keep hρ' (Imm.le.refl _) fun _ _ => rfl)⟩
        · rw [List.mem_singleton] at hp
          subst hp
          have hle : Rho.le ρ ρ2 := Rho.le.trans k3.agree hρ'
          exact ⟨hv, by simp only [ρ2, if_true], hR.keep hle le2 hheap⟩
      · have hne : ¬ k = h := by intro e; subst e; exact absurd hlt (Nat.not_lt.2 hk)
        simp only [ρ2, if_neg hne]
        exact k2.fresh k hk
      · rw [List.map_append, List.nodup_append]
        refine ⟨k2.nodup, by simp, fun a ha b hb => ?_⟩
        simp only [List.map_cons, List.map_nil, List.mem_singleton] at hb
        obtain ⟨p, hp, rfl⟩ := List.mem_map.1 ha
        rw [hb]
        exact (hch p hp).2.1
      · have far : ∀ p ∈ H'.ch, ∀ x, ρ2 p.1 = some x → x.foot k → ¬ hv.foot k := fun p hp x hx hk hk2 => by
          rw [val p hp] at hx
          rcases k3.grow k ⟨p, hp, x, hx, hk⟩ with g | g
          · exact hdel k hk2 g
          · exact absurd (hfoot k hk2) (Nat.not_lt.2 g)
        have hvk : ρ2 h = some hv := by simp only [ρ2, if_true]
        rcases List.mem_append.1 hp with hp | hp <;> rcases List.mem_append.1 hq with hq | hq
        · exact k2.apart p hp q hq hpq x y ((val p hp).symm.trans hx) ((val q hq).symm.trans hy) k hk hk2
        · rw [List.mem_singleton] at hq
          subst hq
          rw [hvk] at hy
          injection hy with hy
          subst hy
          exact far p hp x hx hk hk2
        · rw [List.mem_singleton] at hp
          subst hp
          rw [hvk] at hx
          injection hx with hx
          subst hx
          exact far q hq y hy hk2 hk
        · rw [List.mem_singleton] at hp hq
          subst hp hq
          exact hpq rfl
      · obtain ⟨g1, g2⟩ := dn2 k o v hv1
        rcases List.mem_append.1 hp with hp | hp
        · rw [val p hp] at hx
          exact k2.iapart p hp x hx k o v hk g2
        · rw [List.mem_singleton] at hp
          subst hp
          have hvk : ρ2 h = some hv := by simp only [ρ2, if_true]
          rw [hvk] at hx
          injection hx with hx
          subst hx
          exact g1 hk
      · rcases List.mem_append.1 hp with hp | hp
        · rw [val p hp] at hx
          exact k2.lt p hp x hx k hk
        · rw [List.mem_singleton] at hp
          subst hp
          have hvk : ρ2 h = some hv := by simp only [ρ2, if_true]
          rw [hvk] at hx
          injection hx with hx
          subst hx
          exact Nat.lt_of_lt_of_le (hfoot k hk) k3.touch.size
      · exact k3.touch.weaken fun k ⟨p, hp, hu, h1, h2⟩ => ⟨p, AH.mem_del p hp, hu, h1, h2⟩
      · rcases List.mem_append.1 hp with hp | hp
        · rw [val p hp] at hx
          rcases k3.grow k ⟨p, hp, x, hx, hk⟩ with ⟨q, hq, hu, h1, h2⟩ | g
          · exact .inl ⟨q, AH.mem_del q hq, hu, h1, h2⟩
          · exact .inr g
        · rw [List.mem_singleton] at hp
          subst hp
          have hvk : ρ2 h = some hv := by simp only [ρ2, if_true]
          rw [hvk] at hx
          injection hx with hx
          subst hx
          exact .inl ⟨_, hm, hv, hhr, hk⟩
      · obtain ⟨g1, g2⟩ := dn2 k o v hv1
        rcases k3.immNew k o v g2 with g | ⟨p, hp, hu, h1, h2⟩ | g
        · rcases q3.immNew k o v g with g | g | g
          · exact .inl g
          · exact .inr (.inl g)
          · exact .inr (.inr g)
        · exact .inr (.inl ⟨p, AH.mem_del p hp, hu, h1, h2⟩)
        · exact .inr (.inr g)
      · obtain ⟨hu', e1, e2, e3⟩ := k3.agree k hu hk
        obtain ⟨hu2, e4, e5, e6⟩ := hρ' k hu' e1
        exact ⟨hu2, e4, e5.trans e2, e6.trans e3⟩⟩
/-- What a row's lending asks of the memory that the call leaves. -/
def lendOk (h : Nat) (H : AH) : List (Nat × Chunk) → Prop
  | [] => True
  | p :: ps => (p.2.Free ∧ Nat.beq p.1 h = false ∧ match p.2.gl with
    | none => True
    | some G => ∃ q ∈ H.ch, q.2.gl = some G) ∧ lendOk h H ps
theorem lendOk_all {h : Nat} {H : AH} : ∀ {l : List (Nat × Chunk)}, lendOk h H l → ∀ p ∈ l, p.2.Free ∧ p.1 ≠ h ∧ ∀ G, p.2.gl = some G → ∃ q ∈ H.ch, q.2.gl = some G
  | [], _, p, hp => by cases hp
  | q :: ps, ⟨⟨h1, h2, h3⟩, h4⟩, p, hp => by
    rcases List.mem_cons.1 hp with rfl | hp
    · refine ⟨h1, fun e => ?_, fun G hG => ?_⟩
      · rw [e] at h2
        have : Nat.beq h h = true := Nat.beq_refl h
        rw [this] at h2
        cases h2
      · rw [hG] at h3
        exact h3
    · exact lendOk_all h4 p hp
theorem ACall.lend' {P : Program} {F : FuncId} {args : List AV} (args0 : List AV) {H : AH} {K QP : AV → AH → Prop} (h : Nat) {e sz n : Nat} {f : Nat → List IV} (hc : H.get h = some (.rowc e sz n f)) (ha : argsF h (.rowc e sz n f) args args0)
    (hcall : ACall P F args0 (H.del h) (fun r H' => r.Free ∧ lendOk h H H'.ch ∧ Nat.blt h H'.next = true ∧ K r ⟨H'.next, H'.ch ++ [(h, .rowc e sz n f)]⟩) fun _ _ => False) : ACall P F args H K QP :=
  ACall.lend args0 h hc ha (hcall.mono (fun _ _ ⟨h1, h2, h3, h4⟩ => ⟨h1, lendOk_all h2, by simpa [Nat.blt_eq] using h3, h4⟩) fun _ _ h => h)
/-- A row that stands in a cell is written no more, from here on. -/
theorem Ent.freezeIn {N B : Nat} {e : Env} {H : AH} (h k : Nat) {ety sz n : Nat} {f : Nat → List IV} (hc : H.get h = some (.rowc ety sz n f)) {tc : TypeId} {cs : List AV} (cs' : List AV) (hk : (H.del h).get k = some (.cells tc cs)) (ha : argsF h (.rowc ety sz n f) cs cs') : Ent N B e H e ((H.del h).set k (.cells tc cs')) := ⟨fun ρ ι a w hE hS => by
  obtain ⟨ι', q1, q2, q3, q4⟩ := hS.lend hc
  have hm := AH.get_mem hk
  obtain ⟨hv, hr, b, vs, g1, g2, g3, g4⟩ := hS.rel _ (AH.mem_del _ hm)
  obtain ⟨h1, h2⟩ := q2.turn hk hr (Touch.refl _ w) (c' := .cells tc cs') ⟨b, vs, g1, g2, g3, argsF_run q1 q4 ha g4⟩
  exact ⟨ρ, ι', hE.mono (Rho.le.refl _) q1, h1, (q3.trans h2).weak⟩⟩
end Go.Proofs.YtpgdbeacmlojcaaGreat.Ax
