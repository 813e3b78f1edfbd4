/-
  Objects: memory that is reached by one handle alone, as one chunk.
-/
import Derived.Test.YtpgdbeacmlojcaaGreatBxZ
namespace Go.Proofs.YtpgdbeacmlojcaaGreat.Ax
open Go.RowKit

/-- One memory says less than another. -/
structure HEnt (H H' : AH) : Prop where
  run : ∀ ρ ι w, SR ρ ι H w → ∃ ρ' ι', SR ρ' ι' H' w ∧ Went ρ ι H w ρ' ι' H' w
theorem HEnt.ent {N B : Nat} {e : Env} {H H' : AH} (h : HEnt H H') : Ent N B e H e H' := ⟨fun ρ ι a w hE hS => by
  obtain ⟨ρ', ι', h1, h2⟩ := h.run ρ ι w hS
  exact ⟨ρ', ι', hE.mono h2.agree h2.imm, h1, h2.weak⟩⟩
theorem HEnt.refl (H : AH) : HEnt H H := ⟨fun ρ ι _ hS => ⟨ρ, ι, hS, Went.refl ..⟩⟩
theorem HEnt.trans {H H' H'' : AH} (h : HEnt H H') (h' : HEnt H' H'') : HEnt H H'' := ⟨fun ρ ι w hS => by
  obtain ⟨ρ', ι', h1, h2⟩ := h.run ρ ι w hS
  obtain ⟨ρ2, ι2, g1, g2⟩ := h'.run ρ' ι' w h1
  exact ⟨ρ2, ι2, g1, h2.trans g2⟩⟩
theorem ACall.hent {P : Program} {f : FuncId} {args : List AV} {H H1 : AH} {K QP : AV → AH → Prop} (hpre : HEnt H H1) (h : ACall P f args H1 (fun r H' => ∃ H2, HEnt H' H2 ∧ K r H2) fun r H' => ∃ H2, HEnt H' H2 ∧ QP r H2) : ACall P f args H K QP :=
  ⟨h.fn, fun ρ ι w cargs hG hS hr => by
    obtain ⟨ρ1, ι1, h1, h2⟩ := hpre.run ρ ι w hS
    have back : ∀ K : AV → AH → Prop, ∀ v w', Lift (fun r H' => ∃ H2, HEnt H' H2 ∧ K r H2) ρ1 ι1 H1 w v w' → Lift K ρ ι H w v w' := fun K v w' ⟨r, H', ρ', ι', ⟨H2, he, k⟩, g1, g2, g3⟩ => by
      obtain ⟨ρ2, ι2, k1, k2⟩ := he.run ρ' ι' w' g2
      exact ⟨r, H2, ρ2, ι2, k, AV.R_mono k2.agree k2.imm _ _ g1, k1, (h2.trans g3).trans k2⟩
    refine (h.run ρ1 ι1 w cargs (hG.mono h2.imm) h1 (AV.Rs_mono h2.agree h2.imm _ _ hr)).mono fun e w' hp => ?_
    cases e with
    | returned v => exact back K v w' hp
    | panicked ch => obtain ⟨v, e1, e2⟩ := hp; exact ⟨v, e1, back QP v w' e2⟩
    | outgrown => exact hp⟩
/-- A whole memory as one chunk, reached by its handle 0. -/
def Nest (H0 : AH) : SemP where
  R ι hv w := ∃ ρ : Rho, ∃ hv0 : HV, ρ 0 = some hv0 ∧ hv0.blk = hv.blk ∧ hv0.room = hv.room ∧ (∀ k, hv.foot k ↔ H0.foot ρ k) ∧
    (∀ p ∈ H0.ch, ∃ hu, ρ p.1 = some hu ∧ p.2.R ρ ι hu w) ∧ (∀ h, H0.next ≤ h → ρ h = none) ∧ (H0.ch.map fun p : Nat × Chunk => p.1).Nodup ∧
    (∀ p ∈ H0.ch, ∀ q ∈ H0.ch, p.1 ≠ q.1 → ∀ a b, ρ p.1 = some a → ρ q.1 = some b → ∀ k, a.foot k → ¬ b.foot k)
  loc ι ι' hv w w' hι hk := fun ⟨ρ, hv0, h1, h2, h3, h4, h5, h6, h7, h8⟩ => ⟨ρ, hv0, h1, h2, h3, h4, fun p hp => by
    obtain ⟨hu, g1, g2⟩ := h5 p hp
    exact ⟨hu, g1, g2.keep (Rho.le.refl _) hι fun k hf => hk k ((h4 k).2 ⟨p, hp, hu, g1, hf⟩)⟩, h6, h7, h8⟩
/-- An object is opened: its parts stand under handles of their own. -/
def openH (h : Nat) (H H0 : AH) : AH := mergeH [h] H ⟨1, []⟩ H0
theorem sig_zero (h m : Nat) : sig [h] 1 m 0 = h := rfl
theorem sig_succ (h m k : Nat) : sig [h] 1 m (k + 1) = m + k := by
  unfold sig
  have : Nat.blt (k + 1) 1 = false := rfl
  rw [this]
  rfl
theorem HEnt.open {H : AH} (h : Nat) (H0 : AH) (hc : H.get h = some (.sem (Nest H0))) (h0 : Nat.ble 1 H0.next = true) : HEnt H (openH h H H0) := by
  refine ⟨fun ρ ι w hS => ?_⟩
  have h0 := Nat.le_of_ble_eq_true h0
  obtain ⟨hv, hr, ρ0, hv0, e1, e2, e3, e4, e5, e6, e7, e8⟩ := hS.hv hc
  have hm := AH.get_mem hc
  have hlt : h < H.next := by
    rcases Nat.lt_or_ge h H.next with g | g
    · exact g
    · rw [hS.fresh _ g] at hr; cases hr
  generalize hσ : sig [h] 1 H.next = σ
  have σ0 : σ 0 = h := by rw [← hσ]; rfl
  have σs : ∀ k, σ (k + 1) = H.next + k := fun k => by rw [← hσ]; exact sig_succ ..
  have σinj : ∀ a b, σ a = σ b → a = b := fun a b e => by
    cases a with
    | zero => cases b with
      | zero => rfl
      | succ b => rw [σ0, σs] at e; omega
    | succ a => cases b with
      | zero => rw [σ0, σs] at e; omega
      | succ b => rw [σs, σs] at e; omega
  let ρ' : Rho := fun k => if k = h then ρ0 0 else if k < H.next then ρ k else ρ0 (k - H.next + 1)
  have hcomp : (fun k => ρ' (σ k)) = ρ0 := by
    funext k
    cases k with
    | zero => simp only [ρ', σ0, if_true]
    | succ k =>
      rw [σs]
      have g1 : ¬ H.next + k = h := by omega
      have g2 : ¬ H.next + k < H.next := by omega
      simp only [ρ', if_neg g1, if_neg g2]
      congr 1
      omega
  have hle : Rho.le ρ ρ' := fun k hu hk => by
    by_cases g : k = h
    · subst g
      simp only [ρ', if_true]
      rw [hr] at hk
      injection hk with hk
      subst hk
      exact ⟨hv0, e1, e2, e3⟩
    · rcases Nat.lt_or_ge k H.next with g2 | g2
      · simp only [ρ', if_neg g, if_pos g2]; exact ⟨hu, hk, rfl, rfl⟩
      · rw [hS.fresh _ g2] at hk; cases hk
  have keyH : ∀ p ∈ H.ch, p.1 < H.next := fun p hp => by
    obtain ⟨hu, h1, _⟩ := hS.rel p hp
    rcases Nat.lt_or_ge p.1 H.next with g | g
    · exact g
    · rw [hS.fresh _ g] at h1; cases h1
  have key0 : ∀ q ∈ H0.ch, q.1 < H0.next := fun p hp => by
    obtain ⟨hu, h1, _⟩ := e5 p hp
    rcases Nat.lt_or_ge p.1 H0.next with g | g
    · exact g
    · rw [e6 _ g] at h1; cases h1
  have valE : ∀ p ∈ H.ch, p.1 ≠ h → ρ' p.1 = ρ p.1 := fun p hp hne => by
    simp only [ρ', if_neg hne, if_pos (keyH p hp)]
  have val0 : ∀ q, ρ' (σ q) = ρ0 q := fun q => congrFun hcomp q
  have memM : ∀ p ∈ (openH h H H0).ch, (p ∈ H.ch ∧ p.1 ≠ h) ∨ ∃ q ∈ H0.ch, p = (σ q.1, q.2.ren σ) := fun p hp => by
    rcases List.mem_append.1 hp with hp | hp
    · obtain ⟨g1, g2⟩ := merge_go p hp
      exact .inl ⟨g1, g2 h (List.mem_cons_self ..)⟩
    · obtain ⟨q, h1, h2⟩ := merge_add p hp
      have : sig [h] (AH.mk 1 []).next H.next = σ := hσ
      rw [this] at h2
      exact .inr ⟨q, h1, h2⟩
  have far : ∀ p ∈ H.ch, p.1 ≠ h → ∀ x, ρ p.1 = some x → ∀ q ∈ H0.ch, ∀ y, ρ0 q.1 = some y → ∀ k, x.foot k → ¬ y.foot k := fun p hp hne x hx q hq y hy k hk hk2 =>
    hS.apart p hp _ hm hne x hv hx hr k hk ((e4 k).2 ⟨q, hq, y, hy, hk2⟩)
  have in0 : ∀ q ∈ H0.ch, ∀ y, ρ0 q.1 = some y → ∀ k, y.foot k → hv.foot k := fun q hq y hy k hk => (e4 k).2 ⟨q, hq, y, hy, hk⟩
  refine ⟨ρ', ι, ⟨hS.imm, hS.one, fun p hp => ?_, fun k hk => ?_, ?_, fun p hp q hq hpq x y hx hy k hk hk2 => ?_, fun p hp x hx k o v hk => ?_, fun p hp x hx k hk => ?_⟩, ⟨Touch.refl _ _, fun k ⟨p, hp, x, hx, hk⟩ => ?_, Imm.le.refl _, fun _ _ _ h => .inl h, hle⟩⟩
  · rcases memM p hp with ⟨g1, g2⟩ | ⟨q, g1, rfl⟩
    · obtain ⟨hu, k1, k2⟩ := hS.rel p g1
      exact ⟨hu, (valE p g1 g2).trans k1, k2.keep hle (Imm.le.refl _) fun _ _ => rfl⟩
    · obtain ⟨hu, k1, k2⟩ := e5 q g1
      exact ⟨hu, by rw [val0]; exact k1, (Chunk.ren_R σ ρ' ι hu w q.2).2 (by rw [hcomp]; exact k2)⟩
  · have hk' : H.next + (H0.next - 1) ≤ k := hk
    have g1 : ¬ k = h := by omega
    have g2 : ¬ k < H.next := by omega
    simp only [ρ', if_neg g1, if_neg g2]
    exact e6 _ (by omega)
  · unfold openH mergeH
    simp only [List.map_append]
    rw [List.nodup_append, merge_add_keys]
    have : sig [h] (AH.mk 1 []).next H.next = σ := hσ
    rw [this]
    refine ⟨merge_go_nodup hS.nodup, map_nodup σinj e7, fun a ha b hb e => ?_⟩
    obtain ⟨p, hp, rfl⟩ := List.mem_map.1 ha
    obtain ⟨q, hq, rfl⟩ := List.mem_map.1 hb
    obtain ⟨g1, g2⟩ := merge_go p hp
    have g3 := keyH p g1
    cases hq1 : q.1 with
    | zero => rw [hq1, σ0] at e; exact g2 h (List.mem_cons_self ..) e
    | succ k => rw [hq1, σs] at e; omega
  · rcases memM p hp with ⟨h1, h2⟩ | ⟨p', h1, rfl⟩ <;> rcases memM q hq with ⟨h3, h4⟩ | ⟨q', h3, rfl⟩
    · rw [valE p h1 h2] at hx
      rw [valE q h3 h4] at hy
      exact hS.apart p h1 q h3 hpq x y hx hy k hk hk2
    · rw [valE p h1 h2] at hx
      rw [val0] at hy
      exact far p h1 h2 x hx q' h3 y hy k hk hk2
    · rw [valE q h3 h4] at hy
      rw [val0] at hx
      exact far q h3 h4 y hy p' h1 x hx k hk2 hk
    · rw [val0] at hx hy
      exact e8 p' h1 q' h3 (fun e => hpq (by rw [e])) x y hx hy k hk hk2
  · rcases memM p hp with ⟨h1, h2⟩ | ⟨q, h1, rfl⟩
    · rw [valE p h1 h2] at hx; exact hS.iapart p h1 x hx k o v hk
    · rw [val0] at hx; exact hS.iapart _ hm hv hr k o v (in0 q h1 x hx k hk)
  · rcases memM p hp with ⟨h1, h2⟩ | ⟨q, h1, rfl⟩
    · rw [valE p h1 h2] at hx; exact hS.lt p h1 x hx k hk
    · rw [val0] at hx; exact hS.lt _ hm hv hr k (in0 q h1 x hx k hk)
  · rcases memM p hp with ⟨h1, h2⟩ | ⟨q, h1, rfl⟩
    · rw [valE p h1 h2] at hx; exact .inl ⟨p, h1, x, hx, hk⟩
    · rw [val0] at hx; exact .inl ⟨_, hm, hv, hr, in0 q h1 x hx k hk⟩
/-- An object is closed: its parts stand under one handle, and the others are let go. -/
def closeH (l : List Nat) (h : Nat) (H H0 : AH) : AH := ⟨H.next, mergeH.go l H.ch ++ [(h, .sem (Nest H0))]⟩
def closeOk (l : List Nat) (h : Nat) (H H0 : AH) : Bool :=
  useOk l H H0 && Nat.beq (l.getD 0 H.next) h && Nat.ble 1 H0.next
theorem HEnt.close {H : AH} (l : List Nat) (h : Nat) (H0 : AH) (hok : closeOk l h H H0 = true) (hsub : subRen (sig l H0.next H.next) H H0.ch) : HEnt H (closeH l h H H0) := by
  refine ⟨fun ρ ι w hS => ?_⟩
  simp only [closeOk, Bool.and_eq_true] at hok
  obtain ⟨⟨huse, hlh⟩, h01⟩ := hok
  have hlh := Nat.eq_of_beq_eq_true hlh
  have h01 := Nat.le_of_ble_eq_true h01
  simp only [useOk, Bool.and_eq_true] at huse
  obtain ⟨⟨⟨⟨⟨o1, o2⟩, o3⟩, o4⟩, o5⟩, o6⟩ := huse
  have hlen := Nat.eq_of_beq_eq_true o1
  have hlt : ∀ k ∈ l, k < H.next := fun k hk => by have := List.all_eq_true.1 o2 k hk; simpa using this
  have hnd := nodupB_spec o3
  generalize hσ : sig l H0.next H.next = σ at *
  have σlt : ∀ k, k < H0.next → ∃ h : k < l.length, σ k = l[k] := fun k hk => by
    refine ⟨by omega, ?_⟩
    rw [← hσ]
    unfold sig
    have : Nat.blt k H0.next = true := by simpa using hk
    rw [this]
    simp [List.getD, show k < l.length by omega]
  have σge : ∀ k, H0.next ≤ k → σ k = H.next + (k - H0.next) := fun k hk => by
    rw [← hσ]
    unfold sig
    have : Nat.blt k H0.next = false := by rw [Bool.eq_false_iff]; simp; omega
    rw [this]
    rfl
  have σmem : ∀ k, k < H0.next → σ k ∈ l := fun k hk => by obtain ⟨h1, h2⟩ := σlt k hk; rw [h2]; exact List.getElem_mem h1
  have σ0 : σ 0 = h := by
    obtain ⟨h1, h2⟩ := σlt 0 (by omega)
    rw [h2, ← hlh]
    simp [List.getD, h1]
  have hmem : h ∈ l := by rw [← σ0]; exact σmem 0 (by omega)
  have σinj : ∀ a b, a < H0.next → b < H0.next → σ a = σ b → a = b := fun a b ha hb e => by
    obtain ⟨a1, a2⟩ := σlt a ha
    obtain ⟨b1, b2⟩ := σlt b hb
    rw [a2, b2] at e
    exact (List.getElem_inj hnd).1 e
  have sub := subRen_spec hsub
  have mem0 : ∀ p ∈ H0.ch, (σ p.1, p.2.ren σ) ∈ H.ch := fun p hp => AH.get_mem (sub p hp)
  have hkeys : ∀ p ∈ H0.ch, p.1 < H0.next := fun p hp => by have := List.all_eq_true.1 o5 p hp; simpa using this
  have hall : ∀ k, k < H0.next → ∃ c, H0.get k = some c := fun k hk => by
    have := List.all_eq_true.1 o4 k (List.mem_range.2 hk)
    exact Option.isSome_iff_exists.1 this
  obtain ⟨c0, hc0⟩ := hall 0 (by omega)
  obtain ⟨hv, hr, hR⟩ := hS.rel _ (mem0 _ (AH.get_mem hc0))
  simp only [σ0] at hr
  have hlth : h < H.next := hlt h hmem
  let ρ0 : Rho := fun k => ρ (σ k)
  let ρ' : Rho := fun k => if k = h then some ⟨hv.blk, hv.room, H0.foot ρ0⟩ else ρ k
  have hle : Rho.le ρ ρ' := fun k hu hk => by
    by_cases g : k = h
    · subst g
      rw [hr] at hk
      injection hk with hk
      subst hk
      exact ⟨⟨hv.blk, hv.room, H0.foot ρ0⟩, by simp only [ρ', if_true], rfl, rfl⟩
    · exact ⟨hu, by simp only [ρ', if_neg g]; exact hk, rfl, rfl⟩
  have memM : ∀ p ∈ (closeH l h H H0).ch, (p ∈ H.ch ∧ (∀ k ∈ l, p.1 ≠ k)) ∨ p = (h, .sem (Nest H0)) := fun p hp => by
    rcases List.mem_append.1 hp with hp | hp
    · exact .inl (merge_go p hp)
    · exact .inr (by simpa using hp)
  have valE : ∀ p : Nat × Chunk, (∀ k ∈ l, p.1 ≠ k) → ρ' p.1 = ρ p.1 := fun p hne => by simp only [ρ', if_neg (hne h hmem)]
  have valh : ρ' h = some ⟨hv.blk, hv.room, H0.foot ρ0⟩ := by simp only [ρ', if_true]
  have foot0 : ∀ k, H0.foot ρ0 k → H.foot ρ k := fun k ⟨p, hp, hu, h1, h2⟩ => ⟨_, mem0 p hp, hu, h1, h2⟩
  have far : ∀ p ∈ H.ch, (∀ k ∈ l, p.1 ≠ k) → ∀ x, ρ p.1 = some x → ∀ k, x.foot k → ¬ H0.foot ρ0 k := fun p hp hne x hx k hk ⟨q, hq, hu, h1, h2⟩ =>
    hS.apart p hp _ (mem0 q hq) (hne _ (σmem _ (hkeys q hq))) x hu hx h1 k hk h2
  refine ⟨ρ', ι, ⟨hS.imm, hS.one, fun p hp => ?_, fun k hk => ?_, ?_, fun p hp q hq hpq x y hx hy k hk hk2 => ?_, fun p hp x hx k o v hk => ?_, fun p hp x hx k hk => ?_⟩, ⟨Touch.refl _ _, fun k ⟨p, hp, x, hx, hk⟩ => ?_, Imm.le.refl _, fun _ _ _ h => .inl h, hle⟩⟩
  · rcases memM p hp with ⟨g1, g2⟩ | rfl
    · obtain ⟨hu, k1, k2⟩ := hS.rel p g1
      exact ⟨hu, (valE p g2).trans k1, k2.keep hle (Imm.le.refl _) fun _ _ => rfl⟩
    · refine ⟨_, valh, ρ0, hv, ?_, rfl, rfl, fun _ => Iff.rfl, fun q hq => ?_, fun k hk => ?_, nodupB_spec o6, fun p hp q hq hpq x y hx hy => ?_⟩
      · show ρ (σ 0) = _
        rw [σ0]; exact hr
      · obtain ⟨hu, k1, k2⟩ := hS.rel _ (mem0 q hq)
        exact ⟨hu, k1, (Chunk.ren_R σ ρ ι hu w q.2).1 k2⟩
      · show ρ (σ k) = none
        rw [σge k hk]; exact hS.fresh _ (by omega)
      · exact hS.apart _ (mem0 p hp) _ (mem0 q hq) (fun e => hpq (σinj _ _ (hkeys p hp) (hkeys q hq) e)) x y hx hy
  · have hk' : H.next ≤ k := hk
    have g : ¬ k = h := by omega
    simp only [ρ', if_neg g]
    exact hS.fresh k hk'
  · unfold closeH
    simp only [List.map_append, List.map_cons, List.map_nil]
    rw [List.nodup_append]
    refine ⟨merge_go_nodup hS.nodup, by simp, fun a ha b hb e => ?_⟩
    obtain ⟨p, hp, rfl⟩ := List.mem_map.1 ha
    have hb : b = h := by simpa using hb
    exact (merge_go p hp).2 h hmem (e.trans hb)
  · rcases memM p hp with ⟨h1, h2⟩ | rfl <;> rcases memM q hq with ⟨h3, h4⟩ | rfl
    · rw [valE p h2] at hx
      rw [valE q h4] at hy
      exact hS.apart p h1 q h3 hpq x y hx hy k hk hk2
    · rw [valE p h2] at hx
      rw [valh] at hy
      injection hy with hy
      subst hy
      exact far p h1 h2 x hx k hk hk2
    · rw [valE q h4] at hy
      rw [valh] at hx
      injection hx with hx
      subst hx
      exact far q h3 h4 y hy k hk2 hk
    · exact hpq rfl
  · rcases memM p hp with ⟨h1, h2⟩ | rfl
    · rw [valE p h2] at hx; exact hS.iapart p h1 x hx k o v hk
    · rw [valh] at hx
      injection hx with hx
      subst hx
      obtain ⟨q, hq, hu, g1, g2⟩ := hk
      exact hS.iapart _ (mem0 q hq) hu g1 k o v g2
  · rcases memM p hp with ⟨h1, h2⟩ | rfl
    · rw [valE p h2] at hx; exact hS.lt p h1 x hx k hk
    · rw [valh] at hx
      injection hx with hx
      subst hx
      obtain ⟨q, hq, hu, g1, g2⟩ := hk
      exact hS.lt _ (mem0 q hq) hu g1 k g2
  · rcases memM p hp with ⟨h1, h2⟩ | rfl
    · rw [valE p h2] at hx; exact .inl ⟨p, h1, x, hx, hk⟩
    · rw [valh] at hx
      injection hx with hx
      subst hx
      exact .inl (foot0 k hk)
/-- The usual end of a method: its object is closed again. -/
theorem Ent.shutAt {B : Nat} {r r2 : AV} {H : AH} (l : List (Option Nat)) (H0 : AH) (hB : Nat.ble B 1 = true) (hok : entOk B l H H0 = true) (henv : AVE r (r2.ren (sigO l H.next))) (hch : chE (sigO l H.next) l H H0.ch) (hcl : closeOk (List.range H0.next) 0 H0 H0 = true)
    (hall : H0.ch.all (fun p => (List.range H0.next).any (Nat.beq p.1)) = true) (hsub : subRen (sig (List.range H0.next) H0.next H0.next) H0 H0.ch) (hr2 : r2.ren (sigO [some 0] H0.next) = r2) :
    Ent 1 B [(0, r)] H [(0, r2)] ⟨1, [(0, .sem (Nest H0))]⟩ := by
  refine (Ent.mk' (e := [(0, r)]) (e' := [(0, r2)]) l hok ⟨henv, trivial⟩ hch).trans ?_
  have h := (HEnt.close (List.range H0.next) 0 H0 hcl hsub).ent (N := 1) (B := B) (e := [(0, r2)])
  have e : mergeH.go (List.range H0.next) H0.ch = [] := by
    have key : ∀ c : List (Nat × Chunk), c.all (fun p => (List.range H0.next).any (Nat.beq p.1)) = true → mergeH.go (List.range H0.next) c = [] := by
      intro c
      induction c with
      | nil => intro _; rfl
      | cons p ps ih =>
        intro h
        simp only [List.all_cons, Bool.and_eq_true] at h
        unfold mergeH.go
        rw [h.1]
        exact ih h.2
    exact key _ hall
  unfold closeH at h
  rw [e] at h
  have h1 : 1 ≤ H0.next := by
    simp only [closeOk, Bool.and_eq_true] at hcl
    exact Nat.le_of_ble_eq_true hcl.2
  have hB1 := Nat.le_of_ble_eq_true hB
  have hB2 : B = 0 ∨ B = 1 := by omega
  refine h.trans (Ent.mk' [some 0] (by rcases hB2 with rfl | rfl <;> (simp [entOk, entOk.nod, useOk.nodupB]; omega)) ⟨?_, trivial⟩ ⟨⟨_, rfl, ChE.refl _⟩, trivial⟩)
  show AVE r2 (r2.ren (sigO [some 0] H0.next))
  rw [hr2]
  exact AVE.refl _
/-- An object alone. -/
@[reducible] def one (H0 : AH) : AH := ⟨1, [(0, .sem (Nest H0))]⟩
theorem HEnt.openOne (H0 : AH) {H : AH} (e : openH 0 (one H0) H0 = H) (h0 : Nat.ble 1 H0.next = true) : HEnt (one H0) H := e ▸ HEnt.open (H := one H0) 0 H0 rfl h0
/-- A body's walk, from a state that its arguments come to. -/
theorem ACall.walkE {C : Cfg} (hC : C.Ok) (S : List (Nat × Sched)) {f : FuncId} {fn : Func} {c : Code} {args : List AV} {H : AH} {K QP : AV → AH → Prop} (hf : C.P.funcs[f]? = some fn) (hname : (fn.name == "runtime.NumGoroutine") = false) (hb : fn.body = some c) (hN : fn.ntmps = C.N) (hS : (regsOf c).map (fun p => schGet S p.1) = (regsOf c).map fun p => mkSched C p.2 p.2.size (Array.replicate p.2.size false)) (hl : Nat.ble args.length C.N = true) (hbase : Nat.ble H.next C.base = true) {e1 : Env} {H1 : AH}
    (hE : lensF args → heapF H.ch → Ent C.N C.base (envOf 0 args) H e1 H1)
    (h : lensF args → heapF H.ch → awF C S c e1 H1 ⟨finK C.T fn.results.toList (resF K), fun _ _ _ => False, finK C.T fn.results.toList (resF K), QP⟩) (hro : C.ro = none := by rfl) : ACall C.P f args H K QP :=
  ⟨⟨fn, hf, hname, by rw [hb]; rfl⟩, fun ρ ι w cargs hG hS' hr => (ACall.body hC hf hname hb hN hl hbase (AWP.of_ent (hE (lensF_of _ _ hr) (heapF_of _ hS'.rel)) (AWP.go hC (.of_eq hS) (resF_eq K ▸ h (lensF_of _ _ hr) (heapF_of _ hS'.rel)))) hro).run ρ ι w cargs hG hS' hr⟩
/-- A method that leaves its object's memory as it is: seen from outside. -/
theorem AFn.shut {P : Program} {f : FuncId} {args : List AV} {H0 : AH} {X : Type} {R : X → AV} {HH : X → AH} (h : AFn P f args H0 R HH) (e : openH 0 (one H0) H0 = H0) (h0 : Nat.ble 1 H0.next = true)
    (hcl : ∀ x, closeOk (List.range (HH x).next) 0 (HH x) (HH x) = true ∧ (HH x).ch.all (fun p => (List.range (HH x).next).any (Nat.beq p.1)) = true) (hsub : ∀ x, subRen (sig (List.range (HH x).next) (HH x).next (HH x).next) (HH x) (HH x).ch) (hr : ∀ x, (R x).ren (sigO [some 0] (HH x).next) = R x) :
    AFn P f args (one H0) R fun x => one (HH x) := by
  refine ACall.fin (ACall.hent (HEnt.openOne H0 e h0) (ACall.mono h (fun r H' ⟨x, e1, e2⟩ => ?_) fun _ _ h => h.elim))
  subst e1 e2
  refine ⟨_, HEnt.refl _, _, _, ?_, x, rfl, rfl⟩
  have g := (HEnt.close (List.range (HH x).next) 0 (HH x) (hcl x).1 (hsub x)).ent (N := 1) (B := 1) (e := [(0, R x)])
  have e : mergeH.go (List.range (HH x).next) (HH x).ch = [] := by
    have key : ∀ c : List (Nat × Chunk), c.all (fun p => (List.range (HH x).next).any (Nat.beq p.1)) = true → mergeH.go (List.range (HH x).next) c = [] := by
      intro c
      induction c with
      | nil => intro _; rfl
      | cons p ps ih =>
        intro h
        simp only [List.all_cons, Bool.and_eq_true] at h
        unfold mergeH.go
        rw [h.1]
        exact ih h.2
    exact key _ (hcl x).2
  unfold closeH at g
  rw [e] at g
  have h1 : 1 ≤ (HH x).next := by
    have := (hcl x).1
    simp only [closeOk, Bool.and_eq_true] at this
    exact Nat.le_of_ble_eq_true this.2
  refine g.trans (Ent.mk' [some 0] (by simp [entOk, entOk.nod, useOk.nodupB]; omega) ⟨?_, trivial⟩ ⟨⟨_, rfl, ChE.refl _⟩, trivial⟩)
  show AVE (R x) ((R x).ren (sigO [some 0] (HH x).next))
  rw [hr x]
  exact AVE.refl _
end Go.Proofs.YtpgdbeacmlojcaaGreat.Ax
