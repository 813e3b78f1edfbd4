/-
  Laws: what is handed in; loops that yield; ranges.
-/
import Derived.Test.YtgfkepebfaiepaaGreatDoorBxZ
import Derived.Maps.OwnSet
import Derived.Maps.Range
import Derived.Sort.KeysCollected
import Derived.WalkKit
import Derived.ProofKit
import Derived.OpenShut
import Derived.Deep.DeepHandedRow
import Derived.Deep.Slices
import Derived.ChangeSame
import Derived.SizedLaws
import Derived.Carry
namespace Go.Proofs.YtgfkepebfaiepaaGreatDoor.Ax
open Go.RowKit
structure HEnt (H H' : AH) : Prop where
 run : ∀ ρ ι w, SR ρ ι H w → ∃ ρ' ι', SR ρ' ι' H' w ∧ Went ρ ι H w ρ' ι' H' w
theorem HEnt.ent {N B : Nat} {e : Env} {H H' : AH} (h : HEnt H H') : Ent N B e H e H' := ⟨fun ρ ι a w hE hS => by
 obtain ⟨ρ', ι', h1, h2⟩ := h.run ρ ι w hS
 exact ⟨ρ', ι', hE.mono h2.agree h2.imm, h1, h2.weak⟩⟩
theorem HEnt.refl (H : AH) : HEnt H H := ⟨fun ρ ι _ hS => ⟨ρ, ι, hS, Went.refl ..⟩⟩
theorem HEnt.trans {H H' H'' : AH} (h : HEnt H H') (h' : HEnt H' H'') : HEnt H H'' := ⟨fun ρ ι w hS => by
 obtain ⟨ρ', ι', h1, h2⟩ := h.run ρ ι w hS
 obtain ⟨ρ2, ι2, g1, g2⟩ := h'.run ρ' ι' w h1
 exact ⟨ρ2, ι2, g1, h2.trans g2⟩⟩
theorem ACall.hent {P : Program} {f : FuncId} {args : List AV} {H H1 : AH} {K QP : AV → AH → Prop} (hpre : HEnt H H1) (h : ACall P f args H1 (fun r H' => ∃ H2, HEnt H' H2 ∧ K r H2) fun r H' => ∃ H2, HEnt H' H2 ∧ QP r H2) : ACall P f args H K QP :=
 ⟨h.fn, fun ρ ι w cargs hG hS hr => by
  obtain ⟨ρ1, ι1, h1, h2⟩ := hpre.run ρ ι w hS
  have back : ∀ K : AV → AH → Prop, ∀ v w', Lift (fun r H' => ∃ H2, HEnt H' H2 ∧ K r H2) ρ1 ι1 H1 w v w' → Lift K ρ ι H w v w' := fun K v w' ⟨r, H', ρ', ι', ⟨H2, he, k⟩, g1, g2, g3⟩ => by
   obtain ⟨ρ2, ι2, k1, k2⟩ := he.run ρ' ι' w' g2
   exact ⟨r, H2, ρ2, ι2, k, AV.R_mono k2.agree k2.imm _ _ g1, k1, (h2.trans g3).trans k2⟩
  refine (h.run ρ1 ι1 w cargs (hG.mono h2.imm) h1 (AV.Rs_mono h2.agree h2.imm _ _ hr)).mono fun e w' hp => ?_
  cases e with
  | returned v => exact back K v w' hp
  | panicked ch => obtain ⟨v, e1, e2⟩ := hp; exact ⟨v, e1, back QP v w' e2⟩
  | outgrown => exact hp⟩
def Nest (H0 : AH) : SemP where
 R ι hv w := ∃ ρ : Rho, ∃ hv0 : HV, ρ 0 = some hv0 ∧ hv0.blk = hv.blk ∧ hv0.room = hv.room ∧ (∀ k, hv.foot k ↔ H0.foot ρ k) ∧
   (∀ p ∈ H0.ch, ∃ hu, ρ p.1 = some hu ∧ p.2.R ρ ι hu w) ∧ (∀ h, H0.next ≤ h → ρ h = none) ∧ (H0.ch.map fun p : Nat × Chunk => p.1).Nodup ∧
   (∀ p ∈ H0.ch, ∀ q ∈ H0.ch, p.1 ≠ q.1 → ∀ a b, ρ p.1 = some a → ρ q.1 = some b → ∀ k, a.foot k → ¬ b.foot k)
 loc ι ι' hv w w' hι hk := fun ⟨ρ, hv0, h1, h2, h3, h4, h5, h6, h7, h8⟩ => ⟨ρ, hv0, h1, h2, h3, h4, fun p hp => by
  obtain ⟨hu, g1, g2⟩ := h5 p hp
  exact ⟨hu, g1, g2.keep (Rho.le.refl _) hι fun k hf => hk k ((h4 k).2 ⟨p, hp, hu, g1, hf⟩)⟩, h6, h7, h8⟩
def openH (h : Nat) (H H0 : AH) : AH := mergeH [h] H ⟨1, []⟩ H0
theorem sig_succ (h m k : Nat) : sig [h] 1 m (k + 1) = m + k := by
 unfold sig
 have : Nat.blt (k + 1) 1 = false := rfl
 rw [this]
 rfl
theorem HEnt.open {H : AH} (h : Nat) (H0 : AH) (hc : H.get h = some (.sem (Nest H0))) (h0 : Nat.ble 1 H0.next = true) : HEnt H (openH h H H0) := by
 refine ⟨fun ρ ι w hS => ?_⟩
 have h0 := Nat.le_of_ble_eq_true h0
 obtain ⟨hv, hr, ρ0, hv0, e1, e2, e3, e4, e5, e6, e7, e8⟩ := hS.hv hc
 have hm := AH.get_mem hc
 have hlt : h < H.next := by
  rcases Nat.lt_or_ge h H.next with g | g
  ·exact g
  ·rw [hS.fresh _ g] at hr; cases hr
 generalize hσ : sig [h] 1 H.next = σ
 have σ0 : σ 0 = h := by rw [← hσ]; rfl
 have σs : ∀ k, σ (k + 1) = H.next + k := fun k => by rw [← hσ]; exact sig_succ ..
 have σinj : ∀ a b, σ a = σ b → a = b := fun a b e => by
  cases a with
  | zero => cases b with
    | zero => rfl
    | succ b => rw [σ0, σs] at e; omega
  | succ a => cases b with
    | zero => rw [σ0, σs] at e; omega
    | succ b => rw [σs, σs] at e; omega
 let ρ' : Rho := fun k => if k = h then ρ0 0 else if k < H.next then ρ k else ρ0 (k - H.next + 1)
 have hcomp : (fun k => ρ' (σ k)) = ρ0 := by
  funext k
  cases k with
  | zero => simp only [ρ', σ0, if_true]
  | succ k =>
    rw [σs]
    have g1 : ¬ H.next + k = h := by omega
    have g2 : ¬ H.next + k < H.next := by omega
    simp only [ρ', if_neg g1, if_neg g2]
    congr 1
    omega
 have hle : Rho.le ρ ρ' := fun k hu hk => by
  by_cases g : k = h
  ·subst g
   simp only [ρ', if_true]
   rw [hr] at hk
   injection hk with hk
   subst hk
   exact ⟨hv0, e1, e2, e3⟩
  ·rcases Nat.lt_or_ge k H.next with g2 | g2
   ·simp only [ρ', if_neg g, if_pos g2]; exact ⟨hu, hk, rfl, rfl⟩
   ·rw [hS.fresh _ g2] at hk; cases hk
 have keyH : ∀ p ∈ H.ch, p.1 < H.next := fun p hp => by
  obtain ⟨hu, h1, _⟩ := hS.rel p hp
  rcases Nat.lt_or_ge p.1 H.next with g | g
  ·exact g
  ·rw [hS.fresh _ g] at h1; cases h1
 have key0 : ∀ q ∈ H0.ch, q.1 < H0.next := fun p hp => by
  obtain ⟨hu, h1, _⟩ := e5 p hp
  rcases Nat.lt_or_ge p.1 H0.next with g | g
  ·exact g
  ·rw [e6 _ g] at h1; cases h1
 have valE : ∀ p ∈ H.ch, p.1 ≠ h → ρ' p.1 = ρ p.1 := fun p hp hne => by
  simp only [ρ', if_neg hne, if_pos (keyH p hp)]
 have val0 : ∀ q, ρ' (σ q) = ρ0 q := fun q => congrFun hcomp q
 have memM : ∀ p ∈ (openH h H H0).ch, (p ∈ H.ch ∧ p.1 ≠ h) ∨ ∃ q ∈ H0.ch, p = (σ q.1, q.2.ren σ) := fun p hp => by
  rcases List.mem_append.1 hp with hp | hp
  ·obtain ⟨g1, g2⟩ := merge_go p hp
   exact .inl ⟨g1, g2 h (List.mem_cons_self ..)⟩
  ·obtain ⟨q, h1, h2⟩ := merge_add p hp
   have : sig [h] (AH.mk 1 []).next H.next = σ := hσ
   rw [this] at h2
   exact .inr ⟨q, h1, h2⟩
 have far : ∀ p ∈ H.ch, p.1 ≠ h → ∀ x, ρ p.1 = some x → ∀ q ∈ H0.ch, ∀ y, ρ0 q.1 = some y → ∀ k, x.foot k → ¬ y.foot k := fun p hp hne x hx q hq y hy k hk hk2 =>
  hS.apart p hp _ hm hne x hv hx hr k hk ((e4 k).2 ⟨q, hq, y, hy, hk2⟩)
 have in0 : ∀ q ∈ H0.ch, ∀ y, ρ0 q.1 = some y → ∀ k, y.foot k → hv.foot k := fun q hq y hy k hk => (e4 k).2 ⟨q, hq, y, hy, hk⟩
 refine ⟨ρ', ι, ⟨hS.imm, hS.one, fun p hp => ?_, fun k hk => ?_, ?_, fun p hp q hq hpq x y hx hy k hk hk2 => ?_, fun p hp x hx k o v hk => ?_, fun p hp x hx k hk => ?_⟩, ⟨Touch.refl _ _, fun k ⟨p, hp, x, hx, hk⟩ => ?_, Imm.le.refl _, fun _ _ _ h => .inl h, hle⟩⟩
 ·rcases memM p hp with ⟨g1, g2⟩ | ⟨q, g1, rfl⟩
  ·obtain ⟨hu, k1, k2⟩ := hS.rel p g1
   exact ⟨hu, (valE p g1 g2).trans k1, k2.keep hle (Imm.le.refl _) fun _ _ => rfl⟩
  ·obtain ⟨hu, k1, k2⟩ := e5 q g1
   exact ⟨hu, by rw [val0]; exact k1, (Chunk.ren_R σ ρ' ι hu w q.2).2 (by rw [hcomp]; exact k2)⟩
 ·have hk' : H.next + (H0.next - 1) ≤ k := hk
  have g1 : ¬ k = h := by omega
  have g2 : ¬ k < H.next := by omega
  simp only [ρ', if_neg g1, if_neg g2]
  exact e6 _ (by omega)
 ·unfold openH mergeH
  simp only [List.map_append]
  rw [List.nodup_append, merge_add_keys]
  have : sig [h] (AH.mk 1 []).next H.next = σ := hσ
  rw [this]
  refine ⟨merge_go_nodup hS.nodup, map_nodup σinj e7, fun a ha b hb e => ?_⟩
  obtain ⟨p, hp, rfl⟩ := List.mem_map.1 ha
  obtain ⟨q, hq, rfl⟩ := List.mem_map.1 hb
  obtain ⟨g1, g2⟩ := merge_go p hp
  have g3 := keyH p g1
  cases hq1 : q.1 with
  | zero => rw [hq1, σ0] at e; exact g2 h (List.mem_cons_self ..) e
  | succ k => rw [hq1, σs] at e; omega
 ·rcases memM p hp with ⟨h1, h2⟩ | ⟨p', h1, rfl⟩ <;> rcases memM q hq with ⟨h3, h4⟩ | ⟨q', h3, rfl⟩
  ·rw [valE p h1 h2] at hx
   rw [valE q h3 h4] at hy
   exact hS.apart p h1 q h3 hpq x y hx hy k hk hk2
  ·rw [valE p h1 h2] at hx
   rw [val0] at hy
   exact far p h1 h2 x hx q' h3 y hy k hk hk2
  ·rw [valE q h3 h4] at hy
   rw [val0] at hx
   exact far q h3 h4 y hy p' h1 x hx k hk2 hk
  ·rw [val0] at hx hy
   exact e8 p' h1 q' h3 (fun e => hpq (by rw [e])) x y hx hy k hk hk2
 ·rcases memM p hp with ⟨h1, h2⟩ | ⟨q, h1, rfl⟩
  ·rw [valE p h1 h2] at hx; exact hS.iapart p h1 x hx k o v hk
  ·rw [val0] at hx; exact hS.iapart _ hm hv hr k o v (in0 q h1 x hx k hk)
 ·rcases memM p hp with ⟨h1, h2⟩ | ⟨q, h1, rfl⟩
  ·rw [valE p h1 h2] at hx; exact hS.lt p h1 x hx k hk
  ·rw [val0] at hx; exact hS.lt _ hm hv hr k (in0 q h1 x hx k hk)
 ·rcases memM p hp with ⟨h1, h2⟩ | ⟨q, h1, rfl⟩
  ·rw [valE p h1 h2] at hx; exact .inl ⟨p, h1, x, hx, hk⟩
  ·rw [val0] at hx; exact .inl ⟨_, hm, hv, hr, in0 q h1 x hx k hk⟩
def closeH (l : List Nat) (h : Nat) (H H0 : AH) : AH := ⟨H.next, mergeH.go l H.ch ++ [(h, .sem (Nest H0))]⟩
def closeOk (l : List Nat) (h : Nat) (H H0 : AH) : Bool :=
 useOk l H H0 && Nat.beq (l.getD 0 H.next) h && Nat.ble 1 H0.next
theorem HEnt.close {H : AH} (l : List Nat) (h : Nat) (H0 : AH) (hok : closeOk l h H H0 = true) (hsub : subRen (sig l H0.next H.next) H H0.ch) : HEnt H (closeH l h H H0) := by
 refine ⟨fun ρ ι w hS => ?_⟩
 simp only [closeOk, Bool.and_eq_true] at hok
 obtain ⟨⟨huse, hlh⟩, h01⟩ := hok
 have hlh := Nat.eq_of_beq_eq_true hlh
 have h01 := Nat.le_of_ble_eq_true h01
 simp only [useOk, Bool.and_eq_true] at huse
 obtain ⟨⟨⟨⟨⟨o1, o2⟩, o3⟩, o4⟩, o5⟩, o6⟩ := huse
 have hlen := Nat.eq_of_beq_eq_true o1
 have hlt : ∀ k ∈ l, k < H.next := fun k hk => by have := List.all_eq_true.1 o2 k hk; simpa using this
 have hnd := nodupB_spec o3
 generalize hσ : sig l H0.next H.next = σ at *
 have σlt : ∀ k, k < H0.next → ∃ h : k < l.length, σ k = l[k] := fun k hk => by
  refine ⟨by omega, ?_⟩
  rw [← hσ]
  unfold sig
  have : Nat.blt k H0.next = true := by simpa using hk
  rw [this]
  simp [List.getD, show k < l.length by omega]
 have σge : ∀ k, H0.next ≤ k → σ k = H.next + (k - H0.next) := fun k hk => by
  rw [← hσ]
  unfold sig
  have : Nat.blt k H0.next = false := by rw [Bool.eq_false_iff]; simp; omega
  rw [this]
  rfl
 have σmem : ∀ k, k < H0.next → σ k ∈ l := fun k hk => by obtain ⟨h1, h2⟩ := σlt k hk; rw [h2]; exact List.getElem_mem h1
 have σ0 : σ 0 = h := by
  obtain ⟨h1, h2⟩ := σlt 0 (by omega)
  rw [h2, ← hlh]
  simp [List.getD, h1]
 have hmem : h ∈ l := by rw [← σ0]; exact σmem 0 (by omega)
 have σinj : ∀ a b, a < H0.next → b < H0.next → σ a = σ b → a = b := fun a b ha hb e => by
  obtain ⟨a1, a2⟩ := σlt a ha
  obtain ⟨b1, b2⟩ := σlt b hb
  rw [a2, b2] at e
  exact (List.getElem_inj hnd).1 e
 have sub := subRen_spec hsub
 have mem0 : ∀ p ∈ H0.ch, (σ p.1, p.2.ren σ) ∈ H.ch := fun p hp => AH.get_mem (sub p hp)
 have hkeys : ∀ p ∈ H0.ch, p.1 < H0.next := fun p hp => by have := List.all_eq_true.1 o5 p hp; simpa using this
 have hall : ∀ k, k < H0.next → ∃ c, H0.get k = some c := fun k hk => by
  have := List.all_eq_true.1 o4 k (List.mem_range.2 hk)
  exact Option.isSome_iff_exists.1 this
 obtain ⟨c0, hc0⟩ := hall 0 (by omega)
 obtain ⟨hv, hr, hR⟩ := hS.rel _ (mem0 _ (AH.get_mem hc0))
 simp only [σ0] at hr
 have hlth : h < H.next := hlt h hmem
 let ρ0 : Rho := fun k => ρ (σ k)
 let ρ' : Rho := fun k => if k = h then some ⟨hv.blk, hv.room, H0.foot ρ0⟩ else ρ k
 have hle : Rho.le ρ ρ' := fun k hu hk => by
  by_cases g : k = h
  ·subst g
   rw [hr] at hk
   injection hk with hk
   subst hk
   exact ⟨⟨hv.blk, hv.room, H0.foot ρ0⟩, by simp only [ρ', if_true], rfl, rfl⟩
  ·exact ⟨hu, by simp only [ρ', if_neg g]; exact hk, rfl, rfl⟩
 have memM : ∀ p ∈ (closeH l h H H0).ch, (p ∈ H.ch ∧ (∀ k ∈ l, p.1 ≠ k)) ∨ p = (h, .sem (Nest H0)) := fun p hp => by
  rcases List.mem_append.1 hp with hp | hp
  ·exact .inl (merge_go p hp)
  ·exact .inr (by simpa using hp)
 have valE : ∀ p : Nat × Chunk, (∀ k ∈ l, p.1 ≠ k) → ρ' p.1 = ρ p.1 := fun p hne => by simp only [ρ', if_neg (hne h hmem)]
 have valh : ρ' h = some ⟨hv.blk, hv.room, H0.foot ρ0⟩ := by simp only [ρ', if_true]
 have foot0 : ∀ k, H0.foot ρ0 k → H.foot ρ k := fun k ⟨p, hp, hu, h1, h2⟩ => ⟨_, mem0 p hp, hu, h1, h2⟩
 have far : ∀ p ∈ H.ch, (∀ k ∈ l, p.1 ≠ k) → ∀ x, ρ p.1 = some x → ∀ k, x.foot k → ¬ H0.foot ρ0 k := fun p hp hne x hx k hk ⟨q, hq, hu, h1, h2⟩ =>
  hS.apart p hp _ (mem0 q hq) (hne _ (σmem _ (hkeys q hq))) x hu hx h1 k hk h2
 refine ⟨ρ', ι, ⟨hS.imm, hS.one, fun p hp => ?_, fun k hk => ?_, ?_, fun p hp q hq hpq x y hx hy k hk hk2 => ?_, fun p hp x hx k o v hk => ?_, fun p hp x hx k hk => ?_⟩, ⟨Touch.refl _ _, fun k ⟨p, hp, x, hx, hk⟩ => ?_, Imm.le.refl _, fun _ _ _ h => .inl h, hle⟩⟩
 ·rcases memM p hp with ⟨g1, g2⟩ | rfl
  ·obtain ⟨hu, k1, k2⟩ := hS.rel p g1
   exact ⟨hu, (valE p g2).trans k1, k2.keep hle (Imm.le.refl _) fun _ _ => rfl⟩
  ·refine ⟨_, valh, ρ0, hv, ?_, rfl, rfl, fun _ => Iff.rfl, fun q hq => ?_, fun k hk => ?_, nodupB_spec o6, fun p hp q hq hpq x y hx hy => ?_⟩
   ·show ρ (σ 0) = _
    rw [σ0]; exact hr
   ·obtain ⟨hu, k1, k2⟩ := hS.rel _ (mem0 q hq)
    exact ⟨hu, k1, (Chunk.ren_R σ ρ ι hu w q.2).1 k2⟩
   ·show ρ (σ k) = none
    rw [σge k hk]; exact hS.fresh _ (by omega)
   ·exact hS.apart _ (mem0 p hp) _ (mem0 q hq) (fun e => hpq (σinj _ _ (hkeys p hp) (hkeys q hq) e)) x y hx hy
 ·have hk' : H.next ≤ k := hk
  have g : ¬ k = h := by omega
  simp only [ρ', if_neg g]
  exact hS.fresh k hk'
 ·unfold closeH
  simp only [List.map_append, List.map_cons, List.map_nil]
  rw [List.nodup_append]
  refine ⟨merge_go_nodup hS.nodup, by simp, fun a ha b hb e => ?_⟩
  obtain ⟨p, hp, rfl⟩ := List.mem_map.1 ha
  have hb : b = h := by simpa using hb
  exact (merge_go p hp).2 h hmem (e.trans hb)
 ·rcases memM p hp with ⟨h1, h2⟩ | rfl <;> rcases memM q hq with ⟨h3, h4⟩ | rfl
  ·rw [valE p h2] at hx
   rw [valE q h4] at hy
   exact hS.apart p h1 q h3 hpq x y hx hy k hk hk2
  ·rw [valE p h2] at hx
   rw [valh] at hy
   injection hy with hy
   subst hy
   exact far p h1 h2 x hx k hk hk2
  ·rw [valE q h4] at hy
   rw [valh] at hx
   injection hx with hx
   subst hx
   exact far q h3 h4 y hy k hk2 hk
  ·exact hpq rfl
 ·rcases memM p hp with ⟨h1, h2⟩ | rfl
  ·rw [valE p h2] at hx; exact hS.iapart p h1 x hx k o v hk
  ·rw [valh] at hx
   injection hx with hx
   subst hx
   obtain ⟨q, hq, hu, g1, g2⟩ := hk
   exact hS.iapart _ (mem0 q hq) hu g1 k o v g2
 ·rcases memM p hp with ⟨h1, h2⟩ | rfl
  ·rw [valE p h2] at hx; exact hS.lt p h1 x hx k hk
  ·rw [valh] at hx
   injection hx with hx
   subst hx
   obtain ⟨q, hq, hu, g1, g2⟩ := hk
   exact hS.lt _ (mem0 q hq) hu g1 k g2
 ·rcases memM p hp with ⟨h1, h2⟩ | rfl
  ·rw [valE p h2] at hx; exact .inl ⟨p, h1, x, hx, hk⟩
  ·rw [valh] at hx
   injection hx with hx
   subst hx
   exact .inl (foot0 k hk)
theorem Ent.shutAt {B : Nat} {r r2 : AV} {H : AH} (l : List (Option Nat)) (H0 : AH) (hB : Nat.ble B 1 = true) (hok : entOk B l H H0 = true) (henv : AVE r (r2.ren (sigO l H.next))) (hch : chE (sigO l H.next) l H H0.ch) (hcl : closeOk (List.range H0.next) 0 H0 H0 = true)
 (hall : H0.ch.all (fun p => (List.range H0.next).any (Nat.beq p.1)) = true) (hsub : subRen (sig (List.range H0.next) H0.next H0.next) H0 H0.ch) (hr2 : r2.ren (sigO [some 0] H0.next) = r2) :
 Ent 1 B [(0, r)] H [(0, r2)] ⟨1, [(0, .sem (Nest H0))]⟩ := by
 refine (Ent.mk' (e := [(0, r)]) (e' := [(0, r2)]) l hok ⟨henv, trivial⟩ hch).trans ?_
 have h := (HEnt.close (List.range H0.next) 0 H0 hcl hsub).ent (N := 1) (B := B) (e := [(0, r2)])
 have e : mergeH.go (List.range H0.next) H0.ch = [] := by
  have key : ∀ c : List (Nat × Chunk), c.all (fun p => (List.range H0.next).any (Nat.beq p.1)) = true → mergeH.go (List.range H0.next) c = [] := by
   intro c
   induction c with
   | nil => intro _; rfl
   | cons p ps ih =>
     intro h
     simp only [List.all_cons, Bool.and_eq_true] at h
     unfold mergeH.go
     rw [h.1]
     exact ih h.2
  exact key _ hall
 unfold closeH at h
 rw [e] at h
 have h1 : 1 ≤ H0.next := by
  simp only [closeOk, Bool.and_eq_true] at hcl
  exact Nat.le_of_ble_eq_true hcl.2
 have hB1 := Nat.le_of_ble_eq_true hB
 have hB2 : B = 0 ∨ B = 1 := by omega
 refine h.trans (Ent.mk' [some 0] (by rcases hB2 with rfl | rfl <;> (simp [entOk, entOk.nod, useOk.nodupB]; omega)) ⟨?_, trivial⟩ ⟨⟨_, rfl, ChE.refl _⟩, trivial⟩)
 show AVE r2 (r2.ren (sigO [some 0] H0.next))
 rw [hr2]
 exact AVE.refl _
@[reducible] def one (H0 : AH) : AH := ⟨1, [(0, .sem (Nest H0))]⟩
theorem HEnt.openOne (H0 : AH) {H : AH} (e : openH 0 (one H0) H0 = H) (h0 : Nat.ble 1 H0.next = true) : HEnt (one H0) H := e ▸ HEnt.open (H := one H0) 0 H0 rfl h0
theorem ACall.walkE {C : Cfg} (hC : C.Ok) (S : List (Nat × Sched)) {f : FuncId} {fn : Func} {c : Code} {args : List AV} {H : AH} {K QP : AV → AH → Prop} (hf : C.P.funcs[f]? = some fn) (hname : (fn.name == "runtime.NumGoroutine") = false) (hb : fn.body = some c) (hN : fn.ntmps = C.N) (hS : (regsOf c).map (fun p => schGet S p.1) = (regsOf c).map fun p => mkSched C p.2 p.2.size (Array.replicate p.2.size false)) (hl : Nat.ble args.length C.N = true) (hbase : Nat.ble H.next C.base = true) {e1 : Env} {H1 : AH}
 (hE : lensF args → heapF H.ch → Ent C.N C.base (envOf 0 args) H e1 H1)
 (h : lensF args → heapF H.ch → awF C S c e1 H1 ⟨finK C.T fn.results.toList (resF K), fun _ _ _ => False, finK C.T fn.results.toList (resF K), QP⟩) (hro : C.ro = none := by rfl) : ACall C.P f args H K QP :=
 ⟨⟨fn, hf, hname, by rw [hb]; rfl⟩, fun ρ ι w cargs hG hS' hr => (ACall.body hC hf hname hb hN hl hbase (AWP.of_ent (hE (lensF_of _ _ hr) (heapF_of _ hS'.rel)) (AWP.go hC (.of_eq hS) (resF_eq K ▸ h (lensF_of _ _ hr) (heapF_of _ hS'.rel)))) hro).run ρ ι w cargs hG hS' hr⟩
theorem AFn.shut {P : Program} {f : FuncId} {args : List AV} {H0 : AH} {X : Type} {R : X → AV} {HH : X → AH} (h : AFn P f args H0 R HH) (e : openH 0 (one H0) H0 = H0) (h0 : Nat.ble 1 H0.next = true)
 (hcl : ∀ x, closeOk (List.range (HH x).next) 0 (HH x) (HH x) = true ∧ (HH x).ch.all (fun p => (List.range (HH x).next).any (Nat.beq p.1)) = true) (hsub : ∀ x, subRen (sig (List.range (HH x).next) (HH x).next (HH x).next) (HH x) (HH x).ch) (hr : ∀ x, (R x).ren (sigO [some 0] (HH x).next) = R x) :
 AFn P f args (one H0) R fun x => one (HH x) := by
 refine ACall.fin (ACall.hent (HEnt.openOne H0 e h0) (ACall.mono h (fun r H' ⟨x, e1, e2⟩ => ?_) fun _ _ h => h.elim))
 subst e1 e2
 refine ⟨_, HEnt.refl _, _, _, ?_, x, rfl, rfl⟩
 have g := (HEnt.close (List.range (HH x).next) 0 (HH x) (hcl x).1 (hsub x)).ent (N := 1) (B := 1) (e := [(0, R x)])
 have e : mergeH.go (List.range (HH x).next) (HH x).ch = [] := by
  have key : ∀ c : List (Nat × Chunk), c.all (fun p => (List.range (HH x).next).any (Nat.beq p.1)) = true → mergeH.go (List.range (HH x).next) c = [] := by
   intro c
   induction c with
   | nil => intro _; rfl
   | cons p ps ih =>
     intro h
     simp only [List.all_cons, Bool.and_eq_true] at h
     unfold mergeH.go
     rw [h.1]
     exact ih h.2
  exact key _ (hcl x).2
 unfold closeH at g
 rw [e] at g
 have h1 : 1 ≤ (HH x).next := by
  have := (hcl x).1
  simp only [closeOk, Bool.and_eq_true] at this
  exact Nat.le_of_ble_eq_true this.2
 refine g.trans (Ent.mk' [some 0] (by simp [entOk, entOk.nod, useOk.nodupB]; omega) ⟨?_, trivial⟩ ⟨⟨_, rfl, ChE.refl _⟩, trivial⟩)
 show AVE (R x) ((R x).ren (sigO [some 0] (HH x).next))
 rw [hr x]
 exact AVE.refl _
end Go.Proofs.YtgfkepebfaiepaaGreatDoor.Ax

namespace Go.Proofs.YtgfkepebfaiepaaGreatDoor.Ax
open Go.RowKit Go.Maps Go.WideShapes
def keysS (m : List (MK × IV)) : List (List UInt8) := m.map fun p => match p.1 with | .s l => l | .i _ _ => []
def heldR (v : Value) : Option (DataW Value × List MemPlace) := some (.held v, [])
theorem zip_keys {ι : Imm} : ∀ {l : List MapEntry} {m : List (MK × IV)}, ZipR (IV.R ι) l m → (∀ p ∈ m, p.1.kind = none) → l.map (·.key) = (keysS m).map fun k => Value.string ⟨k.toArray⟩
 | [], m, h, _ => by simp only [ZipR] at h; subst h; rfl
 | e :: es, m, h, hk => by
   simp only [ZipR] at h
   obtain ⟨p, ps, rfl, h1, _, h2⟩ := h
   have ih := zip_keys h2 fun q hq => hk q (List.mem_cons_of_mem _ hq)
   have hp := hk p (List.mem_cons_self ..)
   obtain ⟨k, x⟩ := p
   cases k with
   | i k n => cases hp
   | s l =>
     simp only [List.map_cons, keysS] at ih ⊢
     rw [ih, h1]
     rfl
theorem keysS_nodup {m : List (MK × IV)} (hk : ∀ p ∈ m, p.1.kind = none) (hn : (m.map (·.1)).Nodup) : (keysS m).Nodup := by
 induction m with
 | nil => exact List.nodup_nil
 | cons p ps ih =>
   simp only [List.map_cons, List.nodup_cons] at hn
   have hp := hk p (List.mem_cons_self ..)
   obtain ⟨k, x⟩ := p
   cases k with
   | i k n => cases hp
   | s l =>
     simp only [keysS, List.map_cons, List.nodup_cons]
     refine ⟨fun hm => hn.1 ?_, ih (fun q hq => hk q (List.mem_cons_of_mem _ hq)) hn.2⟩
     obtain ⟨q, hq, e⟩ := List.mem_map.1 hm
     have hq' := hk q (List.mem_cons_of_mem _ hq)
     refine List.mem_map.2 ⟨q, hq, ?_⟩
     obtain ⟨k', x'⟩ := q
     cases k' with
     | i k n => cases hq'
     | s l' => simp only at e ⊢; rw [e]
theorem MapR.owns {ι : Imm} {P : Program} {k : TypeId} {w : World} {b : Nat} {m : List (MK × IV)} {es : Array MapEntry} {clock : Nat} (hk : P.underlying k = some .string) (h : MapR (IV.R ι) none m es clock) (hb : w.heap[b]? = some (.map es clock)) (hm : m.length ≤ maxLen) (hl : ∀ x ∈ keysS m, x.length ≤ maxLen) :
 ∃ D0 : DataW Value, w.ownsMap P k heldR b es.size D0 ∧ (strKeys D0).Perm (keysS m) ∧ Maps.size D0 = m.length := by
 obtain ⟨l, hp, hz⟩ := h.zip
 have hkeys := zip_keys hz h.kind
 have hlen : es.size = m.length := by
  have := hp.length_eq
  rw [← ZipR.len hz, this]
  simp
 have key : ∀ e ∈ es.toList, ∃ x ∈ keysS m, e.key = .string ⟨x.toArray⟩ := fun e he => by
  have h1 : e.key ∈ l.map (·.key) := List.mem_map_of_mem (hp.mem_iff.2 he)
  rw [hkeys] at h1
  obtain ⟨x, hx, hx2⟩ := List.mem_map.1 h1
  exact ⟨x, hx, hx2.symm⟩
 have rdE : ∀ e ∈ es.toList, ∀ x, e.key = .string ⟨x.toArray⟩ → x ∈ keysS m → Go.WideElems.rd P k heldR e = some (Lit.string x, DataW.held e.val) := fun e he x hx hx2 => by
  have h1 := Go.WideMaps.keyOf_string_mk hk (s := ⟨x.toArray⟩) (by simpa [ByteArray.size] using hl x hx2)
  obtain ⟨ke, ve, be⟩ := e
  simp only at hx
  subst hx
  have := Go.WideElems.rd_mk (P := P) (k := k) (R := heldR) (val := ve) (born := be) h1 (yv := (.held ve, [])) rfl
  simpa using this
 refine ⟨_, ⟨es, clock, hb, ⟨by omega, ⟨h.clock, h.born, ?_⟩, fun e he => ?_⟩, Nat.le_refl _, rfl⟩, ?_, ?_⟩
 ·have h1 : (l.map (·.key)).Nodup := by
   rw [hkeys]
   refine List.pairwise_map.2 ((keysS_nodup h.kind h.keys).imp fun hne e => hne ?_)
   simpa using e
  exact (hp.map _).nodup_iff.1 h1
 ·obtain ⟨x, hx, hx2⟩ := key e he
  exact ⟨_, rdE e he x hx2 hx⟩
 ·show ((es.toList.map (Go.WideElems.rg P k heldR)).foldr DataW.insert [] |>.map fun p => strOf p.1).Perm _
  refine ((sorted_perm _).map _).trans ?_
  rw [List.map_map]
  have e1 : es.toList.map ((fun p : Lit × DataW Value => strOf p.1) ∘ Go.WideElems.rg P k heldR) = es.toList.map fun e => match e.key with | .string s => s.data.toList | _ => [] := by
   refine List.map_congr_left fun e he => ?_
   obtain ⟨x, hx, hx2⟩ := key e he
   simp only [Function.comp_apply, Go.WideElems.rg, rdE e he x hx2 hx, Option.getD_some, strOf, hx2]
  rw [e1]
  have e2 : (l.map fun e : MapEntry => match e.key with | .string s => s.data.toList | _ => []) = keysS m := by
   have : (l.map fun e : MapEntry => match e.key with | .string s => s.data.toList | _ => []) = (l.map (·.key)).map fun v : Value => match v with | .string s => s.data.toList | _ => [] := by rw [List.map_map]; rfl
   rw [this, hkeys, List.map_map]
   exact List.map_id'' (fun x => rfl) _
  rw [← e2]
  exact (hp.symm).map _
 ·rw [Maps.size_eq, Go.length_read, hlen]
def sortS (l : List (List UInt8)) : List (List UInt8) := l.mergeSort fun x y => decide (x ≤ y)
def strRow (l : List (List UInt8)) : IV := .sl 1 l.length fun i => [.str (l.getD i [])]
theorem own_row {ρ : Rho} {ι : Imm} {H : AH} {w w' : World} {e : TypeId} {v : Value} {L : List (List UInt8)} (hS : SR ρ ι H w) (hb : Below w.heap.size w w') (h : w'.ownsRow w.heap.size e 1 v L.length (L.map encStr)) :
 ∃ ι', SR ρ ι' H w' ∧ Went ρ ι H w ρ ι' H w' ∧ (AV.iv (strRow L)).R ρ ι' v := by
 have ht : Touch (fun _ => False) w w' := ⟨hb.os, hb.tape, hb.output, hb.size, fun k hk _ => hb.block k hk⟩
 obtain ⟨h1, h2⟩ := h
 rcases h2 with ⟨rfl, h0⟩ | ⟨g, cap, cur, rfl, h3, h4, h5, h6, h7, h8⟩
 ·obtain ⟨q1, q2, q3⟩ := hS.addImm ht w.heap.size (Nat.le_refl _) (fun _ => none) (fun o v h => by cases h)
  refine ⟨_, q2, q3, ?_⟩
  simp only [strRow, AV.R, IV.R]
  rw [h0]
  exact ⟨none, 0, rfl, Nat.le_refl _, Nat.zero_le _, fun k hk => by omega⟩
 ·have hcell : ∀ o, o < L.length → cur[o]? = some (.string ⟨(L.getD o []).toArray⟩) := fun o ho => by
   have h9 : (cur.toList.take (L.length * 1))[o]? = (L.map encStr)[o]? := by rw [h8]
   rw [List.getElem?_take_of_lt (by omega), List.getElem?_map, List.getElem?_eq_getElem ho] at h9
   rw [← Array.getElem?_toList, h9]
   simp [List.getD, ho, encStr]
  obtain ⟨q1, q2, q3⟩ := hS.addImm ht g h3 (fun o => if o < L.length then cur[o]? else none) (fun o v hg => by
   split at hg
   ·rename_i ho
    refine ⟨cellOf h4 hg, ?_⟩
    rw [hcell o ho] at hg
    injection hg with hg
    subst hg
    rfl
   ·cases hg)
  refine ⟨_, q2, q3, ?_⟩
  simp only [strRow, AV.R, IV.R]
  refine ⟨_, cap, rfl, h5, h6, fun k hk => ⟨_, [.string ⟨(L.getD k []).toArray⟩], rfl, rfl, ?_, rfl, fun j u hj => ?_⟩⟩
  ·simp only [IV.Rs, IV.R]
   exact ⟨_, _, rfl, rfl, rfl⟩
  ·cases j with
   | zero =>
     simp only [List.getElem?_cons_zero, Option.some.injEq] at hj
     subst hj
     simp only [if_true, Nat.zero_add, Nat.mul_one, Nat.add_zero, if_pos hk]
     exact hcell k hk
   | succ j => simp at hj
theorem AVE.int {k : IntKind} {a b : Int} (h : a = b) : AVE (AV.int k a) (AV.int k b) := AVE.of_eq (by rw [h])
theorem AVE.bool {a b : Bool} (h : a = b) : AVE (AV.bool a) (AV.bool b) := AVE.of_eq (by rw [h])
theorem AVE.len {h sz off a b : Nat} (e : a = b) : AVE (AV.row h sz off a) (AV.row h sz off b) := AVE.of_eq (by rw [e])
structure IVE (x y : IV) : Prop where
 run : ∀ ι v, x.R ι v → y.R ι v
theorem IVE.refl (x : IV) : IVE x x := ⟨fun _ _ h => h⟩
theorem IVE.nilBs : IVE (.v (.slice none 0 0)) (.bs []) := ⟨fun ι v h => by
 simp only [IV.R] at h ⊢
 subst h
 exact ⟨none, 0, rfl, Nat.le_refl _, Nat.zero_le _, fun k hk => by simp at hk⟩⟩
theorem IVE.nilSl (sz : Nat) (f : Nat → List IV) : IVE (.v (.slice none 0 0)) (.sl sz 0 f) := ⟨fun ι v h => by
 simp only [IV.R] at h ⊢
 subst h
 exact ⟨none, 0, rfl, Nat.le_refl _, Nat.zero_le _, fun k hk => by omega⟩⟩
def IVEs : List IV → List IV → Prop
 | [], ys => ys = []
 | x :: xs, ys => match ys with
   | y :: ys => IVE x y ∧ IVEs xs ys
   | [] => False
theorem IVEs.refl : ∀ xs : List IV, IVEs xs xs
 | [] => rfl
 | x :: xs => ⟨IVE.refl x, IVEs.refl xs⟩
theorem IVEs.run {ι : Imm} : ∀ {xs ys : List IV} {vs : List Value}, IVEs xs ys → IV.Rs ι xs vs → IV.Rs ι ys vs
 | [], ys, vs, h, hr => by simp only [IVEs] at h; subst h; exact hr
 | x :: xs, ys, vs, h, hr => by
   cases ys with
   | nil => exact h.elim
   | cons y ys =>
     simp only [IV.Rs] at hr ⊢
     obtain ⟨u, us, e, r, rs⟩ := hr
     exact ⟨u, us, e, h.1.run _ _ r, IVEs.run h.2 rs⟩
theorem ChE.rowE {e sz n n' : Nat} {f f' : Nat → List IV} (hn : n' ≤ n) (hf : ∀ i, i < n' → IVEs (f i) (f' i)) : ChE (.rowc e sz n f) (.rowc e sz n' f') := ⟨fun ρ ι hv w h => by
 rcases h with ⟨h1, h2, h3⟩ | ⟨b, arr, fr, h1, h2, h3, h4, h5, h6, h7⟩
 ·exact .inl ⟨h1, by omega, h3⟩
 ·refine .inr ⟨b, arr, fr, h1, h2, h3, h4, h5, Nat.le_trans (Nat.mul_le_mul_right _ hn) h6, fun i hi => ?_⟩
  obtain ⟨vs, g1, g2, g3, g4⟩ := h7 i (by omega)
  exact ⟨vs, (hf i hi).run g1, g2, g3, g4⟩⟩
theorem ChE.push {e sz i : Nat} {f g f' : Nat → List IV} (hf : ∀ j, j < i → f j = f' j) (hg : IVEs (g 0) (f' i)) : ChE (.rowc e sz (i + 1) fun j => if j < i then f j else g (j - i)) (.rowc e sz (i + 1) f') := ChE.rowE (Nat.le_refl _) fun j hj => by
 by_cases h : j < i
 ·simp only [if_pos h, hf j h]; exact IVEs.refl _
 ·have : j = i := by omega
  subst this
  simp only [if_neg h, Nat.sub_self]
  exact hg
theorem AVE.sl {sz n : Nat} {f f' : Nat → List IV} (hf : ∀ i, i < n → IVEs (f i) (f' i)) : AVE (.iv (.sl sz n f)) (.iv (.sl sz n f')) := ⟨fun ρ ι v h => by
 simp only [AV.R, IV.R] at h ⊢
 obtain ⟨A, c, h1, h2, h3, h4⟩ := h
 refine ⟨A, c, h1, h2, h3, fun k hk => ?_⟩
 obtain ⟨ad, vs, g1, g2, g3, g4, g5⟩ := h4 k hk
 exact ⟨ad, vs, g1, g2, (hf k hk).run g3, g4, g5⟩⟩
theorem AFn.say {P : Program} {f : FuncId} {args : List AV} {H : AH} {X Y : Type} {R : X → AV} {HH : X → AH} {R' : Y → AV} {HH' : Y → AH} (h : AFn P f args H R HH) (g : ∀ x, ∃ y, AVE (R x) (R' y) ∧ HH x = HH' y) : AFn P f args H R' HH' :=
 ⟨h.fn, fun ρ ι w cargs hG hS hr => (h.run ρ ι w cargs hG hS hr).mono fun e w' hp => by
  cases e with
  | returned v =>
    obtain ⟨r, H', ρ', ι', ⟨x, e1, e2⟩, h1, h2, h3⟩ := hp
    subst e1 e2
    obtain ⟨y, g1, g2⟩ := g x
    exact ⟨R' y, HH' y, ρ', ι', ⟨y, rfl, rfl⟩, g1.run _ _ _ h1, g2 ▸ h2, g2 ▸ h3⟩
  | panicked ch => exact hp
  | outgrown => exact hp⟩
theorem HEnt.chunk {H : AH} {h : Nat} {c c' : Chunk} (hc : H.get h = some c) (he : ChE c c') : HEnt H (H.set h c') := ⟨fun ρ ι w hS => by
 obtain ⟨hv, hr, hR⟩ := hS.hv hc
 obtain ⟨h1, h2⟩ := hS.turn hc hr (Touch.refl _ w) (he.run _ _ _ _ hR)
 exact ⟨ρ, ι, h1, h2⟩⟩
section
variable {β : Type}
def smap (g : β → IV) (l : List (List UInt8 × β)) : List (MK × IV) := l.map fun p => (MK.s p.1, g p.2)
def afind (l : List (List UInt8 × β)) (s : List UInt8) : Option β := (l.find? fun p => decide (p.1 = s)).map (·.2)
def aput (l : List (List UInt8 × β)) (s : List UInt8) (n : β) : List (List UInt8 × β) := match l with
 | [] => [(s, n)]
 | p :: ps => if p.1 = s then (s, n) :: ps else p :: aput ps s n
def adel (l : List (List UInt8 × β)) (s : List UInt8) : List (List UInt8 × β) := l.filter fun p => decide (p.1 ≠ s)
theorem mfind_smap (g : β → IV) (l : List (List UInt8 × β)) (s : List UInt8) : mfind (smap g l) (.s s) = (afind l s).map g := by
 unfold mfind afind smap
 rw [List.find?_map]
 have : ((fun p : MK × IV => decide (p.1 = MK.s s)) ∘ fun p : List UInt8 × β => (MK.s p.1, g p.2)) = fun p => decide (p.1 = s) := by
  funext p; simp
 rw [this]
 cases l.find? fun p => decide (p.1 = s) <;> rfl
theorem mput_smap (g : β → IV) (s : List UInt8) (n : β) : ∀ l : List (List UInt8 × β), mput (smap g l) (.s s) (g n) = smap g (aput l s n)
 | [] => rfl
 | p :: ps => by
   have ih := mput_smap g s n ps
   unfold smap at ih ⊢
   simp only [List.map_cons, mput, aput, MK.s.injEq]
   by_cases h : p.1 = s
   ·simp only [h, if_true, List.map_cons]
   ·simp only [h, if_false, List.map_cons, ih]
theorem mdel_smap (g : β → IV) (l : List (List UInt8 × β)) (s : List UInt8) : mdel (smap g l) (.s s) = smap g (adel l s) := by
 unfold mdel adel smap
 rw [List.filter_map]
 congr 2
 funext p
 simp
theorem afind_mem {l : List (List UInt8 × β)} {s : List UInt8} {n : β} (h : afind l s = some n) : (s, n) ∈ l := by
 unfold afind at h
 obtain ⟨p, h1, h2⟩ := Option.map_eq_some_iff.1 h
 have h3 := List.find?_some h1
 have h4 := List.mem_of_find?_eq_some h1
 simp only [decide_eq_true_eq] at h3
 obtain ⟨a, b⟩ := p
 simp only at h2 h3
 subst h2 h3
 exact h4
theorem smap_length (g : β → IV) (l : List (List UInt8 × β)) : (smap g l).length = l.length := by simp [smap]
end
theorem sortS_length (l : List (List UInt8)) : (sortS l).length = l.length := List.length_mergeSort l
theorem AWP.merge {C : Cfg} {Y : Type} (TE : Y → Env) (TH : Y → AH) (k : Nat) {c : Code} {e : Env} {H : AH} {q : Post} (hk : ∀ y, q.x k (TE y) (TH y))
 (h : AWP C c e H { q with x := fun id e' H' => bif Nat.beq id k then (∃ y, Ent C.N C.base e' H' (TE y) (TH y)) else q.x id e' H' }) : AWP C c e H q :=
 ⟨fun lo ρ ι a w hE hS hM => wpIn_mono (h.run lo ρ ι a w hE hS hM) fun ex a' w' hq => by
  cases ex with
  | exit id =>
    obtain ⟨e', H', ρ', ι', hx, p1, p2, p3, m⟩ := hq
    cases hb : Nat.beq id k with
    | true =>
      have := Nat.eq_of_beq_eq_true hb
      subst this
      simp only [hb, cond_true] at hx
      obtain ⟨y, hent⟩ := hx
      obtain ⟨ρ'', ι'', q1, q2, q3⟩ := hent.run ρ' ι' a' w' p1 p2
      exact ⟨_, _, ρ'', ι'', hk y, q1, q2, p3.trans q3, m.went q3⟩
    | false =>
      simp only [hb, cond_false] at hx
      exact ⟨e', H', ρ', ι', hx, p1, p2, p3, m⟩
  | _ => exact hq⟩
theorem AWP.ahead {P : Prop} {C : Cfg} {b : Code} {q : Post} (e : Env) (H : AH) (h : AWP C b e H q → P) (k : AWP C b e H q) : P := h k
theorem not_t {b : Bool} (h : (!b) = true) : b = false := by cases b <;> simp_all
theorem not_f {b : Bool} (h : (!b) = false) : b = true := by cases b <;> simp_all
end Go.Proofs.YtgfkepebfaiepaaGreatDoor.Ax

namespace Go.Proofs.YtgfkepebfaiepaaGreatDoor.Ax
open Go.ChangeShapes Go.WideShapes Go.ChangeAt Go.RowKit Go.Deep
inductive AT where
 | int (k : IntKind)
 | bool
 | str
 | bytes
 | sl (fs : List AT)
mutual
def AT.fits (P : Program) : AT → TypeId → Prop
 | .int k, t => P.underlying t = some (.int k)
 | .bool, t => P.underlying t = some .bool
 | .str, t => P.underlying t = some .string
 | .bytes, t => ∃ e, P.underlying t = some (.slice e) ∧ P.underlying e = some (.int .u8) ∧ P.cellsOf e = 1
 | .sl fs, t => ∃ e, P.underlying t = some (.slice e) ∧ P.cellsOf e = fs.length ∧ fs.length ≠ 0 ∧ ((∃ a, fs = [a] ∧ AT.fitss P fs [⟨0, e⟩] 0) ∨ ∃ F : Array Field, P.underlying e = some (.struct F) ∧ AT.fitss P fs (F.toList.map fun f => ⟨f.offset, f.type⟩) 0)
def AT.fitss (P : Program) : List AT → List (Nat × TypeId) → Nat → Prop
 | [], F, _ => F = []
 | a :: fs, F, off => ∃ f G, F = f :: G ∧ f.1 = off ∧ P.cellsOf f.2 = 1 ∧ AT.fits P a f.2 ∧ AT.fitss P fs G (off + 1)
end
mutual
def AT.fitsB (P : Program) : AT → TypeId → Bool
 | .int k, t => match P.underlying t with
   | some (.int k') => decide (k' = k)
   | _ => false
 | .bool, t => match P.underlying t with
   | some .bool => true
   | _ => false
 | .str, t => match P.underlying t with
   | some .string => true
   | _ => false
 | .bytes, t => match P.underlying t with
   | some (.slice e) => (match P.underlying e with
     | some (.int .u8) => true
     | _ => false) && Nat.beq (P.cellsOf e) 1
   | _ => false
 | .sl fs, t => match P.underlying t with
   | some (.slice e) => Nat.beq (P.cellsOf e) fs.length && (!(Nat.beq fs.length 0) && (match P.underlying e with
     | some (.struct F) => AT.fitssB P fs (F.toList.map fun f => (f.offset, f.type)) 0
     | _ => Nat.beq fs.length 1 && AT.fitssB P fs [(0, e)] 0))
   | _ => false
def AT.fitssB (P : Program) : List AT → List (Nat × TypeId) → Nat → Bool
 | [], F, _ => F.isEmpty
 | a :: fs, F, off => match F with
   | [] => false
   | f :: G => Nat.beq f.1 off && (Nat.beq (P.cellsOf f.2) 1 && (AT.fitsB P a f.2 && AT.fitssB P fs G (off + 1)))
end
mutual
theorem fits_of {P : Program} : ∀ (a : AT) (t : TypeId), a.fitsB P t = true → a.fits P t
 | .int k, t, h => by
   simp only [AT.fitsB] at h
   simp only [AT.fits]
   split at h
   ·rename_i k' hk
    simp only [decide_eq_true_eq] at h
    subst h
    exact hk
   ·cases h
 | .bool, t, h => by
   simp only [AT.fitsB] at h
   simp only [AT.fits]
   split at h
   ·assumption
   ·cases h
 | .str, t, h => by
   simp only [AT.fitsB] at h
   simp only [AT.fits]
   split at h
   ·assumption
   ·cases h
 | .bytes, t, h => by
   simp only [AT.fitsB] at h
   simp only [AT.fits]
   split at h
   ·rename_i e he
    rw [Bool.and_eq_true] at h
    obtain ⟨h1, h2⟩ := h
    split at h1
    ·rename_i hu
     exact ⟨e, he, hu, Nat.eq_of_beq_eq_true h2⟩
    ·cases h1
   ·cases h
 | .sl fs, t, h => by
   simp only [AT.fitsB] at h
   simp only [AT.fits]
   split at h
   ·rename_i e he
    rw [Bool.and_eq_true, Bool.and_eq_true] at h
    obtain ⟨h1, h2, h3⟩ := h
    refine ⟨e, he, Nat.eq_of_beq_eq_true h1, fun h0 => by (rw [h0] at h2; cases h2), ?_⟩
    split at h3
    ·rename_i F hF
     exact .inr ⟨F, hF, fitss_of fs _ 0 h3⟩
    ·rw [Bool.and_eq_true] at h3
     obtain ⟨a, ha⟩ := List.length_eq_one_iff.1 (Nat.eq_of_beq_eq_true h3.1)
     exact .inl ⟨a, ha, fitss_of fs _ 0 h3.2⟩
   ·cases h
theorem fitss_of {P : Program} : ∀ (fs : List AT) (F : List (Nat × TypeId)) (off : Nat), AT.fitssB P fs F off = true → AT.fitss P fs F off
 | [], F, off, h => by
   simp only [AT.fitssB] at h
   simp only [AT.fitss]
   exact List.isEmpty_iff.1 h
 | a :: fs, F, off, h => by
   simp only [AT.fitssB] at h
   simp only [AT.fitss]
   split at h
   ·cases h
   ·rename_i f G
    rw [Bool.and_eq_true, Bool.and_eq_true, Bool.and_eq_true] at h
    obtain ⟨h1, h2, h3, h4⟩ := h
    exact ⟨f, G, rfl, Nat.eq_of_beq_eq_true h1, Nat.eq_of_beq_eq_true h2, fits_of a f.2 h3, fitss_of fs G (off + 1) h4⟩
end
mutual
def AT.Sh : AT → IV → Prop
 | .int k, x => ∃ n, x = .v (.int k n) ∧ (Lit.int k n).wf = true
 | .bool, x => ∃ b, x = .v (.bool b)
 | .str, x => ∃ l, x = .str l ∧ l.length ≤ 9223372036854775807
 | .bytes, x => ∃ l, x = .bs l ∧ l.length ≤ 9223372036854775807
 | .sl fs, x => ∃ n f, x = .sl fs.length n f ∧ n ≤ 9223372036854775807 ∧ ∀ i, i < n → AT.Shs fs (f i)
def AT.Shs : List AT → List IV → Prop
 | [], xs => xs = []
 | a :: fs, xs => ∃ y ys, xs = y :: ys ∧ AT.Sh a y ∧ AT.Shs fs ys
end
def immOf (w : World) : Imm := fun b o => match w.cell? ⟨b, o, none⟩ with
 | some v => bif v.oneCell' then some v else none
 | none => none
theorem immOf_cell {w : World} {b o : Nat} {v : Value} (h : immOf w b o = some v) : w.cell? ⟨b, o, none⟩ = some v ∧ v.oneCell' = true := by
 unfold immOf at h
 split at h
 ·rename_i u hu
  cases h1 : u.oneCell' with
  | true => rw [h1] at h; simp only [cond_true, Option.some.injEq] at h; subst h; exact ⟨hu, h1⟩
  | false => rw [h1] at h; cases h
 ·cases h
theorem immOf_mk {w : World} {b o : Nat} {v : Value} (h : w.cell? ⟨b, o, none⟩ = some v) (h1 : v.oneCell' = true) : immOf w b o = some v := by
 unfold immOf
 rw [h]
 simp [h1]
theorem SR.start (w : World) : SR (fun _ => none) (immOf w) ⟨0, []⟩ w where
 imm _ _ _ h := (immOf_cell h).1
 one _ _ _ h := (immOf_cell h).2
 rel p hp := by cases hp
 fresh _ _ := rfl
 nodup := List.nodup_nil
 apart p hp := by cases hp
 iapart p hp := by cases hp
 lt p hp := by cases hp
theorem fitss_at {P : Program} : ∀ {fs : List AT} {F : List (Nat × TypeId)} {off : Nat}, AT.fitss P fs F off → F.length = fs.length ∧ ∀ (j : Nat) (f : Nat × TypeId), F[j]? = some f → f.1 = off + j ∧ P.cellsOf f.2 = 1
 | [], F, off, h => by simp only [AT.fitss] at h; subst h; exact ⟨rfl, fun j f hj => by simp at hj⟩
 | a :: fs, F, off, h => by
   simp only [AT.fitss] at h
   obtain ⟨f, G, rfl, h1, h2, _, h3⟩ := h
   obtain ⟨g1, g2⟩ := fitss_at h3
   refine ⟨by simp [g1], fun j f' hj => ?_⟩
   cases j with
   | zero =>
     simp only [List.getElem?_cons_zero, Option.some.injEq] at hj
     subst hj
     exact ⟨h1, h2⟩
   | succ j =>
     rw [List.getElem?_cons_succ] at hj
     obtain ⟨k1, k2⟩ := g2 j f' hj
     exact ⟨by omega, k2⟩
section
variable {H : Type} {enc : TypeId × Value → H} {P : Program} {w : World} {base : Nat} {spare : Nat → Bool} {held : Bool}
theorem cell_spot {a : Addr} {v : Value} (h : w.cell? a = some v) : a.spot = none := by
 unfold World.cell? at h
 split at h
 ·cases hs : a.spot with
  | none => rfl
  | some x => rw [hs] at h; cases h
 ·cases h
theorem IV.one_val {x : IV} {v : Value} {ι : Imm} (h : x.one = true) (hx : x.R ι v) : v.oneCell' = true := AV.one_ok (ρ := fun _ => none) (x := .iv x) h (by simpa only [AV.R] using hx)
theorem Sh_one : ∀ (a : AT) (x : IV), a.Sh x → x.one = true
 | .int k, x, h => by simp only [AT.Sh] at h; obtain ⟨n, rfl, _⟩ := h; rfl
 | .bool, x, h => by simp only [AT.Sh] at h; obtain ⟨b, rfl⟩ := h; rfl
 | .str, x, h => by simp only [AT.Sh] at h; obtain ⟨l, rfl, _⟩ := h; rfl
 | .bytes, x, h => by simp only [AT.Sh] at h; obtain ⟨l, rfl, _⟩ := h; rfl
 | .sl fs, x, h => by simp only [AT.Sh] at h; obtain ⟨n, f, rfl, _⟩ := h; rfl
theorem Shs_one {ι : Imm} : ∀ (fs : List AT) (xs : List IV) (vs : List Value), AT.Shs fs xs → IV.Rs ι xs vs → (∀ v ∈ vs, v.oneCell' = true) ∧ vs.length = fs.length
 | [], xs, vs, h, hr => by
   simp only [AT.Shs] at h; subst h
   simp only [IV.Rs] at hr; subst hr
   exact ⟨fun v hv => by (cases hv), rfl⟩
 | a :: fs, xs, vs, h, hr => by
   simp only [AT.Shs] at h
   obtain ⟨y, ys, rfl, h1, h2⟩ := h
   simp only [IV.Rs] at hr
   obtain ⟨u, us, rfl, r1, r2⟩ := hr
   obtain ⟨g1, g2⟩ := Shs_one fs ys us h2 r2
   exact ⟨fun v hv => by
    rcases List.mem_cons.1 hv with rfl | hv
    ·exact IV.one_val (Sh_one a y h1) r1
    ·exact g1 v hv, by simp [g2]⟩
mutual
theorem open_at : ∀ (a : AT) (t : TypeId) (fuel : Nat) (v : Value) (y : DataW H × List MemPlace), a.fits P t → DataW.trod enc P w base spare held fuel t [v] = some y → ∃ x, a.Sh x ∧ IV.R (immOf w) x v
 | .int k, t, fuel, v, y, hf, h => by
   simp only [AT.fits] at hf
   obtain ⟨n, h1, _, h2⟩ := DataW.trod_int hf h
   simp only [List.cons.injEq, and_true] at h1
   subst h1
   exact ⟨.v (.int k n), by simp only [AT.Sh]; exact ⟨n, rfl, h2⟩, by simp only [IV.R]⟩
 | .bool, t, fuel, v, y, hf, h => by
   simp only [AT.fits] at hf
   obtain ⟨b, h1, _⟩ := DataW.trod_bool hf h
   simp only [List.cons.injEq, and_true] at h1
   subst h1
   exact ⟨.v (.bool b), by simp only [AT.Sh]; exact ⟨b, rfl⟩, by simp only [IV.R]⟩
 | .str, t, fuel, v, y, hf, h => by
   simp only [AT.fits] at hf
   obtain ⟨s, h1, _, h2⟩ := DataW.trod_string hf h
   simp only [List.cons.injEq, and_true] at h1
   subst h1
   have hmx : maxLen = 9223372036854775807 := by decide
   rw [hmx] at h2
   refine ⟨.str s.data.toList, by simp only [AT.Sh]; exact ⟨_, rfl, by rw [Array.length_toList]; exact h2⟩, by simp [IV.R]⟩
 | .bytes, t, fuel, v, y, hf, h => by
   simp only [AT.fits] at hf
   obtain ⟨e, ht, he, hc⟩ := hf
   have hmx : maxLen = 9223372036854775807 := by decide
   rcases open_ints ht he hc h with ⟨hcs, _⟩ | ⟨a, len, cap, zs, hcs, _, hle, hm, hz, hx, hcell, hwz⟩
   ·simp only [List.cons.injEq, and_true] at hcs
    subst hcs
    refine ⟨.bs [], by simp only [AT.Sh]; exact ⟨[], rfl, by simp⟩, ?_⟩
    simp only [IV.R]
    exact ⟨none, 0, rfl, Nat.le_refl _, Nat.zero_le _, fun k hk => by simp at hk⟩
   ·simp only [List.cons.injEq, and_true] at hcs
    subst hcs
    have hzl : len ≤ zs.length := by
     rw [hz]
     split <;> omega
    refine ⟨.bs ((zs.take len).map fun z => UInt8.ofNat z.toNat), by simp only [AT.Sh]; exact ⟨_, rfl, by simp; omega⟩, ?_⟩
    simp only [IV.R]
    refine ⟨some a, cap, by simp; omega, by simp; omega, hm, fun k hk => ?_⟩
    have hk' : k < len := by simp at hk; omega
    have h0 := hcell 0 (by omega)
    have hs : a.spot = none := by rw [show a.add 0 = a by simp [Addr.add]] at h0; exact cell_spot h0
    have hkc := hcell k (by omega)
    rw [add_none' hs] at hkc
    refine ⟨a, rfl, hs, immOf_mk ?_ rfl⟩
    rw [hkc]
    have hw := hwz (zs.getD k 0) (by simp [List.getD, show k < zs.length by omega])
    have hb := bounds_u8 hw
    have e1 : ((zs.take len).map (fun z => UInt8.ofNat z.toNat)).getD k 0 = UInt8.ofNat (zs.getD k 0).toNat := by
     simp [List.getD, hk', show k < zs.length by omega]
    rw [e1, UInt8.toNat_ofNat']
    congr 2
    omega
 | .sl fs, t, fuel, v, y, hf, h => by
   simp only [AT.fits] at hf
   obtain ⟨e, ht, hc, hz, hfe⟩ := hf
   have hmx : maxLen = 9223372036854775807 := by decide
   rcases open_slice ht h with ⟨hcs, _⟩ | ⟨a, len, cap, m, n, D, Pl, hcs, _, hl, hm, hmm, _, hi⟩
   ·simp only [List.cons.injEq, and_true] at hcs
    subst hcs
    refine ⟨.sl fs.length 0 fun _ => [], by simp only [AT.Sh]; exact ⟨0, _, rfl, by omega, fun i hi => by omega⟩, ?_⟩
    simp only [IV.R]
    exact ⟨none, 0, rfl, Nat.le_refl _, Nat.zero_le _, fun k hk => by omega⟩
   ·simp only [List.cons.injEq, and_true] at hcs
    subst hcs
    have hlm : len ≤ m := by rw [hmm]; split <;> omega
    have each : ∀ i, i < len → ∃ xs vs, AT.Shs fs xs ∧ IV.Rs (immOf w) xs vs ∧ ∀ j u, vs[j]? = some u → w.cell? ((a.add (i * fs.length)).add j) = some u := fun i hil => by
     obtain ⟨cs', hcell, htr⟩ := hi i (by omega)
     rw [hc] at hcell
     obtain ⟨_, hcl, hat⟩ := World.cells?_some hcell
     have hcell' : ∀ j u, cs'[j]? = some u → w.cell? ((a.add (i * fs.length)).add j) = some u := fun j u hj => by
      have : j < fs.length := by rw [← hcl]; exact (List.getElem?_eq_some_iff.1 hj).1
      rw [hat j this]; exact hj
     rcases hfe with ⟨b, hfs, hft⟩ | ⟨F, hF, hft⟩
     ·obtain ⟨xs, h1, h2⟩ := open_ats fs _ 0 cs' hft hcl (fun j f hj => by
       have hj0 : j = 0 := by
        rcases Nat.eq_zero_or_pos j with h0 | h0
        ·exact h0
        ·rw [List.getElem?_eq_none (by simp; omega)] at hj; cases hj
       subst hj0
       simp only [List.getElem?_cons_zero, Option.some.injEq] at hj
       subst hj
       rw [hfs] at hcl
       obtain ⟨v', rfl⟩ := List.length_eq_one_iff.1 hcl
       exact ⟨n, v', _, rfl, htr⟩)
      exact ⟨xs, cs', h1, h2, hcell'⟩
     ·obtain ⟨ys, n', _, _, _, hyl, hfd⟩ := DataW.trod_struct hF htr
      obtain ⟨hfl, hfo⟩ := fitss_at hft
      obtain ⟨xs, h1, h2⟩ := open_ats fs _ 0 cs' hft hcl (fun j f hj => by
       rw [List.getElem?_map] at hj
       obtain ⟨g, hg, rfl⟩ := Option.map_eq_some_iff.1 hj
       obtain ⟨k1, k2⟩ := hfo j _ (by rw [List.getElem?_map, hg]; rfl)
       simp only [Nat.zero_add] at k1 k2
       have hjl : j < fs.length := by rw [← hfl, List.length_map]; exact (List.getElem?_eq_some_iff.1 hg).1
       have h1 := hfd j g (by simpa using hg)
       rw [k1, k2] at h1
       have hone' : (cs'.drop j).take 1 = [cs'[j]'(by omega)] := by
        rw [List.drop_eq_getElem_cons (by omega)]
        rfl
       rw [hone'] at h1
       have hys : ys[j]? = some (ys[j]'(by rw [hyl]; simpa using (List.getElem?_eq_some_iff.1 hg).1)) := List.getElem?_eq_getElem _
       exact ⟨n', _, _, List.getElem?_eq_getElem (by omega), h1.trans hys⟩)
      exact ⟨xs, cs', h1, h2, hcell'⟩
    let f : Nat → List IV := fun i => if h : i < len then Classical.choose (each i h) else []
    have hfi : ∀ i (h : i < len), f i = Classical.choose (each i h) := fun i h => by simp only [f, dif_pos h]
    refine ⟨.sl fs.length len f, by simp only [AT.Sh]; exact ⟨len, f, rfl, by omega, fun i hil => by rw [hfi i hil]; exact (Classical.choose_spec (each i hil)).choose_spec.1⟩, ?_⟩
    simp only [IV.R]
    refine ⟨some a, cap, rfl, hl, hm, fun k hk => ?_⟩
    obtain ⟨vs, g1, g2, g3⟩ := Classical.choose_spec (each k hk)
    rw [← hfi k hk] at g1 g2
    obtain ⟨g4, g5⟩ := Shs_one fs _ _ g1 g2
    have hs : a.spot = none := by
     obtain ⟨vs0, q1, q2, q3⟩ := Classical.choose_spec (each 0 (by omega))
     obtain ⟨_, q5⟩ := Shs_one fs _ _ q1 q2
     obtain ⟨v0, vr, hvs⟩ : ∃ v0 vr, vs0 = v0 :: vr := by
      cases vs0 with
      | nil => simp at q5; omega
      | cons v0 vr => exact ⟨v0, vr, rfl⟩
     have h0 := q3 0 v0 (by rw [hvs]; rfl)
     rw [Nat.zero_mul, show (a.add 0).add 0 = a by simp [Addr.add]] at h0
     exact cell_spot h0
    refine ⟨a, vs, rfl, hs, g2, g5, fun j u hj => ?_⟩
    have hcl := g3 j u hj
    rw [add_none' hs, add_none] at hcl
    exact immOf_mk hcl (g4 u (List.mem_of_getElem? hj))
theorem open_ats : ∀ (fs : List AT) (F : List (Nat × TypeId)) (off : Nat) (cs : List Value), AT.fitss P fs F off → cs.length = fs.length → (∀ (j : Nat) (f : Nat × TypeId), F[j]? = some f → ∃ (m : Nat) (v : Value) (y : DataW H × List MemPlace), cs[j]? = some v ∧ DataW.trod enc P w base spare held m f.2 [v] = some y) → ∃ xs, AT.Shs fs xs ∧ IV.Rs (immOf w) xs cs
 | [], F, off, cs, _, hl, _ => ⟨[], by simp only [AT.Shs], by have : cs = [] := List.eq_nil_of_length_eq_zero hl; subst this; simp only [IV.Rs]⟩
 | a :: fs, F, off, cs, hf, hl, h => by
   simp only [AT.fitss] at hf
   obtain ⟨f, G, rfl, _, _, h1, h2⟩ := hf
   obtain ⟨m, v, y, hv, ht⟩ := h 0 f rfl
   cases cs with
   | nil => simp at hl
   | cons c cs =>
     simp only [List.getElem?_cons_zero, Option.some.injEq] at hv
     subst hv
     obtain ⟨x, g1, g2⟩ := open_at a f.2 m c y h1 ht
     obtain ⟨xs, g3, g4⟩ := open_ats fs G (off + 1) cs h2 (by simpa using hl) (fun j f' hj => by
      obtain ⟨m', v', y', k1, k2⟩ := h (j + 1) f' (by simpa using hj)
      exact ⟨m', v', y', by simpa using k1, k2⟩)
     exact ⟨x :: xs, by simp only [AT.Shs]; exact ⟨x, xs, rfl, g1, g3⟩, by simp only [IV.Rs]; exact ⟨c, cs, rfl, g2, g4⟩⟩
end
theorem open_arg {a : AT} {t : TypeId} {v : Value} {d : DataW H} {ps : List MemPlace} {r : Reach} {b0 : Nat} (hf : a.fits P t) (hval : Value.okWide P w r b0 t v) (hd : DataW.Trod enc P w base spare held t v d ps) : ∃ x, a.Sh x ∧ IV.R (immOf w) x v := by
 have hc : v.cells.toList = [v] := by
  cases a with
  | int k => simp only [AT.fits] at hf; obtain ⟨n, rfl⟩ := okWide_int hf hval; rfl
  | bool => simp only [AT.fits] at hf; obtain ⟨n, rfl⟩ := okWide_bool hf hval; rfl
  | str => simp only [AT.fits] at hf; obtain ⟨n, rfl⟩ := okWide_string hf hval; rfl
  | bytes => simp only [AT.fits] at hf; obtain ⟨e, ht, _⟩ := hf; obtain ⟨a, l, c, rfl⟩ := okWide_slice ht hval; rfl
  | sl fs => simp only [AT.fits] at hf; obtain ⟨e, ht, _⟩ := hf; obtain ⟨a, l, c, rfl⟩ := okWide_slice ht hval; rfl
 obtain ⟨fuel, h⟩ := hd
 rw [hc] at h
 exact open_at a t fuel v _ hf h
end
def Law (P : Program) (F : FuncId) (args : List AV) : Prop := AFn P F args ⟨0, []⟩ (fun _ : Unit => AV.bool true) fun _ => ⟨0, []⟩
theorem Law.calls {P : Program} {F : FuncId} {args : List AV} (h : Law P F args) {W : World} (hG : GOk (immOf W)) {vs : List Value} (hr : AV.Rs (fun _ => none) (immOf W) args vs) : Calls P F vs.toArray W fun e W' => e = .returned (.bool true) ∧ Below W.heap.size W W' := by
 refine (h.run _ _ W vs hG (SR.start W) hr).mono fun e w' hp => ?_
 cases e with
 | returned v =>
   obtain ⟨r, H', ρ', ι', ⟨x, e1, e2⟩, h1, h2, h3⟩ := hp
   subst e1 e2
   simp only [AV.R, IV.R] at h1
   subst h1
   have ht := h3.touch
   exact ⟨rfl, ht.os, ht.tape, ht.output, ht.size, fun k hk => ht.block k hk fun ⟨p, hp, _⟩ => by cases hp⟩
 | panicked ch => obtain ⟨v, _, r, H', ρ', ι', h, _⟩ := hp; exact h.elim
 | outgrown => exact hp.elim
end Go.Proofs.YtgfkepebfaiepaaGreatDoor.Ax
