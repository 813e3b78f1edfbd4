/-
  States that say less: slots forgotten, handles by other names, a nil slice as an empty row.
-/
import Derived.Test.YtgfkepebfaiepaaGreatDoorBxV
namespace Go.Proofs.YtgfkepebfaiepaaGreatDoor.Ax
open Go.RowKit
structure AVE (x y : AV) : Prop where
 run : ∀ ρ ι v, x.R ρ ι v → y.R ρ ι v
structure ChE (c d : Chunk) : Prop where
 run : ∀ ρ ι hv w, c.R ρ ι hv w → d.R ρ ι hv w
theorem AVE.refl (x : AV) : AVE x x := ⟨fun _ _ _ h => h⟩
theorem AVE.of_eq {x y : AV} (h : x = y) : AVE x y := by subst h; exact .refl x
theorem AVE.junk (x : AV) : AVE x .junk := ⟨fun ρ ι v _ => AV.R_junk ρ ι v⟩
theorem AVE.nil (h sz : Nat) : AVE .nilSl (.row h sz 0 0) := ⟨fun ρ ι v hx => by
 simp only [AV.R, IV.R] at hx ⊢
 exact ⟨none, 0, hx, Nat.le_refl _, Nat.zero_le _, fun h => absurd rfl h⟩⟩
theorem AVE.nilBs : AVE .nilSl (.iv (.bs [])) := ⟨fun ρ ι v hx => by
 simp only [AV.R, IV.R] at hx ⊢
 exact ⟨none, 0, hx, Nat.le_refl _, Nat.zero_le _, fun k hk => absurd hk (Nat.not_lt_zero k)⟩⟩
theorem ChE.refl (c : Chunk) : ChE c c := ⟨fun _ _ _ _ h => h⟩
theorem ChE.of_eq {c d : Chunk} (h : c = d) : ChE c d := by subst h; exact .refl c
theorem ChE.row {e sz n n' : Nat} {f f' : Nat → List IV} (hn : n' ≤ n) (hf : ∀ i, i < n' → f i = f' i) : ChE (.rowc e sz n f) (.rowc e sz n' f') := ⟨fun ρ ι hv w h => by
 rcases h with ⟨h1, h2, h3⟩ | ⟨b, arr, fr, h1, h2, h3, h4, h5, h6, h7⟩
 ·exact .inl ⟨h1, by omega, h3⟩
 ·exact .inr ⟨b, arr, fr, h1, h2, h3, h4, h5, Nat.le_trans (Nat.mul_le_mul_right _ hn) h6, fun i hi => by rw [← hf i hi]; exact h7 i (by omega)⟩⟩
theorem ChE.brow {e : Nat} {l l' : List UInt8} (hl : l = l') : ChE (.brow e l) (.brow e l') := .of_eq (by rw [hl])
theorem ChE.bytes {e : Nat} {l : List UInt8} (n : Nat) : ChE (.brow e l) (.brow e (l.take n)) := ⟨fun ρ ι hv w h => by
 rcases h with ⟨h1, h2, h3⟩ | ⟨b, arr, fr, h1, h2, h3, h4, h5, h6, h7⟩
 ·exact .inl ⟨h1, by rw [h2]; simp, h3⟩
 ·refine .inr ⟨b, arr, fr, h1, h2, h3, h4, h5, Nat.le_trans (by rw [List.length_take]; exact Nat.min_le_right ..) h6, fun i hi => ?_⟩
  rw [List.length_take] at hi
  rw [h7 i (by omega)]
  simp [List.getD, show i < n by omega]⟩
theorem ChE.map {kk : Option IntKind} {m m' : List (MK × IV)} (hp : m.Perm m') : ChE (.map kk m) (.map kk m') := ⟨fun ρ ι hv w h => by
 obtain ⟨b, es, clock, h1, h2, h3, h4⟩ := h
 refine ⟨b, es, clock, h1, h2, h3, ⟨fun p hq => h4.kind p (hp.mem_iff.2 hq), ?_, (hp.map _).nodup_iff.1 h4.keys, h4.born, h4.clock⟩⟩
 obtain ⟨l, hl, hz⟩ := h4.zip
 have : ∃ l', l'.Perm l ∧ ZipR (IV.R ι) l' m' := by
  clear h4 h3 hl
  induction hp generalizing l with
  | nil => exact ⟨l, .refl _, hz⟩
  | cons x hp ih =>
    cases l with
    | nil => simp only [ZipR] at hz; cases hz
    | cons e es =>
      obtain ⟨p, ps, e1, h1, h2, h3⟩ := hz
      injection e1 with e1 e2
      subst e1 e2
      obtain ⟨l', a, b⟩ := ih es h3
      exact ⟨e :: l', a.cons e, x, _, rfl, h1, h2, b⟩
  | swap x y m0 =>
    cases l with
    | nil => simp only [ZipR] at hz; cases hz
    | cons e es =>
      obtain ⟨p, ps, e1, h1, h2, h3⟩ := hz
      injection e1 with e1 e2
      subst e1 e2
      cases es with
      | nil => simp only [ZipR] at h3; cases h3
      | cons e' es' =>
        obtain ⟨p', ps', e1, g1, g2, g3⟩ := h3
        injection e1 with e1 e2
        subst e1 e2
        exact ⟨e' :: e :: es', .swap .., x, _, rfl, g1, g2, y, _, rfl, h1, h2, g3⟩
  | trans hp1 hp2 ih1 ih2 =>
    obtain ⟨l1, a1, b1⟩ := ih1 l hz
    obtain ⟨l2, a2, b2⟩ := ih2 l1 b1
    exact ⟨l2, a2.trans a1, b2⟩
 obtain ⟨l', a, b⟩ := this
 exact ⟨l', a.trans hl, b⟩⟩
def cellsE : List AV → List AV → Prop
 | [], ys => ys = []
 | x :: xs, ys => match ys with
   | y :: ys => AVE x y ∧ cellsE xs ys
   | [] => False
theorem ChE.cells {e : Nat} {cs ds : List AV} (h : cellsE cs ds) : ChE (.cells e cs) (.cells e ds) := ⟨fun ρ ι hv w hc => by
 obtain ⟨b, vs, h1, h2, h3, h4⟩ := hc
 refine ⟨b, vs, h1, h2, h3, ?_⟩
 clear h3
 induction cs generalizing ds vs with
 | nil => simp only [cellsE] at h; subst h; exact h4
 | cons x xs ih =>
   cases ds with
   | nil => exact h.elim
   | cons y ys =>
     simp only [AV.Rs] at h4 ⊢
     obtain ⟨u, us, rfl, r, rs⟩ := h4
     exact ⟨u, us, rfl, h.1.run _ _ _ r, ih h.2 us rs⟩⟩
def sigO (l : List (Option Nat)) (m k : Nat) : Nat := match l[k]? with
 | some (some a) => a
 | _ => m + k
def envE (σ : Nat → Nat) (e : Env) : Env → Prop
 | [] => True
 | p :: ps => AVE (e.get p.1) (p.2.ren σ) ∧ envE σ e ps
def chE (σ : Nat → Nat) (l : List (Option Nat)) (H : AH) : List (Nat × Chunk) → Prop
 | [] => True
 | p :: ps => (match l[p.1]? with
   | some (some a) => ∃ c, H.get a = some c ∧ ChE c (p.2.ren σ)
   | some none => match p.2 with
     | .rowc _ _ 0 _ => True
     | .brow _ [] => True
     | _ => False
   | none => False) ∧ chE σ l H ps
def entOk (B : Nat) (l : List (Option Nat)) (H H' : AH) : Bool :=
 Nat.beq l.length H'.next && Nat.ble B H'.next && (List.range B).all (fun k => match l[k]? with | some (some a) => Nat.beq a k | _ => false) && nod l && l.all (fun o => match o with | some a => Nat.blt a H.next | none => true) && useOk.nodupB (H'.ch.map (·.1))
where
 nod : List (Option Nat) → Bool
  | [] => true
  | some a :: xs => !(xs.any (fun o => match o with | some b => Nat.beq a b | none => false)) && nod xs
  | none :: xs => nod xs
theorem nod_spec : ∀ {l : List (Option Nat)}, entOk.nod l = true → ∀ (i j : Nat) a, l[i]? = some (some a) → l[j]? = some (some a) → i = j
 | [], _, i, j, a, h, _ => by simp at h
 | x :: xs, hn, i, j, a, hi, hj => by
   have hxs : entOk.nod xs = true := by
    cases x with
    | none => exact hn
    | some b => simp only [entOk.nod, Bool.and_eq_true] at hn; exact hn.2
   have hx : ∀ (k : Nat), x = some a → xs[k]? ≠ some (some a) := fun k hxa hk => by
    subst hxa
    simp only [entOk.nod, Bool.and_eq_true, Bool.not_eq_true', List.any_eq_false] at hn
    have := hn.1 _ (List.mem_of_getElem? hk)
    simp at this
   cases i with
   | zero =>
     cases j with
     | zero => rfl
     | succ j =>
       simp only [List.getElem?_cons_zero, Option.some.injEq] at hi
       rw [List.getElem?_cons_succ] at hj
       exact absurd hj (hx j hi)
   | succ i =>
     cases j with
     | zero =>
       simp only [List.getElem?_cons_zero, Option.some.injEq] at hj
       rw [List.getElem?_cons_succ] at hi
       exact absurd hi (hx i hj)
     | succ j =>
       rw [List.getElem?_cons_succ] at hi hj
       rw [nod_spec hxs i j a hi hj]
theorem Ent.mk' {N B : Nat} {e e' : Env} {H H' : AH} (l : List (Option Nat)) (hok : entOk B l H H' = true) (henv : envE (sigO l H.next) e e') (hch : chE (sigO l H.next) l H H'.ch) : Ent N B e H e' H' := by
 refine ⟨fun ρ ι a w hE hS => ?_⟩
 simp only [entOk, Bool.and_eq_true] at hok
 obtain ⟨⟨⟨⟨⟨o1, o2⟩, o3⟩, o4⟩, o5⟩, o6⟩ := hok
 have hlen := Nat.eq_of_beq_eq_true o1
 have hB := Nat.le_of_ble_eq_true o2
 generalize hσ : sigO l H.next = σ at *
 let ρ' : Rho := fun k => match l[k]? with
  | some (some a) => ρ a
  | some none => some ⟨none, 0, fun _ => False⟩
  | none => none
 have hle : Rho.le (fun k => ρ (σ k)) ρ' := fun k hv hk => by
  rw [← hσ] at hk
  simp only [sigO] at hk
  simp only [ρ']
  cases hl : l[k]? with
  | none => rw [hl] at hk; rw [hS.fresh _ (by simp)] at hk; cases hk
  | some o =>
    cases o with
    | none => rw [hl] at hk; rw [hS.fresh _ (by simp)] at hk; cases hk
    | some a => rw [hl] at hk; exact ⟨hv, hk, rfl, rfl⟩
 have slot : ∀ t, (e'.get t).R ρ' ι (a.tmps.getD t undef) := fun t => by
  have key : ∀ (e'' : Env), envE σ e e'' → (e''.get t).R ρ' ι (a.tmps.getD t undef) := by
   intro e''
   induction e'' with
   | nil => intro _; simp [Env.get, AV.R]
   | cons p ps ih =>
     intro h
     simp only [Env.get]
     cases hb : Nat.beq p.1 t with
     | true =>
       have := Nat.eq_of_beq_eq_true hb
       subst this
       have h1 := h.1.run ρ ι _ (hE.slot p.1)
       exact AV.R_mono hle (Imm.le.refl _) _ _ ((AV.ren_R σ ρ ι p.2 _).1 h1)
     | false => exact ih h.2
  exact key e' henv
 have mem : ∀ p ∈ H'.ch, (∃ a c, l[p.1]? = some (some a) ∧ H.get a = some c ∧ ChE c (p.2.ren σ)) ∨ (l[p.1]? = some none ∧ ((∃ e sz f, p.2 = .rowc e sz 0 f) ∨ ∃ e, p.2 = .brow e [])) := by
  intro p hp
  have key : ∀ c : List (Nat × Chunk), chE σ l H c → p ∈ c → (∃ a c, l[p.1]? = some (some a) ∧ H.get a = some c ∧ ChE c (p.2.ren σ)) ∨ (l[p.1]? = some none ∧ ((∃ e sz f, p.2 = .rowc e sz 0 f) ∨ ∃ e, p.2 = .brow e [])) := by
   intro c
   induction c with
   | nil => intro _ hp; cases hp
   | cons q qs ih =>
     intro h hp
     rcases List.mem_cons.1 hp with rfl | hp
     ·have h1 := h.1
      split at h1
      ·rename_i a hl
       obtain ⟨c, h2, h3⟩ := h1
       exact .inl ⟨a, c, hl, h2, h3⟩
      ·rename_i hl
       refine .inr ⟨hl, ?_⟩
       split at h1
       ·rename_i e sz f he; exact .inl ⟨e, sz, f, he⟩
       ·rename_i e he; exact .inr ⟨e, he⟩
       ·exact h1.elim
      ·exact h1.elim
     ·exact ih h.2 hp
  exact key _ hch hp
 have hv_of : ∀ p ∈ H'.ch, ∀ hv, ρ' p.1 = some hv → (∃ a c, l[p.1]? = some (some a) ∧ (a, c) ∈ H.ch ∧ ρ a = some hv) ∨ (∀ k, ¬ hv.foot k) := fun p hp hv hh => by
  rcases mem p hp with ⟨a, c, h1, h2, _⟩ | ⟨h1, _⟩
  ·simp only [ρ', h1] at hh
   exact .inl ⟨a, c, h1, AH.get_mem h2, hh⟩
  ·simp only [ρ', h1, Option.some.injEq] at hh
   subst hh
   exact .inr fun k h => h
 refine ⟨ρ', ι, ⟨hE.glob, hE.size, slot⟩, ⟨hS.imm, hS.one, fun p hp => ?_, fun k hk => ?_, nodupB_spec o6, fun p hp q hq hpq x y hx hy k hk hk2 => ?_, fun p hp x hx k o v hk => ?_, fun p hp x hx k hk => ?_⟩, ⟨Touch.refl _ _, fun k ⟨p, hp, x, hx, hk⟩ => ?_, Imm.le.refl _, fun _ _ _ h => .inl h, fun k hv hk hh => ?_⟩⟩
 ·rcases mem p hp with ⟨a, c, h1, h2, h3⟩ | ⟨h1, h2⟩
  ·obtain ⟨hv, g1, g2⟩ := hS.hv h2
   have g3 := (Chunk.ren_R σ ρ ι hv w p.2).1 (h3.run _ _ _ _ g2)
   exact ⟨hv, by simp only [ρ', h1]; exact g1, g3.keep hle (Imm.le.refl _) fun _ _ => rfl⟩
  ·refine ⟨⟨none, 0, fun _ => False⟩, by simp only [ρ', h1], ?_⟩
   rcases h2 with ⟨e, sz, f, he⟩ | ⟨e, he⟩
   ·rw [he]; exact .inl ⟨rfl, rfl, fun _ h => h⟩
   ·rw [he]; exact .inl ⟨rfl, rfl, fun _ h => h⟩
 ·simp only [ρ', List.getElem?_eq_none (by omega : l.length ≤ k)]
 ·rcases hv_of p hp x hx with ⟨a, c, h1, h2, h3⟩ | h1
  ·rcases hv_of q hq y hy with ⟨a', c', g1, g2, g3⟩ | g1
   ·refine hS.apart _ h2 _ g2 (fun e => hpq ?_) x y h3 g3 k hk hk2
    have e : a = a' := e
    subst e
    exact nod_spec o4 _ _ _ h1 g1
   ·exact g1 k hk2
  ·exact h1 k hk
 ·rcases hv_of p hp x hx with ⟨a, c, h1, h2, h3⟩ | h1
  ·exact hS.iapart _ h2 x h3 k o v hk
  ·exact absurd hk (h1 k)
 ·rcases hv_of p hp x hx with ⟨a, c, h1, h2, h3⟩ | h1
  ·exact hS.lt _ h2 x h3 k hk
  ·exact absurd hk (h1 k)
 ·rcases hv_of p hp x hx with ⟨a, c, h1, h2, h3⟩ | h1
  ·exact .inl ⟨_, h2, x, h3, hk⟩
  ·exact absurd hk (h1 k)
 ·have := List.all_eq_true.1 o3 k (List.mem_range.2 hk)
  cases hl : l[k]? with
  | none => simp [hl] at this
  | some o =>
    cases o with
    | none => simp [hl] at this
    | some a =>
      simp only [hl] at this
      have := Nat.eq_of_beq_eq_true this
      subst this
      simp only [ρ', hl]
      exact ⟨hv, hh, rfl, rfl⟩
end Go.Proofs.YtgfkepebfaiepaaGreatDoor.Ax
