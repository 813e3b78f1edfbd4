/-
  Code: what follows, computed; loops; bodies.
-/
import Derived.Test.YtgfkepebfaiepaaGreatDoorBxT
namespace Go.Proofs.YtgfkepebfaiepaaGreatDoor.Ax
open Go.RowKit
inductive Pick where
 | done
 | take (i : Nat)
 | branch (l : List Nat)
def pickOp (C : Cfg) (ops : Array Oper) (listed : Array Bool) : Pick :=
 match Region.ready .any ops listed with
 | [] => .done
 | i :: is => match (i :: is).find? (safe C ops listed) with
   | some j => .take j
   | none => .branch (i :: is)
def allP : List Nat → (Nat → Prop) → Prop
 | [], _ => True
 | [i], F => F i
 | i :: is, F => F i ∧ allP is F
theorem allP_spec {l : List Nat} {F : Nat → Prop} (h : allP l F) : ∀ i ∈ l, F i := by
 induction l with
 | nil => intro i hi; cases hi
 | cons x xs ih =>
   cases xs with
   | nil => intro i hi; simp at hi; subst hi; exact h
   | cons y ys =>
     intro i hi
     rcases List.mem_cons.1 hi with rfl | hi
     ·exact h.1
     ·exact ih h.2 i hi
def aReg (C : Cfg) (ops : Array Oper) (K : Env → AH → Prop) (QP : AV → AH → Prop) : Nat → Array Bool → Env → AH → Prop
 | 0, listed, e, H => match Region.ready .any ops listed with
   | [] => K e H
   | _ => False
 | fuel + 1, listed, e, H => match pickOp C ops listed with
   | .done => K e H
   | .take i => aAt C ops i e H (aReg C ops K QP fuel (listed.setIfInBounds i true)) QP
   | .branch l => allP l fun i => aAt C ops i e H (aReg C ops K QP fuel (listed.setIfInBounds i true)) QP
section
variable {C : Cfg} {ops : Array Oper} {K : Env → AH → Prop} {QP : AV → AH → Prop}
theorem aReg_any : ∀ (fuel : Nat) (listed : Array Bool) (e : Env) (H : AH), aReg C ops K QP fuel listed e H → aAny C ops K QP fuel listed e H
 | 0, listed, e, H, h => by
   unfold aReg at h
   unfold aAny
   split at h
   ·rename_i hr; exact ⟨hr, h⟩
   ·exact h.elim
 | fuel + 1, listed, e, H, h => by
   unfold aReg at h
   cases hp : pickOp C ops listed with
   | done =>
     rw [hp] at h
     have hr : Region.ready .any ops listed = [] := by
      unfold pickOp at hp
      split at hp
      ·assumption
      ·split at hp <;> cases hp
     exact ⟨fun _ => h, fun i hi => by rw [hr] at hi; cases hi⟩
   | take i =>
     rw [hp] at h
     unfold pickOp at hp
     split at hp
     ·cases hp
     ·rename_i x xs hr
      split at hp
      ·rename_i j hj
       injection hp with hp
       subst hp
       have hmem := List.mem_of_find?_eq_some hj
       have hsafe := List.find?_some hj
       rw [← hr] at hmem
       unfold safe at hsafe
       cases hoi : ops[j]? with
       | none => simp [hoi] at hsafe
       | some oi =>
         simp only [hoi, Bool.and_eq_true] at hsafe
         obtain ⟨⟨s1, s2⟩, s3⟩ := hsafe
         refine aAny_first hoi s1 fuel listed e H (fun k ok hk hne hun hno => ⟨Region.free_spec hoi s2 k ok hk hne hun hno, ?_⟩) hmem (aAt_mono (fun e' H' h => aReg_any fuel _ e' H' h) h)
         have hlt : k < ops.size := (Array.getElem?_eq_some_iff.1 hk).1
         have := List.all_eq_true.1 s3 k (List.mem_range.2 hlt)
         simp only [hk, Bool.or_eq_true, beq_iff_eq, hne, false_or, hun, Bool.false_eq_true] at this
         rcases this with (h1 | h1) | h1
         ·obtain ⟨e', he, hb⟩ := Array.any_eq_true'.1 h1
          simp only [Bool.and_eq_true, beq_iff_eq] at hb
          exact absurd hb.2 (hno e' he hb.1)
         ·exact .inl h1
         ·exact .inr h1
      ·cases hp
   | branch l =>
     rw [hp] at h
     have hr : Region.ready .any ops listed = l ∧ l ≠ [] := by
      unfold pickOp at hp
      split at hp
      ·cases hp
      ·rename_i x xs hr
       split at hp
       ·cases hp
       ·injection hp with hp
        subst hp
        exact ⟨hr, by simp⟩
     exact ⟨fun h0 => absurd (hr.1 ▸ h0) hr.2, fun i hi => aAt_mono (fun e' H' h => aReg_any fuel _ e' H' h) (allP_spec h i (hr.1 ▸ hi))⟩
theorem aAny_sound (hC : C.Ok) {Q : Exit → Act → World → Prop} {lo : Nat} : ∀ (fuel : Nat) (listed : Array Bool) (ρ : Rho) (ι : Imm) (H : AH) (w : World) (e : Env) (a : Act), SR ρ ι H w → ER ρ ι C.N e a → Mk lo ρ H w a.defers → aAny C ops K QP fuel listed e H →
 (∀ a' w', LiftE K C.N C.base lo ρ ι H w a' w' → Q .normal a' w') → (∀ a v w', LiftV QP C.base lo ρ ι H w a.defers v w' → Q (.panic [{ v, recovered := false }]) a w') → wpAnyIn (FE C.ro) 0 C.P .any ops Q fuel listed a w
 | 0, listed, ρ, ι, H, w, e, a, hS, hE, hM, h, hn, hq => ⟨h.1, hn a w ⟨e, H, ρ, ι, h.2, hE, hS, WentB.refl .., hM⟩⟩
 | fuel + 1, listed, ρ, ι, H, w, e, a, hS, hE, hM, h, hn, hq => by
   refine ⟨fun h0 => hn a w ⟨e, H, ρ, ι, h.1 h0, hE, hS, WentB.refl .., hM⟩, fun i hi => ?_⟩
   have h1 := h.2 i hi
   unfold aAt at h1
   unfold wpOpIn
   cases ho : ops[i]? with
   | none =>
     simp only [ho] at h1 ⊢
     exact aAny_sound hC fuel _ ρ ι H w e a hS hE hM h1 hn hq
   | some o =>
     simp only [ho] at h1 ⊢
     have h2 := aOne_sound hC hS hE hM o (aOneD_one h1) (next := wpAnyIn (FE C.ro) 0 C.P .any ops Q fuel (listed.setIfInBounds i true)) (Q := Q) (fun a' w' hl => by
      obtain ⟨e', H', ρ', ι', k, x, y, z, m⟩ := hl
      exact aAny_sound hC fuel _ ρ' ι' H' w' e' a' y x m k (fun a'' w'' hl => hn _ _ (hl.from z)) (fun a'' v w'' hl => hq _ _ _ (hl.from z))) hq
     exact h2
end
structure Post where
 n : Env → AH → Prop
 x : Nat → Env → AH → Prop
 r : Env → AH → Prop
 p : AV → AH → Prop
def Post.Q (q : Post) (N B lo : Nat) (ρ : Rho) (ι : Imm) (H : AH) (w : World) : Exit → Act → World → Prop
 | .normal, a, w' => LiftE q.n N B lo ρ ι H w a w'
 | .exit id, a, w' => LiftE (q.x id) N B lo ρ ι H w a w'
 | .ret, a, w' => LiftE q.r N B lo ρ ι H w a w'
 | .panic chain, a, w' => ∃ v, chain = [{ v, recovered := false }] ∧ LiftV q.p B lo ρ ι H w a.defers v w'
 | .goto _, _, _ => False
 | .outgrown, _, _ => False
theorem Post.Q.from {q : Post} {N B lo : Nat} {ρ ι H w ρ' ι' H' w'} (hw : WentB B ρ ι H w ρ' ι' H' w') : ∀ (e : Exit) (a : Act) (w'' : World), q.Q N B lo ρ' ι' H' w' e a w'' → q.Q N B lo ρ ι H w e a w''
 | .normal, _, _, h => LiftE.from h hw
 | .exit _, _, _, h => LiftE.from h hw
 | .ret, _, _, h => LiftE.from h hw
 | .panic _, _, _, h => let ⟨v, e, l⟩ := h; ⟨v, e, l.from hw⟩
 | .goto _, _, _, h => h.elim
 | .outgrown, _, _, h => h.elim
structure AWP (C : Cfg) (c : Code) (e : Env) (H : AH) (q : Post) : Prop where
 run : ∀ lo ρ ι a w, ER ρ ι C.N e a → SR ρ ι H w → Mk lo ρ H w a.defers → c.wpIn (FE C.ro) 0 C.P (q.Q C.N C.base lo ρ ι H w) a w
def aw (C : Cfg) : Code → Env → AH → Post → Prop
 | .skip, e, H, q => q.n e H
 | .region _ ops draw, e, H, q => bif draw then aReg C ops q.n q.p ops.size (Array.replicate ops.size false) e H else aList C ops q.p q.n ops.toList e H
 | .seq a b, e, H, q => aw C a e H { q with n := fun e' H' => aw C b e' H' q }
 | .cond c x y, e, H, q => match opd e c with
   | .iv (.v (.bool b)) => (b = true → aw C x e H q) ∧ (b = false → aw C y e H q)
   | .anyb => aw C x e H q ∧ aw C y e H q
   | _ => False
 | .block id b, e, H, q => aw C b e H { q with x := fun j e' H' => bif Nat.beq j id then q.n e' H' else q.x j e' H' }
 | .exit id, e, H, q => q.x id e H
 | .ret, e, H, q => q.r e H
 | c, e, H, q => AWP C c e H q
section
variable {C : Cfg}
theorem aw_sound (hC : C.Ok) : ∀ (c : Code) (e : Env) (H : AH) (q : Post), aw C c e H q → AWP C c e H q
 | .skip, e, H, q, h => ⟨fun lo ρ ι a w hE hS hM => wpIn_skip ⟨e, H, ρ, ι, h, hE, hS, WentB.refl .., hM⟩⟩
 | .region id ops draw, e, H, q, h => ⟨fun lo ρ ι a w hE hS hM => by
   cases draw with
   | true =>
     have h1 := aReg_any _ _ e H h
     refine wpIn_region_any hC.mix ?_
     refine aAny_sound hC ops.size _ ρ ι H w.drew e a hS.drew hE hM h1 (fun a' w' hl => ?_) (fun a' v w' hl => ⟨v, rfl, ?_⟩)
     ·exact LiftE.from hl (Went.drew ρ ι H w).weak
     ·exact LiftV.from hl (Went.drew ρ ι H w).weak
   | false => exact wpIn_region_list (aList_sound hC ops.toList ρ ι H w e a hS hE hM h (fun a' w' hl => hl) (fun a' v w' hl => ⟨v, rfl, hl⟩))⟩
 | .seq x y, e, H, q, h => ⟨fun lo ρ ι a w hE hS hM => by
   have h1 := (aw_sound hC x e H _ h).run lo ρ ι a w hE hS hM
   refine wpIn_seq (wpIn_mono h1 fun ex a' w' hq => ?_)
   cases ex with
   | normal =>
     obtain ⟨e', H', ρ', ι', k, p1, p2, p3, m⟩ := hq
     exact wpIn_mono ((aw_sound hC y e' H' q k).run lo ρ' ι' a' w' p1 p2 m) (fun ex a'' w'' hq => Post.Q.from p3 ex a'' w'' hq)
   | exit id => exact hq
   | goto l => exact hq
   | ret => exact hq
   | panic ch => exact hq
   | outgrown => exact hq⟩
 | .cond c x y, e, H, q, h => ⟨fun lo ρ ι a w hE hS hM => by
   unfold aw at h
   have hx := opd_ok hE c
   split at h
   ·rename_i b hb
    rw [hb] at hx
    simp only [AV.R, IV.R] at hx
    refine wpIn_cond hx ?_
    cases b with
    | true => exact (aw_sound hC x e H q (h.1 rfl)).run lo ρ ι a w hE hS hM
    | false => exact (aw_sound hC y e H q (h.2 rfl)).run lo ρ ι a w hE hS hM
   ·rename_i hb
    rw [hb] at hx
    simp only [AV.R] at hx
    obtain ⟨b, hx⟩ := hx
    refine wpIn_cond hx ?_
    cases b with
    | true => exact (aw_sound hC x e H q h.1).run lo ρ ι a w hE hS hM
    | false => exact (aw_sound hC y e H q h.2).run lo ρ ι a w hE hS hM
   ·exact h.elim⟩
 | .block id b, e, H, q, h => ⟨fun lo ρ ι a w hE hS hM => by
   have h1 := (aw_sound hC b e H _ h).run lo ρ ι a w hE hS hM
   refine wpIn_block (wpIn_mono h1 fun ex a' w' hq => ?_)
   cases ex with
   | exit j =>
     show if j = id then _ else _
     obtain ⟨e', H', ρ', ι', k, p1, p2, p3⟩ := hq
     by_cases hj : j = id
     ·subst hj
      rw [if_pos rfl]
      simp only [Nat.beq_refl, cond_true] at k
      exact ⟨e', H', ρ', ι', k, p1, p2, p3⟩
     ·rw [if_neg hj]
      have : Nat.beq j id = false := by rw [Bool.eq_false_iff]; simpa using hj
      simp only [this, cond_false] at k
      exact ⟨e', H', ρ', ι', k, p1, p2, p3⟩
   | normal => exact hq
   | goto l => exact hq
   | ret => exact hq
   | panic ch => exact hq
   | outgrown => exact hq⟩
 | .exit id, e, H, q, h => ⟨fun lo ρ ι a w hE hS hM => wpIn_exit ⟨e, H, ρ, ι, h, hE, hS, WentB.refl .., hM⟩⟩
 | .ret, e, H, q, h => ⟨fun lo ρ ι a w hE hS hM => wpIn_ret ⟨e, H, ρ, ι, h, hE, hS, WentB.refl .., hM⟩⟩
 | .loop _, _, _, _, h => h
 | .rangeFunc .., _, _, _, h => h
 | .scope _, _, _, _, h => h
 | .label _, _, _, _, h => h
 | .goto _, _, _, _, h => h
 | .refuse _, _, _, _, h => h
structure Ent (N B : Nat) (e : Env) (H : AH) (e' : Env) (H' : AH) : Prop where
 run : ∀ ρ ι a w, ER ρ ι N e a → SR ρ ι H w → ∃ ρ' ι', ER ρ' ι' N e' a ∧ SR ρ' ι' H' w ∧ WentB B ρ ι H w ρ' ι' H' w
theorem AWP.of_ent {c : Code} {e e' : Env} {H H' : AH} {q : Post} (h : Ent C.N C.base e H e' H') (h' : AWP C c e' H' q) : AWP C c e H q :=
 ⟨fun lo ρ ι a w hE hS hM => let ⟨ρ', ι', x, y, z⟩ := h.run ρ ι a w hE hS
  wpIn_mono (h'.run lo ρ' ι' a w x y (hM.went z)) (fun ex a'' w'' hq => Post.Q.from z ex a'' w'' hq)⟩
theorem AWP.loop {X : Type} (SE : X → Env) (SH : X → AH) (μ : X → Nat) {c : Code} {e : Env} {H : AH} {q : Post} (x0 : X) (h0 : Ent C.N C.base e H (SE x0) (SH x0))
 (hr : ∀ x, AWP C c (SE x) (SH x) { q with n := fun e' H' => ∃ x', Ent C.N C.base e' H' (SE x') (SH x') ∧ μ x' < μ x }) : AWP C (.loop c) e H q := by
 refine AWP.of_ent h0 ⟨fun lo ρ ι a w hE hS hM => wpIn_loop_rounds (μ x0 + 1) ?_⟩
 have key : ∀ (n : Nat) (x : X), μ x < n → ∀ ρ ι a w, ER ρ ι C.N (SE x) a → SR ρ ι (SH x) w → Mk lo ρ (SH x) w a.defers → Code.roundsIn (FE C.ro) 0 C.P c (q.Q C.N C.base lo ρ ι (SH x) w) n a w := by
  intro n
  induction n with
  | zero => intro x hx; omega
  | succ n ih =>
    intro x hx ρ ι a w hE hS hM
    rw [roundsIn_succ]
    refine wpIn_mono ((hr x).run lo ρ ι a w hE hS hM) fun ex a' w' hq => ?_
    cases ex with
    | normal =>
      obtain ⟨e', H', ρ', ι', ⟨x', hent, hlt⟩, p1, p2, p3, m⟩ := hq
      obtain ⟨ρ'', ι'', q1, q2, q3⟩ := hent.run ρ' ι' a' w' p1 p2
      have h1 := ih x' (by omega) ρ'' ι'' a' w' q1 q2 (m.went q3)
      have mono : ∀ (n : Nat) (Q Q' : Exit → Act → World → Prop) a w, (∀ e a w, Q e a w → Q' e a w) → Code.roundsIn (FE C.ro) 0 C.P c Q n a w → Code.roundsIn (FE C.ro) 0 C.P c Q' n a w := by
       intro n
       induction n with
       | zero => intro Q Q' a w _ h; exact h
       | succ n ih =>
         intro Q Q' a w hQ h
         rw [roundsIn_succ] at h ⊢
         refine wpIn_mono h fun ex a' w' hq => ?_
         cases ex with
         | normal => exact ih Q Q' a' w' hQ hq
         | _ => exact hQ _ _ _ hq
      exact mono n _ _ a' w' (fun ex a'' w'' hq => Post.Q.from (p3.trans q3) ex a'' w'' hq) h1
    | exit id => exact hq
    | goto l => exact hq
    | ret => exact hq
    | panic ch => exact hq
    | outgrown => exact hq
 exact key (μ x0 + 1) x0 (Nat.lt_succ_self _) ρ ι a w hE hS hM
theorem AWP.seq {x y : Code} {e : Env} {H : AH} {q : Post} (M : Env → AH → Prop) (h : AWP C x e H { q with n := M }) (h' : ∀ e' H', M e' H' → AWP C y e' H' q) : AWP C (.seq x y) e H q :=
 ⟨fun lo ρ ι a w hE hS hM => wpIn_seq (wpIn_mono (h.run lo ρ ι a w hE hS hM) fun ex a' w' hq => by
  cases ex with
  | normal =>
    obtain ⟨e', H', ρ', ι', k, p1, p2, p3, m⟩ := hq
    exact wpIn_mono ((h' e' H' k).run lo ρ' ι' a' w' p1 p2 m) (fun ex a'' w'' hq => Post.Q.from p3 ex a'' w'' hq)
  | exit id => exact hq
  | goto l => exact hq
  | ret => exact hq
  | panic ch => exact hq
  | outgrown => exact hq)⟩
end
end Go.Proofs.YtgfkepebfaiepaaGreatDoor.Ax
