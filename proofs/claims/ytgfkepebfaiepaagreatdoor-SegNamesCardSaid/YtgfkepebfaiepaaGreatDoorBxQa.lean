/-
  Cells that a closure captures and that are written no more.
-/
import Derived.Test.YtgfkepebfaiepaaGreatDoorBxQ
namespace Go.Proofs.YtgfkepebfaiepaaGreatDoor.Ax
open Go.RowKit
section
variable {ρ : Rho} {ι : Imm} {w : World} {H : AH}
theorem SR.ice (hS : SR ρ ι H w) {h : Nat} {e : TypeId} {cs : List AV} {l : List IV} (hc : H.get h = some (.cells e cs)) (hone : cs.all AV.one = true) (hl : toIVs cs = some l) :
 ∃ ρ' ι', SR ρ' ι' (H.set h (.icells l)) w ∧ Went ρ ι H w ρ' ι' (H.set h (.icells l)) w ∧ ∀ v, (AV.ptr h 0).R ρ ι v → (IV.pp l).R ι' v := by
 have hm := AH.get_mem hc
 obtain ⟨hv, hr, b, vs, g1, g2, g3, g4⟩ := hS.hv hc
 have hb := (g2 b).2 rfl
 have hle : Imm.le ι (fun b' o => if b' = b then vs[o]? else ι b' o) := fun b' o v hi => by
  by_cases e : b' = b
  ·subst e; exact absurd hi (hS.iapart _ hm hv hr b' o v hb)
  ·simpa [e] using hi
 have hrle := Rho.le_refoot hr (fun _ => False)
 have hone' := all_one hone g4
 have hiv := IV.Rs_mono hle _ _ (toIVs_spec _ _ _ hl g4)
 have cell : ∀ o v, vs[o]? = some v → w.cell? ⟨b, o, none⟩ = some v := fun o v hg => cellOf g3 (by simpa using hg)
 refine ⟨ρ.refoot h hv (fun _ => False), _, ⟨fun b' o v hi => ?_, fun b' o v hi => ?_, fun p hp => ?_, fun j hj => ?_, ?_, fun p hp q hq hpq x y hx hy k hk hk2 => ?_, fun p hp x hx k o v hk hi => ?_, fun p hp x hx k hk => ?_⟩, ⟨Touch.refl _ _, fun k ⟨p, hp, x, hx, hk⟩ => ?_, hle, fun b' o v hi => ?_, hrle⟩, fun v hv' => ?_⟩
 ·by_cases e : b' = b
  ·subst e; exact cell o v (by simpa using hi)
  ·exact hS.imm b' o v (by simpa [e] using hi)
 ·by_cases e : b' = b
  ·subst e; exact hone' v (List.mem_of_getElem? (by simpa using hi))
  ·exact hS.one b' o v (by simpa [e] using hi)
 ·rcases AH.mem_set' hS.nodup p hp with ⟨q1, q2⟩ | rfl
  ·obtain ⟨u, hu, r⟩ := hS.rel p q1
   exact ⟨u, (Rho.refoot_other q2).trans hu, r.keep hrle hle fun _ _ => rfl⟩
  ·exact ⟨_, Rho.refoot_same .., fun k f => f, b, vs, g1, hiv, fun j u hj => by simpa using hj⟩
 ·have : j ≠ h := fun e => by have := hS.key_lt hr; subst e; exact absurd this (Nat.not_lt.2 hj)
  exact (Rho.refoot_other this).trans (hS.fresh j hj)
 ·rw [AH.keys_set]; exact hS.nodup
 ·rcases AH.mem_set' hS.nodup p hp with ⟨q1, q2⟩ | rfl
  ·rcases AH.mem_set' hS.nodup q hq with ⟨q3, q4⟩ | rfl
   ·rw [Rho.refoot_other q2] at hx
    rw [Rho.refoot_other q4] at hy
    exact hS.apart p q1 q q3 hpq x y hx hy k hk hk2
   ·rw [Rho.refoot_same] at hy
    injection hy with hy
    subst hy
    exact hk2
  ·rw [Rho.refoot_same] at hx
   injection hx with hx
   subst hx
   exact hk
 ·rcases AH.mem_set' hS.nodup p hp with ⟨q1, q2⟩ | rfl
  ·rw [Rho.refoot_other q2] at hx
   by_cases e : k = b
   ·subst e; exact hS.apart p q1 _ hm q2 x hv hx hr k hk hb
   ·exact hS.iapart p q1 x hx k o v hk (by simpa [e] using hi)
  ·rw [Rho.refoot_same] at hx
   injection hx with hx
   subst hx
   exact hk
 ·rcases AH.mem_set' hS.nodup p hp with ⟨q1, q2⟩ | rfl
  ·rw [Rho.refoot_other q2] at hx
   exact hS.lt p q1 x hx k hk
  ·rw [Rho.refoot_same] at hx
   injection hx with hx
   subst hx
   exact hk.elim
 ·rcases AH.mem_set' hS.nodup p hp with ⟨q1, q2⟩ | rfl
  ·rw [Rho.refoot_other q2] at hx
   exact .inl ⟨p, q1, x, hx, hk⟩
  ·rw [Rho.refoot_same] at hx
   injection hx with hx
   subst hx
   exact hk.elim
 ·by_cases e : b' = b
  ·subst e; exact .inr (.inl ⟨_, hm, hv, hr, hb⟩)
  ·exact .inl (by simpa [e] using hi)
 ·simp only [AV.R] at hv'
  obtain ⟨hu, b', e1, e2, rfl⟩ := hv'
  rw [hr] at e1; injection e1 with e1; subst e1
  rw [g1] at e2; injection e2 with e2; subst e2
  simp only [IV.R]
  exact ⟨_, vs, rfl, rfl, hiv, fun j u hj => by simpa using hj⟩
end
def ice1 (H : AH) (x : AV) : Option (AH × IV) :=
 match x with
 | .iv v => some (H, v)
 | .ptr h 0 => match H.get h with
   | some (.cells _ cs) => bif cs.all AV.one then (toIVs cs).map fun l => (H.set h (.icells l), .pp l) else none
   | some (.icells l) => some (H, .pp l)
   | _ => none
 | _ => none
noncomputable def iceL (xs : List AV) : AH → Option (AH × List IV) :=
 List.rec (motive := fun _ => AH → Option (AH × List IV)) (fun H => some (H, [])) (fun x _ ih H => match ice1 H x with
  | some p => match ih p.1 with
    | some q => some (q.1, p.2 :: q.2)
    | none => none
  | none => none) xs
noncomputable def cloW (fz : Op → Bool) (g : Operand → AV) (H : AH) (fn : Fn) (f c : Array Operand) : WOut :=
 bif fz (.makeFunc fn f c) then (match toIVs (f.toList.map g), iceL (c.toList.map g) H with
  | some a, some q => some ([], .iv (.fnc fn a q.2), q.1)
  | _, _ => none) else none
section
variable {ρ : Rho} {ι : Imm} {w : World} {H : AH}
theorem ice1_ok (hS : SR ρ ι H w) {x : AV} {p : AH × IV} (h : ice1 H x = some p) : ∃ ρ' ι', SR ρ' ι' p.1 w ∧ Went ρ ι H w ρ' ι' p.1 w ∧ ∀ v, x.R ρ ι v → p.2.R ι' v := by
 unfold ice1 at h
 split at h
 ·injection h with h; subst h
  exact ⟨ρ, ι, hS, Went.refl .., fun v hv => by simpa only [AV.R] using hv⟩
 ·rename_i hh
  split at h
  ·rename_i e cs hc
   cases hone : cs.all AV.one with
   | false => rw [hone] at h; cases h
   | true =>
     rw [hone] at h
     simp only [cond_true] at h
     obtain ⟨l, hl, rfl⟩ := Option.map_eq_some_iff.1 h
     exact hS.ice hc hone hl
  ·rename_i l hc
   injection h with h; subst h
   refine ⟨ρ, ι, hS, Went.refl .., fun v hv => ?_⟩
   obtain ⟨hv', hr, _, b, vs, g1, g2, g3⟩ := hS.hv hc
   simp only [AV.R] at hv
   obtain ⟨hu, b', e1, e2, rfl⟩ := hv
   rw [hr] at e1; injection e1 with e1; subst e1
   rw [g1] at e2; injection e2 with e2; subst e2
   simp only [IV.R]
   exact ⟨_, vs, rfl, rfl, g2, fun j u hj => by simpa using g3 j u hj⟩
  ·cases h
 ·cases h
theorem iceL_ok : ∀ (xs : List AV) {ρ : Rho} {ι : Imm} {H : AH} (_ : SR ρ ι H w) {q : AH × List IV} (_ : iceL xs H = some q), ∃ ρ' ι', SR ρ' ι' q.1 w ∧ Went ρ ι H w ρ' ι' q.1 w ∧ ∀ vs, AV.Rs ρ ι xs vs → IV.Rs ι' q.2 vs
 | [], ρ, ι, H, hS, q, h => by
   have h : some (H, []) = some q := h
   injection h with h; subst h
   exact ⟨ρ, ι, hS, Went.refl .., fun vs hv => by simpa only [AV.Rs, IV.Rs] using hv⟩
 | x :: xs, ρ, ι, H, hS, q, h => by
   have h : (match ice1 H x with
    | some p => match iceL xs p.1 with
      | some q => some (q.1, p.2 :: q.2)
      | none => none
    | none => none) = some q := h
   split at h
   ·rename_i p hp
    split at h
    ·rename_i q' hq
     injection h with h; subst h
     obtain ⟨ρ1, ι1, a1, a2, a3⟩ := ice1_ok hS hp
     obtain ⟨ρ2, ι2, b1, b2, b3⟩ := iceL_ok xs a1 hq
     refine ⟨ρ2, ι2, b1, a2.trans b2, fun vs hv => ?_⟩
     simp only [AV.Rs] at hv
     obtain ⟨u, us, rfl, r, rs⟩ := hv
     simp only [IV.Rs]
     exact ⟨u, us, rfl, IV.R_mono b2.imm _ _ (a3 u r), b3 us (AV.Rs_mono a2.agree a2.imm _ _ rs)⟩
    ·cases h
   ·cases h
theorem cloW_ok (hS : SR ρ ι H w) {fz : Op → Bool} {g : Operand → AV} {ev : Operand → Value} (hg : ∀ x, (g x).R ρ ι (ev x)) {fn : Fn} {f c : Array Operand} {cs : List Cnd} {r : AV} {H' : AH} (h : cloW fz g H fn f c = some (cs, r, H')) :
 ∃ ρ' ι', SR ρ' ι' H' w ∧ Went ρ ι H w ρ' ι' H' w ∧ r.R ρ' ι' (.func fn (f.map ev) (c.map ev)) := by
 unfold cloW at h
 cases hf : fz (.makeFunc fn f c) with
 | false => rw [hf] at h; cases h
 | true =>
   rw [hf] at h
   simp only [cond_true] at h
   split at h
   ·rename_i a q ha hq
    simp only [Option.some.injEq, Prod.mk.injEq] at h
    obtain ⟨rfl, rfl, rfl⟩ := h
    obtain ⟨ρ', ι', a1, a2, a3⟩ := iceL_ok _ hS hq
    refine ⟨ρ', ι', a1, a2, ?_⟩
    simp only [AV.R, IV.R]
    exact ⟨f.toList.map ev, c.toList.map ev, by simp [← Array.toList_map], IV.Rs_mono a2.imm _ _ (toIVs_spec _ _ _ ha (Rs_mapA g ev hg f.toList)), a3 _ (Rs_mapA g ev hg c.toList)⟩
   ·cases h
end
end Go.Proofs.YtgfkepebfaiepaaGreatDoor.Ax
