/-
  Closed runs: memory that grows, and is written.
-/
import Derived.Test.YtjhaikcokbmdbaaGreatDoorCxC
namespace Go.Proofs.YtjhaikcokbmdbaaGreatDoor.Cx
open Go.RowKit Go.Proofs.YtjhaikcokbmdbaaGreatDoor.Ax

def Rho.ext (ρ : Rho) (k : Nat) (p : Nat × Nat) : Rho := fun j => if j = k then some p else ρ j
theorem Rho.ext_same (ρ : Rho) (k : Nat) (p : Nat × Nat) : ρ.ext k p k = some p := if_pos rfl
theorem Rho.ext_other {ρ : Rho} {k j : Nat} {p : Nat × Nat} (h : j ≠ k) : ρ.ext k p j = ρ j := if_neg h
theorem Rho.le_ext {ρ : Rho} {k : Nat} {p : Nat × Nat} (h : ρ k = none) : Rho.le ρ (ρ.ext k p) := fun j q hq => by
  by_cases e : j = k
  · subst e; rw [h] at hq; cases hq
  · rw [Rho.ext_other e]; exact hq
theorem Chunk.R_lt {ρ : Rho} {p : Nat × Nat} {w : World} {c : Chunk} (h : c.R ρ p w) : p.1 < w.heap.size := by
  have : ∃ o, w.heap[p.1]? = some o := by
    cases c with
    | cells cs => obtain ⟨arr, e, fr, vs, h1, _⟩ := h; exact ⟨_, h1⟩
    | map kk ver m bs => obtain ⟨es, clock, h1, _⟩ := h; exact ⟨_, h1⟩
    | miter hm ver left last => obtain ⟨bm, mm, since, seen, st, _, h2, _⟩ := h; exact ⟨_, h2⟩
    | siter l pos => exact ⟨_, h.2⟩
    | loop st pend fid N tmps params asg body dh => obtain ⟨fn, tv, bd, md, h1, h2, _⟩ := h; exact ⟨_, h2⟩
    | dfr => exact ⟨_, h⟩
  obtain ⟨o, ho⟩ := this
  exact (Array.getElem?_eq_some_iff.1 ho).1
theorem get_app_set {H : CH} {h j : Nat} {c : Chunk} : (Cmd.app (.set h c) H).get j = if j = h then some c else H.get j := Tr.get_set _ _ _ _
theorem get_app_add {H : CH} {j : Nat} {c : Chunk} : (Cmd.app (.add c) H).get j = if j = H.next then some c else H.get j := Tr.get_set _ _ _ _
noncomputable def CH.del (H : CH) (h : Nat) : CH := ⟨H.next, H.t.set h none⟩
theorem get_del {H : CH} {h j : Nat} : (H.del h).get j = if j = h then none else H.get j := Tr.get_set _ _ _ _
theorem app_swap (H : CH) (h : Nat) (c : Chunk) : Cmd.app (.swap h c) H = Cmd.app (.add c) (H.del h) := rfl
section
variable {W : World} {ρ : Rho} {H : CH} {w : World}
theorem SR.p (hS : SR W ρ H w) {h : Nat} {c : Chunk} (hc : H.get h = some c) {p : Nat × Nat} (hp : ρ h = some p) : c.R ρ p w := by
  obtain ⟨q, h1, h2⟩ := hS.rel h c hc
  rw [hp] at h1
  cases h1
  exact h2
theorem SR.low (hS : SR W ρ H w) {h : Nat} {p : Nat × Nat} (hp : ρ h = some p) : h < H.next := by
  rcases Nat.lt_or_ge h H.next with g | g
  · exact g
  · rw [hS.fresh h g] at hp; cases hp
theorem SR.drew (hS : SR W ρ H w) : SR W ρ H { w with drawn := w.drawn + 1 } :=
  ⟨⟨hS.base.os, hS.base.tape, hS.base.output, hS.base.size, hS.base.block⟩, fun h c hc => let ⟨p, h1, h2⟩ := hS.rel h c hc; ⟨p, h1, Chunk.R_keep h2 (Rho.le.refl _) rfl⟩, hS.fresh, hS.new, hS.apart, hS.iter, hS.gm⟩
theorem SR.del (hS : SR W ρ H w) (h : Nat) : SR W ρ (H.del h) w := by
  have sub : ∀ j c, (H.del h).get j = some c → H.get j = some c := fun j c hc => by
    rw [get_del] at hc
    split at hc
    · cases hc
    · exact hc
  exact ⟨hS.base, fun j c hc => hS.rel j c (sub j c hc), hS.fresh, fun j c p hc => hS.new j c p (sub j c hc), fun j j' c c' p p' h1 h2 => hS.apart j j' c c' p p' (sub _ _ h1) (sub _ _ h2), fun j p hm q ver left last kk m bs bm since seen st es clock v h1 h2 => hS.iter j p hm q ver left last kk m bs bm since seen st es clock v (sub _ _ h1) (sub _ _ h2), hS.gm⟩
/-- A block that nobody holds is made, or written. -/
theorem SR.other (hS : SR W ρ H w) {w' : World} (hos : w'.os = w.os) (htape : w'.tape = w.tape) (hout : w'.output = w.output) (hsz : w.heap.size ≤ w'.heap.size)
    (hk : ∀ k, k < w.heap.size → (k < W.heap.size ∨ ∃ h c p, H.get h = some c ∧ ρ h = some p ∧ p.1 = k) → w'.heap[k]? = w.heap[k]?) : SR W ρ H w' := by
  have keep : ∀ h c p, H.get h = some c → ρ h = some p → w'.heap[p.1]? = w.heap[p.1]? := fun h c p hc hp => hk p.1 (Chunk.R_lt (hS.p hc hp)) (.inr ⟨h, c, p, hc, hp, rfl⟩)
  refine ⟨⟨hos.trans hS.base.os, htape.trans hS.base.tape, hout.trans hS.base.output, Nat.le_trans hS.base.size hsz, fun k h => (hk k (Nat.lt_of_lt_of_le h hS.base.size) (.inl h)).trans (hS.base.block k h)⟩, fun h c hc => ?_, hS.fresh, hS.new, hS.apart, fun h p hm q ver left last kk m bs bm since seen st es clock v h1 h2 h3 h4 => ?_, hS.gm⟩
  · obtain ⟨p, h1, h2⟩ := hS.rel h c hc
    exact ⟨p, h1, Chunk.R_keep h2 (Rho.le.refl _) (keep h c p hc h1)⟩
  · obtain ⟨g1, g2⟩ := hS.iter h p hm q ver left last kk m bs bm since seen st es clock v h1 h2 h3 h4
    exact ⟨g1, fun hv k1 k2 => g2 hv (by rw [← keep h _ p h1 h3]; exact k1) (by rw [← keep hm _ q h2 h4]; exact k2)⟩
def noIter : Chunk → Prop
  | .miter .. => False
  | _ => True
/-- A new handle, for a block that nobody holds. -/
theorem SR.bind (hS : SR W ρ H w) {p : Nat × Nat} {c : Chunk} (hc : c.R (ρ.ext H.next p) p w) (hnew : W.heap.size ≤ p.1) (hfree : ∀ h d q, H.get h = some d → ρ h = some q → q.1 ≠ p.1)
    (hit : ∀ hm ver left last, c = .miter hm ver left last → ∀ kk m bs bm since seen st es clock q v, H.get hm = some (.map kk v m bs) → ρ hm = some q → ver ≤ v ∧ (ver = v → w.heap[p.1]? = some (.mapIter (some bm) since seen st) → w.heap[q.1]? = some (.map es clock) → IterOk es clock since seen st left last)) :
    SR W (ρ.ext H.next p) (Cmd.app (.add c) H) w := by
  have hn := hS.fresh H.next (Nat.le_refl _)
  have hle : Rho.le ρ (ρ.ext H.next p) := Rho.le_ext hn
  have old : ∀ h d, H.get h = some d → h ≠ H.next := fun h d hd e => by
    obtain ⟨q, h1, _⟩ := hS.rel h d hd
    rw [e, hn] at h1
    cases h1
  refine ⟨hS.base, fun h d hd => ?_, fun h hh => ?_, fun h d q hd hq => ?_, fun h h' d d' q q' hd hd' hne hq hq' => ?_, fun h q hm q' ver left last kk m bs bm since seen st es clock v h1 h2 h3 h4 => ?_, hS.gm.mono hle (Nat.le_succ _)⟩
  · rw [get_app_add] at hd
    split at hd
    · rename_i e; subst e; cases hd; exact ⟨p, Rho.ext_same .., hc⟩
    · obtain ⟨q, h1, h2⟩ := hS.rel h d hd
      exact ⟨q, hle _ _ h1, Chunk.R_keep h2 hle rfl⟩
  · have : H.next + 1 ≤ h := hh
    rw [Rho.ext_other (by omega)]
    exact hS.fresh h (by omega)
  · rw [get_app_add] at hd
    split at hd
    · rename_i e; subst e; rw [Rho.ext_same] at hq; cases hq; exact hnew
    · rename_i e; rw [Rho.ext_other e] at hq; exact hS.new h d q hd hq
  · rw [get_app_add] at hd hd'
    split at hd <;> split at hd'
    · rename_i e e'; exact absurd (e.trans e'.symm) hne
    · rename_i e e'
      subst e
      rw [Rho.ext_same] at hq
      rw [Rho.ext_other e'] at hq'
      cases hq
      exact fun x => hfree h' d' q' hd' hq' x.symm
    · rename_i e e'
      subst e'
      rw [Rho.ext_same] at hq'
      rw [Rho.ext_other e] at hq
      cases hq'
      exact hfree h d q hd hq
    · rename_i e e'
      rw [Rho.ext_other e] at hq
      rw [Rho.ext_other e'] at hq'
      exact hS.apart h h' d d' q q' hd hd' hne hq hq'
  · rw [get_app_add] at h1 h2
    split at h2
    · rename_i e
      exfalso
      split at h1
      · rename_i e'
        cases h1
        subst e
        simp only [Chunk.R] at hc
        cases h2
      · obtain ⟨q0, g1, g2⟩ := hS.rel h _ h1
        obtain ⟨b0, m0, _, _, _, g3, _⟩ := g2
        rw [e, hn] at g3
        cases g3
    · rename_i e
      rw [Rho.ext_other e] at h4
      split at h1
      · rename_i e'
        subst e'
        cases h1
        rw [Rho.ext_same] at h3
        cases h3
        exact hit hm ver left last rfl kk m bs bm since seen st es clock q' v h2 h4
      · rename_i e'
        rw [Rho.ext_other e'] at h3
        exact hS.iter h q hm q' ver left last kk m bs bm since seen st es clock v h1 h2 h3 h4
/-- A handle's block is written. -/
theorem SR.put (hS : SR W ρ H w) {h : Nat} {c c' : Chunk} {p : Nat × Nat} (hc : H.get h = some c) (hp : ρ h = some p) (o : Obj) (hc' : c'.R ρ p (putObj w p.1 o))
    (h1 : ∀ hm ver left last, c' = .miter hm ver left last → ∀ kk m bs bm since seen st es clock q v, H.get hm = some (.map kk v m bs) → hm ≠ h → ρ hm = some q → ver ≤ v ∧ (ver = v → o = .mapIter (some bm) since seen st → w.heap[q.1]? = some (.map es clock) → IterOk es clock since seen st left last))
    (h2 : ∀ kk v m bs, c' = .map kk v m bs → ∃ kk' v' m' bs', c = .map kk' v' m' bs' ∧ (v' < v ∨ v' = v ∧ ∀ es clock, w.heap[p.1]? = some (.map es clock) → ∃ es2, o = .map es2 clock ∧ ∀ e ∈ es2.toList, e ∈ es.toList)) : SR W ρ (Cmd.app (.set h c') H) (putObj w p.1 o) := by
  have hlt := (Chunk.R_lt (hS.p hc hp))
  have hsz : (putObj w p.1 o).heap.size = w.heap.size := by simp [putObj]
  have hother : ∀ k, k ≠ p.1 → (putObj w p.1 o).heap[k]? = w.heap[k]? := fun k hk => by simp [putObj, Array.getElem?_setIfInBounds_ne (Ne.symm hk)]
  have hsame : (putObj w p.1 o).heap[p.1]? = some o := by simp [putObj, hlt]
  have hW := hS.new h c p hc hp
  refine ⟨⟨hS.base.os, hS.base.tape, hS.base.output, by rw [hsz]; exact hS.base.size, fun k hk => (hother k (by omega)).trans (hS.base.block k hk)⟩, fun j d hd => ?_, hS.fresh, fun j d q hd hq => ?_, fun j j' d d' q q' hd hd' hne hq hq' => ?_, fun j q hm q' ver left last kk m bs bm since seen st es clock v g1 g2 g3 g4 => ?_, hS.gm⟩
  · rw [get_app_set] at hd
    split at hd
    · rename_i e; subst e; cases hd; exact ⟨p, hp, hc'⟩
    · rename_i e
      obtain ⟨q, g1, g2⟩ := hS.rel j d hd
      exact ⟨q, g1, Chunk.R_keep g2 (Rho.le.refl _) (hother _ (hS.apart j h d c q p hd hc e g1 hp))⟩
  · rw [get_app_set] at hd
    split at hd
    · rename_i e; subst e; rw [hp] at hq; cases hq; exact hW
    · exact hS.new j d q hd hq
  · rw [get_app_set] at hd hd'
    split at hd <;> split at hd'
    · rename_i e e'; exact absurd (e.trans e'.symm) hne
    · rename_i e e'; subst e; exact hS.apart j j' c d' q q' hc hd' hne hq hq'
    · rename_i e e'; subst e'; exact hS.apart j j' d c q q' hd hc hne hq hq'
    · exact hS.apart j j' d d' q q' hd hd' hne hq hq'
  · rw [get_app_set] at g1 g2
    split at g2
    · rename_i e
      subst e
      cases g2
      obtain ⟨kk', v', m', bs', rfl, hv⟩ := h2 kk v m bs rfl
      split at g1
      · cases g1
      · rename_i hjh
        rcases hv with hv | ⟨rfl, hv⟩
        · have := (hS.iter j q hm q' ver left last kk' m' bs' bm since seen st es clock v' g1 hc g3 g4).1
          exact ⟨by omega, fun e => by omega⟩
        · obtain ⟨es0, clock0, r1, _⟩ := hS.p hc hp
          obtain ⟨es2, ho, hsub⟩ := hv es0 clock0 r1
          rw [hp] at g4
          injection g4 with g4
          subst g4
          have hq := hS.apart j _ _ _ q p g1 hc hjh g3 hp
          obtain ⟨k1, k2⟩ := hS.iter j q hm p ver left last kk' m' bs' bm since seen st es0 clock0 v' g1 hc g3 hp
          refine ⟨k1, fun hv' x1 x2 => ?_⟩
          rw [hsame, ho] at x2
          injection x2 with x2
          injection x2 with x2 x3
          subst x2 x3
          exact (k2 hv' (by rw [← hother _ hq]; exact x1) r1).less hsub
    · rename_i e
      have hq' := hS.apart hm h _ c q' p g2 hc e g4 hp
      split at g1
      · rename_i e'
        subst e'
        cases g1
        rw [hp] at g3
        cases g3
        obtain ⟨k1, k2⟩ := h1 hm ver left last rfl kk m bs bm since seen st es clock q' v g2 e g4
        refine ⟨k1, fun hv x1 x2 => k2 hv ?_ (by rw [← hother _ hq']; exact x2)⟩
        rw [hsame] at x1
        injection x1
      · rename_i e'
        have hq := hS.apart j h _ c q p g1 hc e' g3 hp
        obtain ⟨k1, k2⟩ := hS.iter j q hm q' ver left last kk m bs bm since seen st es clock v g1 g2 g3 g4
        exact ⟨k1, fun hv x1 x2 => k2 hv (by rw [← hother _ hq]; exact x1) (by rw [← hother _ hq']; exact x2)⟩
end
end Go.Proofs.YtjhaikcokbmdbaaGreatDoor.Cx
