/-
  Chapter 26: plain laws of models.
-/
import Derived.Test.YtaoambbfjdijjaaMe
namespace Go.Proofs.Ytaoambbfjdijjaa.Ax
open Go.RowKit
theorem bne_t {b : Bool} (h : b ≠ true) : b = false := by cases b <;> simp_all
theorem does_refused (m : MS) (c : CL) (h : m.doesE c ≠ 0) : m.does c = m := by
  unfold MS.doesE at h
  unfold MS.does
  split
  · rename_i h0
    rw [if_pos h0] at h
    unfold MS.put
    unfold putE at h
    split
    · rename_i h1; simp at h1; simp [h1.1, h1.2] at h
    · rfl
  · rename_i h0
    rw [if_neg h0] at h
    split
    · rename_i h1
      rw [if_pos h1] at h
      unfold MS.del
      unfold delE at h
      split
      · rename_i h2; simp [h2] at h
      · rfl
    · rename_i h1
      rw [if_neg h1] at h
      split
      · rename_i h2; rw [if_pos h2] at h; exact absurd rfl h
      · rename_i h2
        rw [if_neg h2] at h
        split
        · rename_i h3
          rw [if_pos h3] at h
          unfold MS.create
          unfold MS.createE at h
          split
          · rename_i h4
            obtain ⟨a, b, c⟩ := h4
            simp [a, b, Nat.not_le.2 c] at h
          · rfl
        · rename_i h3
          rw [if_neg h3] at h
          split
          · rename_i h4
            rw [if_pos h4] at h
            unfold MS.drop
            unfold MS.dropE MS.snapE at h
            split
            · rename_i h5
              simp [h5.1, h5.2] at h
            · rfl
          · rename_i h4
            rw [if_neg h4] at h
            split
            · rename_i h5
              rw [if_pos h5] at h
              unfold MS.cut
              unfold MS.cutE at h
              split
              · rename_i h6; rw [if_pos h6] at h; exact absurd rfl h
              · rfl
            · rfl
theorem MS.Fits.more {m : MS} (hm : m.Fits) {w : W} (hn : m.ws.length < 1000) (h1 : okK w.k = true) (h3 : w.v.length ≤ 1024) : MS.Fits { m with ws := m.ws ++ [w] } where
  n := by simp; omega
  k x hx := by
    rcases List.mem_append.1 hx with hx | hx
    · exact hm.k x hx
    · simp only [List.mem_singleton] at hx; subst hx; simp [okK] at h1; omega
  k1 x hx := by
    rcases List.mem_append.1 hx with hx | hx
    · exact hm.k1 x hx
    · simp only [List.mem_singleton] at hx; subst hx; exact h1
  v x hx := by
    rcases List.mem_append.1 hx with hx | hx
    · exact hm.v x hx
    · simp only [List.mem_singleton] at hx; subst hx; exact h3
  sn := hm.sn
  snk := hm.snk
  nums := hm.nums
  mark := by have := hm.mark; simp; omega
  dup := hm.dup
theorem sfind_none {sn : List (List UInt8 × Nat)} {s : List UInt8} : sfind sn s = none ↔ s ∉ sn.map (·.1) := afind_none
theorem sput_new {sn : List (List UInt8 × Nat)} {s : List UInt8} {n : Nat} (h : s ∉ sn.map (·.1)) : sput sn s n = sn ++ [(s, n)] := by
  induction sn with
  | nil => rfl
  | cons p ps ih =>
    simp only [List.map_cons, List.mem_cons, not_or] at h
    unfold sput
    rw [if_neg (fun e => h.1 e.symm), ih h.2]
    rfl
theorem does_fits {m : MS} (hm : m.Fits) (hn : m.ws.length < 1000) (c : CL) : (m.does c).Fits := by
  unfold MS.does
  split
  · unfold MS.put
    split
    · rename_i h1
      simp at h1
      exact hm.more hn h1.1 (by simpa [okV] using h1.2)
    · exact hm
  · split
    · unfold MS.del
      split
      · rename_i h1; exact hm.more hn h1 (by simp)
      · exact hm
    · split
      · exact { hm with nums := fun p hp => Nat.le_trans (hm.nums p hp) hm.mark, mark := Nat.le_refl _ }
      · split
        · unfold MS.create
          split
          · rename_i h1
            obtain ⟨a, b, c⟩ := h1
            have hb := sfind_none.1 b
            have e := sput_new (n := m.ws.length) hb
            refine { hm with sn := ?_, snk := ?_, nums := ?_, mark := Nat.le_refl _, dup := ?_ }
            · simp only [e]; simp; omega
            · simp only [e]
              intro p hp
              rcases List.mem_append.1 hp with hp | hp
              · exact hm.snk p hp
              · simp only [List.mem_singleton] at hp; subst hp; simp [okN] at a; exact a.2
            · simp only [e]
              intro p hp
              rcases List.mem_append.1 hp with hp | hp
              · exact Nat.le_trans (hm.nums p hp) hm.mark
              · simp only [List.mem_singleton] at hp; subst hp; exact Nat.le_refl _
            · simp only [e, List.map_append, List.map_cons, List.map_nil]
              rw [List.nodup_append]
              exact ⟨hm.dup, by simp, fun x hx y hy => by simp only [List.mem_singleton] at hy; subst hy; exact fun e => hb (e ▸ hx)⟩
          · exact hm
        · split
          · unfold MS.drop
            split
            · refine { hm with sn := ?_, snk := ?_, nums := ?_, dup := ?_ }
              · exact Nat.le_trans (List.length_filter_le _ _) hm.sn
              · exact fun p hp => hm.snk p (List.mem_filter.1 hp).1
              · exact fun p hp => hm.nums p (List.mem_filter.1 hp).1
              · exact (hm.dup).sublist ((List.filter_sublist).map _)
            · exact hm
          · split
            · unfold MS.cut
              split
              · rename_i h1
                have ht : ∀ w ∈ m.ws.take c.n, w ∈ m.ws := fun w hw => List.mem_of_mem_take hw
                exact { hm with n := by simp; omega, k := fun w hw => hm.k w (ht w hw), k1 := fun w hw => hm.k1 w (ht w hw), v := fun w hw => hm.v w (ht w hw), nums := fun p hp => Nat.le_trans (hm.nums p hp) h1.1, mark := by simp; omega }
              · exact hm
            · exact hm
theorem does_len (m : MS) (c : CL) : (m.does c).ws.length ≤ m.ws.length + 1 := by
  unfold MS.does MS.put MS.del MS.create MS.drop MS.cut
  repeat' split
  all_goals (simp; try omega)
/-! A view has what At tells. -/
theorem afind_adel {β : Type} (l : List (List UInt8 × β)) (s t : List UInt8) : afind (adel l s) t = if t = s then none else afind l t := by
  unfold afind adel
  rw [List.find?_filter]
  split
  · rename_i h
    subst h
    rw [List.find?_eq_none.2 (by intro p _; simp)]
    rfl
  · rename_i h
    congr 2
    funext p
    by_cases e : p.1 = t
    · simp [e, h]
    · simp [e]
theorem afind_aput {β : Type} (s t : List UInt8) (n : β) : ∀ l : List (List UInt8 × β), afind (aput l s n) t = if t = s then some n else afind l t
  | [] => by
    unfold aput afind
    by_cases h : t = s
    · subst h; simp
    · have h' : ¬ s = t := fun e => h e.symm
      simp [h, h']
  | p :: ps => by
    have ih := afind_aput s t n ps
    unfold aput
    by_cases h : p.1 = s
    · rw [if_pos h]
      by_cases h2 : t = s
      · subst h2; simp [afind]
      · have h3 : ¬ s = t := fun e => h2 e.symm
        have h4 : ¬ p.1 = t := fun e => h2 (e.symm.trans h)
        simp [afind, h2, h3, h4]
    · rw [if_neg h]
      by_cases h4 : p.1 = t
      · have h5 : ¬ t = s := fun e => h (h4.trans e)
        simp [afind, h4, h5]
      · have e1 : afind (p :: aput ps s n) t = afind (aput ps s n) t := by simp [afind, h4]
        have e2 : afind (p :: ps) t = afind ps t := by simp [afind, h4]
        rw [e1, ih, e2]
theorem afind_vfold (ws : List W) (k : List UInt8) : ∀ n, n ≤ ws.length → afind (vfold (ws.take n)) k = liveW (lastW ws k n)
  | 0, _ => rfl
  | n + 1, h => by
    have ih := afind_vfold ws k n (by omega)
    have hlt : n < ws.length := by omega
    have e : ws.getD n ⟨[], [], true⟩ = ws[n] := by simp [List.getD, hlt]
    rw [take_snoc hlt, vfold_snoc, e]
    have hw : ws[n]? = some ws[n] := List.getElem?_eq_getElem hlt
    simp only [lastW, hw]
    unfold vstep
    by_cases hg : ws[n].gone = true
    · rw [if_pos hg, afind_adel]
      by_cases hk : k = ws[n].k
      · rw [if_pos hk, if_pos hk.symm]
        simp [liveW, hg]
      · rw [if_neg hk, if_neg (fun e => hk e.symm), ih]
    · rw [if_neg hg, afind_aput]
      by_cases hk : k = ws[n].k
      · rw [if_pos hk, if_pos hk.symm]
        simp [liveW, hg]
      · rw [if_neg hk, if_neg (fun e => hk e.symm), afind_adel, if_neg hk, ih]
theorem viewL_mem {vs : List W} {p : List UInt8 × List UInt8} : p ∈ viewL vs ↔ afind (vfold vs) p.1 = some p.2 := by
  unfold viewL
  rw [List.mem_map]
  constructor
  · rintro ⟨k, hk, rfl⟩
    rw [mem_sortS] at hk
    cases h : afind (vfold vs) k with
    | none => exact absurd hk (afind_none.1 h)
    | some v => rfl
  · intro h
    refine ⟨p.1, mem_sortS.2 ?_, by rw [h]; rfl⟩
    exact List.mem_map.2 ⟨_, afind_mem h, rfl⟩
theorem take_min_len (ws : List W) (s : Nat) : ws.take (min s ws.length) = ws.take s := by
  rcases Nat.le_total s ws.length with h | h
  · rw [Nat.min_eq_left h]
  · rw [Nat.min_eq_right h, List.take_of_length_le (Nat.le_refl _), List.take_of_length_le h]
theorem afind_view (m : MS) (s : Nat) (k : List UInt8) : afind (vfold (m.ws.take s)) k = liveW (lastW m.ws k (min s m.ws.length)) := by
  rw [← afind_vfold _ _ _ (Nat.min_le_right _ _), take_min_len]
theorem lastW_mem {ws : List W} {k : List UInt8} {w : W} : ∀ {n}, lastW ws k n = some w → w ∈ ws ∧ w.k = k
  | 0, h => by cases h
  | n + 1, h => by
    unfold lastW at h
    cases hw : ws[n]? with
    | none => rw [hw] at h; exact lastW_mem h
    | some x =>
      rw [hw] at h
      simp only at h
      split at h
      · rename_i hk
        injection h with h
        subst h
        exact ⟨List.mem_of_getElem? hw, hk⟩
      · exact lastW_mem h
theorem at_view {m : MS} (hm : m.Fits) (s : Nat) (k v : List UInt8) : m.at s k = some v ↔ (k, v) ∈ viewL (m.ws.take s) := by
  rw [viewL_mem, afind_view]
  unfold MS.at
  cases h : okK k with
  | true => rfl
  | false =>
    simp only [cond_false]
    constructor
    · intro h; cases h
    · intro h'
      unfold liveW at h'
      cases hl : lastW m.ws k (min s m.ws.length) with
      | none => rw [hl] at h'; cases h'
      | some w =>
        obtain ⟨h1, h2⟩ := lastW_mem hl
        have := hm.k1 w h1
        rw [h2, h] at this
        cases this
theorem atE_zero {m : MS} {s : Nat} {k : List UInt8} : m.atE s k = 0 ↔ (m.at s k).isSome = true := by
  unfold MS.atE
  cases h : okK k with
  | false => simp [MS.at, h]
  | true => cases h2 : (m.at s k).isSome <;> simp
end Go.Proofs.Ytaoambbfjdijjaa.Ax
