/-
  Chapter 26: plain laws of views.
-/
import Derived.Test.YtaoambbfjdijjaaMs
import Derived.Sort.Walk0
namespace Go.Proofs.Ytaoambbfjdijjaa.Ax
open Go.RowKit
theorem aput_new {β : Type} {l : List (List UInt8 × β)} {s : List UInt8} {n : β} (h : s ∉ l.map (·.1)) : aput l s n = l ++ [(s, n)] := by
  induction l with
  | nil => rfl
  | cons p ps ih =>
    simp only [List.map_cons, List.mem_cons, not_or] at h
    unfold aput
    rw [if_neg (fun e => h.1 e.symm), ih h.2]
    rfl
theorem adel_keys {β : Type} (l : List (List UInt8 × β)) (s : List UInt8) : s ∉ (adel l s).map (·.1) := by
  intro h
  obtain ⟨p, hp, e⟩ := List.mem_map.1 h
  have := (List.mem_filter.1 hp).2
  simp at this
  exact this e
theorem vfold_nodup (ws : List W) : ((vfold ws).map (·.1)).Nodup := by
  induction ws using snocInd with
  | h0 => simp [vfold]
  | h1 ws w ih =>
    rw [vfold_snoc]
    have hd : ((adel (vfold ws) w.k).map (·.1)).Nodup := ih.sublist ((List.filter_sublist).map _)
    unfold vstep
    split
    · exact hd
    · rw [aput_new (adel_keys _ _)]
      simp only [List.map_append, List.map_cons, List.map_nil]
      rw [List.nodup_append]
      exact ⟨hd, by simp, fun x hx y hy => by simp only [List.mem_singleton] at hy; subst hy; exact fun e => adel_keys _ _ (e ▸ hx)⟩
theorem viewL_keys (ws : List W) : (viewL ws).map (·.1) = sortS ((vfold ws).map (·.1)) := by
  unfold viewL
  rw [List.map_map]
  exact List.map_id'' (fun _ => rfl) _
theorem sortS_sorted (l : List (List UInt8)) : (sortS l).Pairwise (fun x y => x ≤ y) := by
  have h := List.pairwise_mergeSort (le := fun x y : List UInt8 => decide (x ≤ y)) (fun a b c h1 h2 => by simp only [decide_eq_true_eq] at *; exact List.le_trans h1 h2) (fun a b => by simp only [Bool.or_eq_true, decide_eq_true_eq]; exact List.le_total a b) l
  exact h.imp fun h => by simpa using h
theorem sortS_nodup {l : List (List UInt8)} (h : l.Nodup) : (sortS l).Nodup := (List.mergeSort_perm l _).nodup_iff.2 h
theorem viewL_nodup (ws : List W) : ((viewL ws).map (·.1)).Nodup := by rw [viewL_keys]; exact sortS_nodup (vfold_nodup ws)
theorem viewL_sorted (ws : List W) : (viewL ws).Pairwise (fun p q => p.1 ≤ q.1) := by
  have h := sortS_sorted ((vfold ws).map (·.1))
  rw [← viewL_keys] at h
  exact List.pairwise_map.1 h
def but (k : List UInt8) (L : BL) : BL := L.filter fun p => decide (p.1 ≠ k)
theorem nodup_of_keys {β : Type} {L : List (List UInt8 × β)} (h : (L.map (·.1)).Nodup) : L.Nodup := (List.pairwise_map.1 h).imp fun h e => h (by rw [e])
theorem but_same (ws ws' : List W) (k : List UInt8) (h : ∀ t, t ≠ k → afind (vfold ws) t = afind (vfold ws') t) : but k (viewL ws) = but k (viewL ws') := by
  refine List.Perm.eq_of_pairwise (le := fun p q : List UInt8 × List UInt8 => p.1 ≤ q.1) (fun p q hp hq h1 h2 => ?_) ((viewL_sorted ws).filter _) ((viewL_sorted ws').filter _) ((List.perm_ext_iff_of_nodup ((nodup_of_keys (viewL_nodup ws)).filter _) ((nodup_of_keys (viewL_nodup ws')).filter _)).2 fun p => ?_)
  · have e := List.le_antisymm h1 h2
    obtain ⟨hp1, hp2⟩ := List.mem_filter.1 hp
    obtain ⟨hq1, _⟩ := List.mem_filter.1 hq
    have a := viewL_mem.1 hp1
    have b := viewL_mem.1 hq1
    simp only [decide_eq_true_eq] at hp2
    rw [h _ hp2, e, b] at a
    injection a with a
    exact Prod.ext e a.symm
  · simp only [List.mem_filter, decide_eq_true_eq, viewL_mem]
    constructor
    · rintro ⟨a, b⟩; exact ⟨by rw [← h _ b]; exact a, b⟩
    · rintro ⟨a, b⟩; exact ⟨by rw [h _ b]; exact a, b⟩
theorem but_len {L : BL} {k : List UInt8} (h : (L.map (·.1)).Nodup) : L.length ≤ (but k L).length + 1 := by
  induction L with
  | nil => simp
  | cons p ps ih =>
    simp only [List.map_cons, List.nodup_cons] at h
    unfold but
    by_cases e : p.1 = k
    · have : ps.filter (fun p => decide (p.1 ≠ k)) = ps := by
        rw [List.filter_eq_self]
        intro q hq
        simp only [decide_eq_true_eq]
        intro e2
        exact h.1 (by rw [e, ← e2]; exact List.mem_map_of_mem hq)
      rw [List.filter_cons_of_neg (by simp [e]), this]
      simp
    · rw [List.filter_cons_of_pos (by simp [e])]
      have := ih h.2
      unfold but at this
      simp only [List.length_cons]
      omega
def there (ck cv : List UInt8) (b3 : Bool) (L : BL) : Bool := L.foldl (fun b p => if p.1 = ck then (b3 && decide (p.2 = cv)) else b) false
theorem there_snoc (ck cv : List UInt8) (b3 : Bool) (L : BL) (p : List UInt8 × List UInt8) : there ck cv b3 (L ++ [p]) = if p.1 = ck then (b3 && decide (p.2 = cv)) else there ck cv b3 L := by simp [there]
theorem there_in {ck cv : List UInt8} {b3 : Bool} (L : BL) : (∀ p ∈ L, p.1 = ck → p.2 = cv) → (∃ p ∈ L, p.1 = ck) → there ck cv b3 L = b3 := by
  induction L using snocInd with
  | h0 => rintro _ ⟨p, hp, _⟩; cases hp
  | h1 L p ih =>
    intro h1 h2
    rw [there_snoc]
    split
    · rename_i e
      rw [h1 p (by simp) e]; simp
    · rename_i e
      refine ih (fun q hq => h1 q (List.mem_append_left _ hq)) ?_
      obtain ⟨q, hq, e2⟩ := h2
      rcases List.mem_append.1 hq with hq | hq
      · exact ⟨q, hq, e2⟩
      · simp only [List.mem_singleton] at hq; subst hq; exact absurd e2 e
theorem there_out {ck cv : List UInt8} {b3 : Bool} (L : BL) : (∀ p ∈ L, p.1 ≠ ck) → there ck cv b3 L = false := by
  induction L using snocInd with
  | h0 => intro _; rfl
  | h1 L p ih =>
    intro h1
    rw [there_snoc, if_neg (h1 p (by simp))]
    exact ih fun q hq => h1 q (List.mem_append_left _ hq)
theorem there_view (ws : List W) (w : W) (cv : List UInt8) (b3 : Bool) (h1 : b3 = true → w.gone = false ∧ w.v = cv) (h2 : b3 = false → w.gone = true) : there w.k cv b3 (viewL (ws ++ [w])) = b3 := by
  have hf : afind (vfold (ws ++ [w])) w.k = if w.gone then none else some w.v := by
    rw [vfold_snoc]
    unfold vstep
    split
    · rw [afind_adel, if_pos rfl]
    · rw [afind_aput, if_pos rfl]
  cases b3 with
  | true =>
    obtain ⟨a, b⟩ := h1 rfl
    rw [a, if_neg (by simp), b] at hf
    refine there_in _ (fun p hp e => ?_) ⟨(w.k, cv), viewL_mem.2 hf, rfl⟩
    have := viewL_mem.1 hp
    rw [e, hf] at this
    injection this with this
    exact this.symm
  | false =>
    rw [h2 rfl, if_pos rfl] at hf
    refine there_out _ fun p hp e => ?_
    have := viewL_mem.1 hp
    rw [e, hf] at this
    cases this
theorem view_other (ws : List W) (w : W) : but w.k (viewL (ws ++ [w])) = but w.k (viewL ws) := by
  refine but_same _ _ _ fun t ht => ?_
  rw [vfold_snoc]
  unfold vstep
  split
  · rw [afind_adel, if_neg ht]
  · rw [afind_aput, if_neg ht, afind_adel, if_neg ht]
theorem but_take {k : List UInt8} {L : BL} {x : Nat} (h : x < L.length) : but k (L.take (x + 1)) = but k (L.take x) ++ (if (L.getD x ([], [])).1 = k then [] else [L.getD x ([], [])]) := by
  have e : L.getD x ([], []) = L[x] := by simp [List.getD, h]
  rw [e, List.take_succ_eq_append_getElem h]
  unfold but
  rw [List.filter_append]
  congr 1
  by_cases hk : L[x].1 = k
  · simp [hk]
  · simp [hk]
theorem there_take {ck cv : List UInt8} {b3 : Bool} {L : BL} {x : Nat} (h : x < L.length) : there ck cv b3 (L.take (x + 1)) = if (L.getD x ([], [])).1 = ck then (b3 && decide ((L.getD x ([], [])).2 = cv)) else there ck cv b3 (L.take x) := by
  have e : L.getD x ([], []) = L[x] := by simp [List.getD, h]
  rw [e, List.take_succ_eq_append_getElem h, there_snoc]
theorem but_le (k : List UInt8) (L : BL) : (but k L).length ≤ L.length := List.length_filter_le _ _
theorem viewL_len (m : MS) (hm : m.Fits) (s : Nat) : (viewL (m.ws.take s)).length ≤ 1000 := by
  have h1 := vfold_length (m.ws.take s)
  have h2 : (m.ws.take s).length ≤ m.ws.length := by simp; omega
  have h3 := hm.n
  have h4 : (viewL (m.ws.take s)).length = (vfold (m.ws.take s)).length := by simp [viewL, sortS_length]
  omega
/-! What a call does to the writes. -/
theorem does_more {m : MS} {c : CL} (h : m.ws.length < (m.does c).ws.length) : ∃ w, (m.does c).ws = m.ws ++ [w] ∧ m.doesE c = 0 ∧ 0 ≤ c.what ∧ c.what ≤ 3 ∧ w.k = c.k ∧ (decide (c.what < 3) = true → w.gone = false ∧ w.v = c.v) ∧ (decide (c.what < 3) = false → w.gone = true) := by
  unfold MS.does at h ⊢
  unfold MS.doesE
  split
  · rename_i h0
    rw [if_pos h0] at h
    have hw : 0 ≤ c.what ∧ c.what < 3 := by omega
    unfold MS.put at h ⊢
    split
    · rename_i h1
      simp only [Bool.and_eq_true] at h1
      exact ⟨_, rfl, by simp [putE, h1.1, h1.2], hw.1, by omega, rfl, fun _ => ⟨rfl, rfl⟩, fun e => by simp at e; omega⟩
    · rename_i h1; rw [if_neg h1] at h; omega
  · rename_i h0
    rw [if_neg h0] at h
    split
    · rename_i h3
      rw [if_pos h3] at h
      unfold MS.del at h ⊢
      split
      · rename_i h1
        exact ⟨_, rfl, by simp [delE, h1], by omega, by omega, rfl, fun e => by simp at e; omega, fun _ => rfl⟩
      · rename_i h1; rw [if_neg h1] at h; omega
    · rename_i h3
      rw [if_neg h3] at h
      exfalso
      unfold MS.create MS.drop MS.cut at h
      repeat' split at h
      all_goals first | omega | (simp at h; done) | (simp at h; omega)
theorem does_not_more {m : MS} {c : CL} (h : (m.does c).ws.length ≤ m.ws.length) : (m.does c).ws = m.ws.take (m.does c).ws.length := by
  unfold MS.does MS.put MS.del MS.create MS.drop MS.cut at h ⊢
  repeat' split
  all_goals first | (simp; done) | skip
  all_goals exfalso
  all_goals repeat' split at h
  all_goals (simp_all; try omega)
theorem does_less {m : MS} {c : CL} (h : (m.does c).ws.length < m.ws.length) : c.what = 7 ∧ (m.does c).ws.length = c.n ∧ m.mark ≤ c.n := by
  unfold MS.does at h ⊢
  split
  · rename_i h0; rw [if_pos h0] at h; unfold MS.put at h; split at h <;> simp at h <;> omega
  · rename_i h0
    rw [if_neg h0] at h
    split
    · rename_i h1; rw [if_pos h1] at h; unfold MS.del at h; split at h <;> simp at h <;> omega
    · rename_i h1
      rw [if_neg h1] at h
      split
      · rename_i h2; rw [if_pos h2] at h; simp at h
      · rename_i h2
        rw [if_neg h2] at h
        split
        · rename_i h3; rw [if_pos h3] at h; unfold MS.create at h; split at h <;> simp at h
        · rename_i h3
          rw [if_neg h3] at h
          split
          · rename_i h4; rw [if_pos h4] at h; unfold MS.drop at h; split at h <;> simp at h
          · rename_i h4
            rw [if_neg h4] at h
            split
            · rename_i h5
              rw [if_pos h5] at h
              unfold MS.cut at h ⊢
              split
              · rename_i h6
                exact ⟨h5, by simp; omega, h6.1⟩
              · rename_i h6; rw [if_neg h6] at h; omega
            · rename_i h5; rw [if_neg h5] at h; omega
theorem does_mark {m : MS} (hm : m.Fits) (c : CL) : m.mark ≤ (m.does c).mark := by
  have := hm.mark
  unfold MS.does MS.put MS.del MS.create MS.drop MS.cut
  repeat' split
  all_goals first | (simp; omega) | simp | omega
theorem does_okN {m : MS} (h : ∀ p ∈ m.sn, okN p.1 = true) (c : CL) : ∀ p ∈ (m.does c).sn, okN p.1 = true := by
  unfold MS.does
  split
  · unfold MS.put; split <;> exact h
  · split
    · unfold MS.del; split <;> exact h
    · split
      · exact h
      · split
        · unfold MS.create
          split
          · rename_i h1
            intro p hp
            rw [sput_new (sfind_none.1 h1.2.1)] at hp
            rcases List.mem_append.1 hp with hp | hp
            · exact h p hp
            · simp only [List.mem_singleton] at hp; subst hp; exact h1.1
          · exact h
        · split
          · unfold MS.drop
            split
            · exact fun p hp => h p (List.mem_filter.1 hp).1
            · exact h
          · split
            · unfold MS.cut; split <;> exact h
            · exact h
/-! Snapshots, by their names. -/
theorem snaps_mem {m : MS} {p : List UInt8 × Nat} (hp : p ∈ m.snaps) : sfind m.sn p.1 = some p.2 ∧ p ∈ m.sn := by
  unfold MS.snaps at hp
  obtain ⟨k, hk, rfl⟩ := List.mem_map.1 hp
  rw [mem_sortS] at hk
  cases h : sfind m.sn k with
  | none => exact absurd hk (sfind_none.1 h)
  | some n => exact ⟨rfl, afind_mem h⟩
theorem snaps_rise {m : MS} (hm : m.Fits) {k : Nat} (h : k + 1 < m.snaps.length) : Op.bytesLess (m.snaps.getD k ([], 0)).1 (m.snaps.getD (k + 1) ([], 0)).1 = true := by
  rw [Go.Proofs.bytesLess_eq, decide_eq_true_eq]
  have e : m.snaps.map (·.1) = sortS (m.sn.map (·.1)) := by
    unfold MS.snaps
    rw [List.map_map]
    exact List.map_id'' (fun _ => rfl) _
  have h1 : (m.snaps.map (·.1)).Pairwise (fun x y => x ≤ y) := by rw [e]; exact sortS_sorted _
  have h2 : (m.snaps.map (·.1)).Nodup := by rw [e]; exact sortS_nodup hm.dup
  have h3 := List.pairwise_iff_getElem.1 h1 k (k + 1) (by simp; omega) (by simp; omega) (by omega)
  have h4 := List.pairwise_iff_getElem.1 h2 k (k + 1) (by simp; omega) (by simp; omega) (by omega)
  simp only [List.getElem_map] at h3 h4
  have a : m.snaps.getD k ([], 0) = m.snaps[k] := by simp [List.getD, show k < m.snaps.length by omega]
  have b : m.snaps.getD (k + 1) ([], 0) = m.snaps[k + 1] := by simp [List.getD, h]
  rw [a, b]
  rcases List.le_iff_lt_or_eq.1 h3 with h5 | h5
  · exact h5
  · exact absurd h5 h4
theorem snaps_at {m : MS} (hm : m.Fits) (hk : ∀ p ∈ m.sn, okN p.1 = true) {p : List UInt8 × Nat} (hp : p ∈ m.snaps) : m.snapV p.1 = p.2 ∧ m.snapE p.1 = 0 ∧ p.2 ≤ m.mark := by
  obtain ⟨h1, h2⟩ := snaps_mem hp
  have h3 := hk p h2
  exact ⟨by simp [MS.snapV, h1, h3], by simp [MS.snapE, h1, h3], hm.nums p h2⟩
theorem snaps_len (m : MS) (hm : m.Fits) : m.snaps.length ≤ 16 := by have := hm.sn; simp [MS.snaps, sortS_length]; omega
end Go.Proofs.Ytaoambbfjdijjaa.Ax
