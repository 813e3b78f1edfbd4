/-
  Chapter 26: views.
-/
import Derived.Test.YtaoambbfjdijjaaMc
namespace Go.Proofs.Ytaoambbfjdijjaa.Ax
open Go.RowKit
set_option maxRecDepth 100000
abbrev BL := List (List UInt8 × List UInt8)
def vstep (v : BL) (w : W) : BL := if w.gone then adel v w.k else aput (adel v w.k) w.k w.v
def vfold (ws : List W) : BL := ws.foldl vstep []
def viewL (ws : List W) : BL := (sortS ((vfold ws).map (·.1))).map fun k => (k, (afind (vfold ws) k).getD [])
def viewF (l : BL) (i : Nat) : List IV := [.bs (l.getD i ([], [])).1, .bs (l.getD i ([], [])).2]
def vm (v : BL) : List (MK × IV) := smap (fun l => IV.bs l) v
theorem adel_sub {β : Type} (l : List (List UInt8 × β)) (s : List UInt8) : ∀ p ∈ adel l s, p ∈ l := fun _ h => (List.mem_filter.1 h).1
theorem aput_mem {β : Type} {s : List UInt8} {n : β} : ∀ {l : List (List UInt8 × β)}, ∀ p ∈ aput l s n, p ∈ l ∨ p = (s, n)
  | [], p, h => .inr (by simpa [aput] using h)
  | q :: qs, p, h => by
    unfold aput at h
    by_cases e : q.1 = s
    · rw [if_pos e] at h
      rcases List.mem_cons.1 h with h | h
      · exact .inr h
      · exact .inl (List.mem_cons_of_mem _ h)
    · rw [if_neg e] at h
      rcases List.mem_cons.1 h with h | h
      · exact .inl (h ▸ List.mem_cons_self ..)
      · exact (aput_mem p h).imp (List.mem_cons_of_mem _) id
theorem vstep_mem {v : BL} {w : W} : ∀ p ∈ vstep v w, p ∈ v ∨ p = (w.k, w.v) := fun p h => by
  unfold vstep at h
  by_cases e : w.gone = true
  · rw [if_pos e] at h; exact .inl (adel_sub _ _ p h)
  · rw [if_neg e] at h; exact (aput_mem p h).imp (adel_sub _ _ p) id
theorem vfold_snoc (ws : List W) (w : W) : vfold (ws ++ [w]) = vstep (vfold ws) w := by simp [vfold]
theorem snocInd {α : Type} {p : List α → Prop} (h0 : p []) (h1 : ∀ l a, p l → p (l ++ [a])) (l : List α) : p l := by
  have key : ∀ r : List α, p r.reverse := fun r => by
    induction r with
    | nil => exact h0
    | cons a r ih => rw [List.reverse_cons]; exact h1 _ _ ih
  have := key l.reverse
  rwa [List.reverse_reverse] at this
theorem vfold_mem (ws : List W) : ∀ p ∈ vfold ws, ∃ w ∈ ws, p = (w.k, w.v) := by
  induction ws using snocInd with
  | h0 => intro p h; simp [vfold] at h
  | h1 ws w ih =>
    intro p h
    rw [vfold_snoc] at h
    rcases vstep_mem p h with h | h
    · obtain ⟨x, hx, e⟩ := ih p h
      exact ⟨x, List.mem_append_left _ hx, e⟩
    · exact ⟨w, by simp, h⟩
theorem aput_length {β : Type} {s : List UInt8} {n : β} : ∀ l : List (List UInt8 × β), (aput l s n).length ≤ l.length + 1
  | [] => by simp [aput]
  | q :: qs => by
    unfold aput
    have := aput_length (s := s) (n := n) qs
    split <;> simp <;> omega
theorem vfold_length (ws : List W) : (vfold ws).length ≤ ws.length := by
  induction ws using snocInd with
  | h0 => simp [vfold]
  | h1 ws w ih =>
    rw [vfold_snoc]
    unfold vstep
    have h1 : (adel (vfold ws) w.k).length ≤ (vfold ws).length := List.length_filter_le _ _
    have h2 := aput_length (s := w.k) (n := w.v) (adel (vfold ws) w.k)
    split <;> simp <;> omega
theorem take_snoc {ws : List W} {i : Nat} (h : i < ws.length) : ws.take (i + 1) = ws.take i ++ [ws.getD i ⟨[], [], true⟩] := by
  rw [List.take_succ_eq_append_getElem h]
  simp [List.getD, h]
theorem vm_del (v : BL) (k : List UInt8) : mdel (vm v) (.s k) = vm (adel v k) := mdel_smap _ _ _
theorem vm_put (v : BL) (k x : List UInt8) : mput (vm v) (.s k) (.bs x) = vm (aput v k x) := mput_smap (fun l => IV.bs l) k x v
theorem vm_find (v : BL) (k : List UInt8) : mfind (vm v) (.s k) = (afind v k).map fun l => IV.bs l := mfind_smap _ _ _
section
variable (m : MS)
theorem view_ok (hm : m.Fits) (s : Nat) (hs : s ≤ 18446744073709551615) : AFn Go.Proofs.Try.prog 17 [.ptr 0 0, AV.int .u64 s] (one m.H) (fun _ : Unit => .iv (.sl 2 (viewL (m.ws.take s)).length (viewF (viewL (m.ws.take s))))) (fun _ => one m.H) := by
  have hn0 := hm.n
  refine ACall.fin ?_
  refine ACall.walkE (C := cfgF 62 1) (cfgFOk _ _) sch17 (fn := Go.Proofs.Try.f17) (by kernel_rfl) (by kernel_rfl) rfl (by kernel_rfl) (by kernel_rfl) rfl rfl (H1 := m.H) (fun _ _ => (HEnt.openOne (m.H) rfl rfl).ent) fun hlen hheap => ?_
  (conv => whnf); repeat ((first | (refine And.intro ?_ ?_; (focus ((repeat' (first | exact trivial | refine And.intro rfl ?_)); done))) | (refine And.intro ?_ ?_; (focus (first | omega | (simp -iota; omega) | (simp -iota; done) | decide)))); conv => whnf)
  refine AFn.use [0, 1, 2] (none_in m) (by kernel_rfl) rfl (by repeat' first | exact trivial | refine ⟨rfl, ?_⟩) fun _ => ?_
  (conv => whnf); repeat ((first | (refine And.intro ?_ ?_; (focus ((repeat' (first | exact trivial | refine And.intro rfl ?_)); done))) | (refine And.intro ?_ ?_; (focus (first | omega | (simp -iota; omega) | (simp -iota; done) | decide)))); conv => whnf)
  refine AFn.use [0, 1, 2] (seq_in m hn0) (by kernel_rfl) rfl (by repeat' first | exact trivial | refine ⟨rfl, ?_⟩) fun _ => ?_
  (conv => whnf); repeat ((first | (refine And.intro ?_ ?_; (focus ((repeat' (first | exact trivial | refine And.intro rfl ?_)); done))) | (refine And.intro ?_ ?_; (focus (first | omega | (simp -iota; omega) | (simp -iota; done) | decide)))); conv => whnf)
  refine AWP.loop (X := { i : Nat // i ≤ min s m.ws.length }) (fun i => [(5, .mp 3), (22, .row 1 3 0 (min s m.ws.length)), (23, AV.int .i64 (min s m.ws.length : Nat)), (24, AV.int .i64 i.1)]) (fun i => ⟨4, m.H.ch ++ [(3, .map none (vm (vfold (m.ws.take i.1))))]⟩) (fun i => min s m.ws.length - i.1) (⟨0, Nat.zero_le _⟩) ?_ fun i => AWP.go (S := sch17) (cfgFOk _ _) (.of_eq (by kernel_rfl)) ?_
  · refine Ent.mk' [some 0, some 1, some 2, some 3] (by kernel_rfl) ⟨AVE.refl _, AVE.len (by simp; omega), AVE.int (by simp; omega), AVE.refl _, trivial⟩ (by (repeat' first | exact trivial | refine ⟨⟨_, rfl, ChE.refl _⟩, ?_⟩))
  · obtain ⟨i, hi⟩ := i
    (conv => whnf); repeat ((first | (refine And.intro ?_ ?_; (focus ((repeat' (first | exact trivial | refine And.intro rfl ?_)); done))) | (refine And.intro ?_ ?_; (focus (first | omega | (simp -iota; omega) | (simp -iota; done) | decide)))); conv => whnf)
    refine branchB_of (fun h1 => ?_) (fun h1 => ?_) <;> (first | replace h1 := not_t h1 | replace h1 := not_f h1 | skip) <;> (first | replace h1 := of_decide_eq_true h1 | replace h1 := of_decide_eq_false h1 | skip) <;> (first | replace h1 := Classical.not_not.1 h1 | skip) <;> (try dsimp only at h1)
    · have hlt : i < m.ws.length := by omega
      have hix : 0 + ((i : Nat) : Int).toNat = i := by simp
      have hts := take_snoc hlt
      (conv => whnf); repeat ((first | (refine And.intro ?_ ?_; (focus ((repeat' (first | exact trivial | refine And.intro rfl ?_)); done))) | (refine And.intro ?_ ?_; (focus (first | omega | (simp -iota; omega) | (simp -iota; done) | decide)))); conv => whnf)
      simp -iota only [hix]
      generalize m.ws.getD i ⟨[], [], true⟩ = w at hts
      refine branchB_of (fun h2 => ?_) (fun h2 => ?_) <;> (first | replace h2 := not_t h2 | replace h2 := not_f h2 | skip) <;> (first | replace h2 := of_decide_eq_true h2 | replace h2 := of_decide_eq_false h2 | skip) <;> (first | replace h2 := Classical.not_not.1 h2 | skip) <;> (try dsimp only at h2)
      · (conv => whnf); repeat ((first | (refine And.intro ?_ ?_; (focus ((repeat' (first | exact trivial | refine And.intro rfl ?_)); done))) | (refine And.intro ?_ ?_; (focus (first | omega | (simp -iota; omega) | (simp -iota; done) | decide)))); conv => whnf)
        refine ⟨⟨i + 1, by omega⟩, Ent.mk' [some 0, some 1, some 2, some 3] (by kernel_rfl) (by repeat' first | exact trivial | refine And.intro (AVE.refl _) ?_ | refine And.intro (AVE.int (by first | rfl | omega | (simp -iota; omega) | (simp -iota; done))) ?_ | refine And.intro (AVE.bool (by assumption)) ?_ | refine And.intro (AVE.len (by first | rfl | omega | (simp -iota; omega) | (simp -iota; done))) ?_) ?_, ?_⟩
        · refine ⟨⟨_, rfl, ChE.refl _⟩, ⟨_, rfl, ChE.refl _⟩, ⟨_, rfl, ChE.refl _⟩, ⟨_, rfl, ChE.of_eq ?_⟩, trivial⟩
          show Chunk.map none (mput (mdel (vm _) (.s w.k)) (.s w.k) (.bs w.v)) = Chunk.map none (vm (vfold (m.ws.take (i + 1))))
          rw [hts, vfold_snoc, vm_del, vm_put]
          unfold vstep
          rw [if_neg (by simp [h2])]
        · show min s m.ws.length - (i + 1) < min s m.ws.length - i
          omega
      · (conv => whnf); repeat ((first | (refine And.intro ?_ ?_; (focus ((repeat' (first | exact trivial | refine And.intro rfl ?_)); done))) | (refine And.intro ?_ ?_; (focus (first | omega | (simp -iota; omega) | (simp -iota; done) | decide)))); conv => whnf)
        refine ⟨⟨i + 1, by omega⟩, Ent.mk' [some 0, some 1, some 2, some 3] (by kernel_rfl) (by repeat' first | exact trivial | refine And.intro (AVE.refl _) ?_ | refine And.intro (AVE.int (by first | rfl | omega | (simp -iota; omega) | (simp -iota; done))) ?_ | refine And.intro (AVE.bool (by assumption)) ?_ | refine And.intro (AVE.len (by first | rfl | omega | (simp -iota; omega) | (simp -iota; done))) ?_) ?_, ?_⟩
        · refine ⟨⟨_, rfl, ChE.refl _⟩, ⟨_, rfl, ChE.refl _⟩, ⟨_, rfl, ChE.refl _⟩, ⟨_, rfl, ChE.of_eq ?_⟩, trivial⟩
          show Chunk.map none (mdel (vm _) (.s w.k)) = Chunk.map none (vm (vfold (m.ws.take (i + 1))))
          rw [hts, vfold_snoc, vm_del]
          unfold vstep
          rw [if_pos (by simpa using h2)]
        · show min s m.ws.length - (i + 1) < min s m.ws.length - i
          omega
    · have hi' : i = min s m.ws.length := by omega
      have htk : m.ws.take i = m.ws.take s := by
        rw [hi']
        rcases Nat.le_total s m.ws.length with h | h
        · rw [Nat.min_eq_left h]
        · rw [Nat.min_eq_right h, List.take_of_length_le (Nat.le_refl _), List.take_of_length_le h]
      simp -iota only [htk]
      generalize hv : m.ws.take s = vs
      have hvs : ∀ p ∈ vfold vs, p.1.length ≤ 64 ∧ p.2.length ≤ 1024 := fun p hp => by
        obtain ⟨w, hw, rfl⟩ := vfold_mem vs p hp
        have hw' : w ∈ m.ws := by rw [← hv] at hw; exact List.mem_of_mem_take hw
        exact ⟨hm.k w hw', hm.v w hw'⟩
      have hvl := vfold_length vs
      have hvl2 : vs.length ≤ 1000 := by rw [← hv]; simp; omega
      have hkv : keysS (vm (vfold vs)) = (vfold vs).map (·.1) := keysS_smap _ _
      (conv => whnf); repeat ((first | (refine And.intro ?_ ?_; (focus ((repeat' (first | exact trivial | refine And.intro rfl ?_)); done))) | (refine And.intro ?_ ?_; (focus (first | omega | (simp -iota; omega) | (simp -iota; done) | decide)))); conv => whnf)
      refine AFn.use [3] (keys58_ok (vm (vfold vs))) (by kernel_rfl) rfl (by repeat' first | exact trivial | refine ⟨rfl, ?_⟩) fun _ => ?_
      (conv => whnf); repeat ((first | (refine And.intro ?_ ?_; (focus ((repeat' (first | exact trivial | refine And.intro rfl ?_)); done))) | (refine And.intro ?_ ?_; (focus (first | omega | (simp -iota; omega) | (simp -iota; done) | decide)))); conv => whnf)
      refine AFn.use [4, 3] (sorted58 (vm (vfold vs)) (by unfold vm; rw [smap_length]; omega) (by rw [hkv]; intro x hx; obtain ⟨p, hp, rfl⟩ := List.mem_map.1 hx; have := hvs p hp; omega)) (by kernel_rfl) rfl (by repeat' first | exact trivial | refine ⟨rfl, ?_⟩) fun _ => ?_
      (conv => whnf); repeat ((first | (refine And.intro ?_ ?_; (focus ((repeat' (first | exact trivial | refine And.intro rfl ?_)); done))) | (refine And.intro ?_ ?_; (focus (first | omega | (simp -iota; omega) | (simp -iota; done) | decide)))); conv => whnf)
      rw [hkv]
      have hsl : (viewL vs).length = (sortS ((vfold vs).map (·.1))).length := by simp [viewL]
      have hsl2 : (viewL vs).length ≤ 1000 := by rw [hsl, sortS_length]; simp; omega
      have hget : ∀ j, j < (viewL vs).length → (viewL vs).getD j ([], []) = ((sortS ((vfold vs).map (·.1))).getD j [], (afind (vfold vs) ((sortS ((vfold vs).map (·.1))).getD j [])).getD []) := fun j hj => by
        have h1 : j < (sortS ((vfold vs).map (·.1))).length := by omega
        simp only [viewL, List.getD, List.getElem?_map, List.getElem?_eq_getElem h1, Option.map_some, Option.getD_some]
      refine AWP.loop (X := { j : Nat // j ≤ (viewL vs).length }) (fun j => [(5, .mp 3), (8, .row 4 2 0 j.1), (44, .iv (strRow (sortS ((vfold vs).map (·.1))))), (45, AV.int .i64 (viewL vs).length), (46, AV.int .i64 j.1)]) (fun j => ⟨5, m.H.ch ++ [(3, .map none (vm (vfold vs))), (4, .rowc 37 2 j.1 (viewF (viewL vs)))]⟩) (fun j => (viewL vs).length - j.1) (⟨0, Nat.zero_le _⟩) ?_ fun j => AWP.go (S := sch17) (cfgFOk _ _) (.of_eq (by kernel_rfl)) ?_
      · refine Ent.mk' [some 0, some 1, some 2, some 3, none] (by kernel_rfl) ?_ ?_
        · exact ⟨AVE.refl _, AVE.nil _ _, AVE.refl _, AVE.int (by rw [hsl]), AVE.refl _, trivial⟩
        · exact ⟨⟨_, rfl, ChE.refl _⟩, ⟨_, rfl, ChE.refl _⟩, ⟨_, rfl, ChE.refl _⟩, ⟨_, rfl, ChE.refl _⟩, trivial, trivial⟩
      · obtain ⟨j, hj⟩ := j
        (conv => whnf); repeat ((first | (refine And.intro ?_ ?_; (focus ((repeat' (first | exact trivial | refine And.intro rfl ?_)); done))) | (refine And.intro ?_ ?_; (focus (first | omega | (simp -iota; omega) | (simp -iota; done) | decide)))); conv => whnf)
        refine branchB_of (fun h3 => ?_) (fun h3 => ?_) <;> (first | replace h3 := not_t h3 | replace h3 := not_f h3 | skip) <;> (first | replace h3 := of_decide_eq_true h3 | replace h3 := of_decide_eq_false h3 | skip) <;> (first | replace h3 := Classical.not_not.1 h3 | skip) <;> (try dsimp only at h3)
        · have hk : (sortS ((vfold vs).map (·.1))).getD j [] ∈ (vfold vs).map (·.1) := by
            have h1 : j < (sortS ((vfold vs).map (·.1))).length := by omega
            rw [← mem_sortS]
            simp [List.getD, h1]
          have hjx : ((j : Nat) : Int).toNat = j := by simp
          have hkl : ((sortS ((vfold vs).map (·.1))).getD j []).length ≤ 64 := by
            obtain ⟨p, hp, e⟩ := List.mem_map.1 hk
            rw [← e]; exact (hvs p hp).1
          (conv => whnf); repeat ((first | (refine And.intro ?_ ?_; (focus ((repeat' (first | exact trivial | refine And.intro rfl ?_)); done))) | (refine And.intro ?_ ?_; (focus (first | omega | (simp -iota; omega) | (simp -iota; done) | decide)))); conv => whnf)
          refine And.intro (by simp only [hjx]; omega) ?_
          (conv => whnf); repeat ((first | (refine And.intro ?_ ?_; (focus ((repeat' (first | exact trivial | refine And.intro rfl ?_)); done))) | (refine And.intro ?_ ?_; (focus (first | omega | (simp -iota; omega) | (simp -iota; done) | decide)))); conv => whnf)
          rw [vm_find]
          refine ⟨fun x hx => ?_, fun hx => ?_⟩
          · simp only [Option.map_eq_some_iff] at hx
            obtain ⟨n, hn, rfl⟩ := hx
            simp only [hjx] at hn
            have hnl := (hvs _ (afind_mem hn)).2
            (conv => whnf); repeat ((first | (refine And.intro ?_ ?_; (focus ((repeat' (first | exact trivial | refine And.intro rfl ?_)); done))) | (refine And.intro ?_ ?_; (focus (first | omega | (simp -iota; omega) | (simp -iota; done) | decide)))); conv => whnf)
            refine AFn.use [] (clone_ok n (by simp at hnl; omega)) (by kernel_rfl) rfl (by repeat' first | exact trivial | refine ⟨rfl, ?_⟩) fun _ => ?_
            (conv => whnf); repeat ((first | (refine And.intro ?_ ?_; (focus ((repeat' (first | exact trivial | refine And.intro rfl ?_)); done))) | (refine And.intro ?_ ?_; (focus (first | omega | (simp -iota; omega) | (simp -iota; done) | decide)))); conv => whnf)
            refine ⟨⟨j + 1, by omega⟩, Ent.mk' [some 0, some 1, some 2, some 3, some 5] (by kernel_rfl) (by repeat' first | exact trivial | refine And.intro (AVE.refl _) ?_ | refine And.intro (AVE.int (by first | rfl | omega | (simp -iota; omega) | (simp -iota; done))) ?_ | refine And.intro (AVE.bool (by assumption)) ?_ | refine And.intro (AVE.len (by first | rfl | omega | (simp -iota; omega) | (simp -iota; done))) ?_) ?_, ?_⟩
            · exact ⟨⟨_, rfl, ChE.refl _⟩, ⟨_, rfl, ChE.refl _⟩, ⟨_, rfl, ChE.refl _⟩, ⟨_, rfl, ChE.refl _⟩, ⟨_, rfl, ChE.push (fun _ _ => rfl) (by simp only [viewF]; rw [hget j (by omega), hn]; exact IVEs.refl _)⟩, trivial⟩
            · show (viewL vs).length - (j + 1) < (viewL vs).length - j
              omega
          · simp only [Option.map_eq_none_iff, hjx] at hx
            exact absurd hk (afind_none.1 hx)
        · (conv => whnf); repeat ((first | (refine And.intro ?_ ?_; (focus ((repeat' (first | exact trivial | refine And.intro rfl ?_)); done))) | (refine And.intro ?_ ?_; (focus (first | omega | (simp -iota; omega) | (simp -iota; done) | decide)))); conv => whnf)
          have hj' : j = (viewL vs).length := by omega
          subst hj'
          refine ⟨_, _, (Ent.freeze 4 _ rfl rfl (e' := [(0, .iv (.sl 2 (viewL vs).length (viewF (viewL vs))))]) ?_).trans (Ent.shutAt (r2 := .iv (.sl 2 (viewL vs).length (viewF (viewL vs)))) [some 0, some 1, some 2] (m.H) rfl (by kernel_rfl) (AVE.of_eq ?_) ?_ (by kernel_rfl) (by kernel_rfl) (by repeat' first | exact trivial | refine ⟨rfl, ?_⟩) rfl), (), ?_, ?_⟩
          · exact ⟨AVF.sl (Nat.le_refl _), trivial⟩
          all_goals first | rfl | ((repeat' (first | exact trivial | refine ⟨⟨_, rfl, ChE.refl _⟩, ?_⟩)); done) | (simp [AV.ren, AV.rens, Chunk.ren, sigO]; done) | (simp [AV.ren, AV.rens, Chunk.ren, sigO]; omega)
end
end Go.Proofs.Ytaoambbfjdijjaa.Ax
