/-
  Chapter 23: states that are alike; a state made anew by its edits (plain words).
-/
import Derived.Test.YtmlhaellfpbcgaaDoorQe
namespace Go.Proofs.YtmlhaellfpbcgaaDoor.Ax
open Go.RowKit
set_option maxRecDepth 100000
theorem list_len16' {s : SN} (hs : s.Ok) : s.list.length ≤ 16 := by
  unfold SN.list
  rw [listS_length]
  have := hs.len
  simp [SN.nqs]
  omega
/-- The seals of a state are as wide as their types. -/
def SB (s : SD) : Prop := ∀ x ∈ s.sealed, x.B
theorem app_sealed (s : SD) (e : Edt) : (s.app e).sealed = s.sealed ∨ (s.app e).sealed = e.seals ∨ ((s.app e).sealed = s.sealed ++ [e.x] ∧ e.seals.length = 1) := by
  by_cases h0 : s.appE e = 0
  rotate_left
  · rw [app_no s e h0]; exact .inl rfl
  obtain ⟨hm, hf, he⟩ := app_yes s e h0
  rw [he]
  have hp := may_hp e hm
  unfold SD.dd
  split
  · unfold SD.d1; cases s.f1 e <;> exact .inl rfl
  split
  · exact .inl rfl
  split
  · exact .inl rfl
  split
  · unfold SD.d4; cases s.f4 e <;> exact .inl rfl
  split
  · rename_i hk
    have h1 := hp.2.2.2.2.2.2.2.2.1 hk
    unfold SD.d5
    cases s.f5 e
    · exact .inl rfl
    · exact .inr (.inr ⟨rfl, h1⟩)
  · unfold SD.d6
    cases s.f6 e
    · exact .inl rfl
    · exact .inr (.inl rfl)
theorem app_B {s : SD} {e : Edt} (hs : SB s) (he : e.In) : SB (s.app e) := by
  intro x hx
  rcases app_sealed s e with h | h | ⟨h, h1⟩ <;> rw [h] at hx
  · exact hs x hx
  · exact he.b x hx
  · rcases List.mem_append.1 hx with hx | hx
    · exact hs x hx
    · rw [List.mem_singleton.1 hx]
      refine he.b _ ?_
      unfold Edt.x
      show e.seals.getD 0 default ∈ e.seals
      rw [List.getD_eq_getElem?_getD, List.getElem?_eq_getElem (by omega)]
      exact List.getElem_mem _
structure SD.Sim (s t : SD) : Prop where
  last : s.last = t.last
  op : s.op = t.op
  sealed : s.sealed = t.sealed
  perm : s.sn.nqs.Perm t.sn.nqs
theorem nqs_nodup {s : SN} (hs : s.Ok) : (s.nqs.map (·.1)).Nodup := by rw [nqs_keys]; exact hs.dup
section
variable {s t : SD} {c d : Nat} (h : s.Sim t) (hs : s.Ok c) (ht : t.Ok d)
include h hs ht
theorem Sim.list : s.sn.list = t.sn.list := listS_same (nqs_nodup hs.sn) (nqs_nodup ht.sn) h.perm
theorem Sim.same : s.same t = true := decide_eq_true ⟨h.last, h.op, Sim.list h hs ht, h.sealed⟩
theorem Sim.edits : s.edits = t.edits := by
  unfold SD.edits SD.ed1 SD.ed2 SD.ed3
  rw [Sim.list h hs ht, h.sealed, h.last, h.op]
omit hs ht in
theorem Sim.top : s.top = t.top := by
  unfold SD.top
  rw [h.op, h.sealed]
omit hs ht in
theorem Sim.there (x : List UInt8) : (afind s.sn.l x).isSome = (afind t.sn.l x).isSome := by
  have key : ∀ a : SN, (afind a.l x).isSome = true ↔ x ∈ a.nqs.map (·.1) := fun a => by
    rw [nqs_keys]
    cases hf : afind a.l x with
    | none => simp only [Option.isSome_none, Bool.false_eq_true, false_iff]; exact afind_none.1 hf
    | some p => simp only [Option.isSome_some, true_iff]; exact List.mem_map.2 ⟨_, afind_mem hf, rfl⟩
  rw [Bool.eq_iff_iff, key, key]
  exact (h.perm.map _).mem_iff
omit hs ht in
theorem Sim.len : s.sn.l.length = t.sn.l.length := by
  have := h.perm.length_eq
  simpa [SN.nqs] using this
omit hs ht in
theorem Sim.addE (x : List UInt8) (q : Nat) : s.sn.addE x q = t.sn.addE x q := by
  unfold SN.addE
  rw [Sim.there h, Sim.len h]
omit hs ht in
theorem Sim.findE (x : List UInt8) : s.sn.findE x = t.sn.findE x := by
  unfold SN.findE
  rw [Sim.there h]
omit hs ht in
theorem Sim.fo (e : Edt) : s.fo e = t.fo e := by
  unfold SD.fo SD.f1 SD.f2 SD.f3 SD.f4 SD.f5 SD.f6
  rw [h.last, Sim.addE h, Sim.findE h, h.op, Sim.top h, h.sealed]
omit hs ht in
theorem Sim.appE (e : Edt) : s.appE e = t.appE e := by
  unfold SD.appE
  rw [Sim.fo h]
omit hs ht in
theorem Sim.add (x : List UInt8) (q : Nat) : (s.sn.add x q).nqs.Perm (t.sn.add x q).nqs := by
  by_cases h0 : s.sn.addE x q = 0
  · rw [add_l s.sn h0, add_l t.sn ((Sim.addE h x q) ▸ h0)]
    have e : ∀ (a : SN) (n : Nat), (SN.mk (a.l ++ [(x, (q, n))]) n).nqs = a.nqs ++ [(x, q)] := fun a n => by simp [SN.nqs]
    rw [e, e]
    exact h.perm.append_right _
  · rw [add_same s.sn h0, add_same t.sn ((Sim.addE h x q) ▸ h0)]
    exact h.perm
omit hs ht in
theorem Sim.drop (x : List UInt8) : (s.sn.drop x).nqs.Perm (t.sn.drop x).nqs := by
  unfold SN.drop
  rw [Sim.findE h]
  split
  · have e : ∀ a : SN, (SN.mk (adel a.l x) a.n).nqs = adel a.nqs x := fun a => by
      unfold SN.nqs adel
      rw [List.filter_map]
      rfl
    rw [e, e]
    exact h.perm.filter _
  · exact h.perm
omit hs ht in
theorem Sim.app (e : Edt) : (s.app e).Sim (t.app e) := by
  by_cases h0 : s.appE e = 0
  rotate_left
  · rw [app_no s e h0, app_no t e ((Sim.appE h e) ▸ h0)]
    exact h
  obtain ⟨hm, hf, he⟩ := app_yes s e h0
  obtain ⟨_, hf', he'⟩ := app_yes t e ((Sim.appE h e) ▸ h0)
  rw [he, he']
  unfold SD.fo at hf hf'
  unfold SD.dd
  split
  · rename_i hk
    rw [if_pos hk] at hf hf'
    unfold SD.d1
    rw [hf, hf']
    refine ⟨?_, h.op, h.sealed, h.perm⟩
    show lastF e.seq s.sealed = lastF e.seq t.sealed
    rw [h.sealed]
  rename_i hk
  rw [if_neg hk] at hf hf'
  split
  · exact ⟨h.last, h.op, h.sealed, Sim.add h _ _⟩
  rename_i hk
  rw [if_neg hk] at hf hf'
  split
  · exact ⟨h.last, h.op, h.sealed, Sim.drop h _⟩
  rename_i hk
  rw [if_neg hk] at hf hf'
  split
  · rename_i hk
    rw [if_pos hk] at hf hf'
    unfold SD.d4
    rw [hf, hf']
    exact ⟨h.last, rfl, h.sealed, h.perm⟩
  rename_i hk
  rw [if_neg hk] at hf hf'
  split
  · rename_i hk
    rw [if_pos hk] at hf hf'
    unfold SD.d5
    rw [hf, hf']
    refine ⟨?_, rfl, ?_, h.perm⟩
    · show lastF s.base (s.sealed ++ [e.x]) = lastF t.base (t.sealed ++ [e.x])
      rw [lastF_snoc, lastF_snoc]
      have := h.last
      unfold SD.last at this
      rw [this]
    · show s.sealed ++ [e.x] = t.sealed ++ [e.x]
      rw [h.sealed]
  rename_i hk
  rw [if_neg hk] at hf hf'
  unfold SD.d6
  rw [hf, hf']
  exact ⟨rfl, h.op, rfl, h.perm⟩
end
/-- Edits that follow, one behind the other. -/
inductive Runs : SD → List Edt → SD → Prop
  | nil (s : SD) : Runs s [] s
  | cons {s : SD} {e : Edt} {l : List Edt} {t : SD} : s.appE e = 0 → Runs (s.app e) l t → Runs s (e :: l) t
theorem Runs.app {a b c : SD} {l m : List Edt} (h : Runs a l b) (h' : Runs b m c) : Runs a (l ++ m) c := by
  induction h with
  | nil s => exact h'
  | cons h1 _ ih => exact .cons h1 (ih h')
theorem Runs.one {a : SD} {e : Edt} (h : a.appE e = 0) : Runs a [e] (a.app e) := .cons h (.nil _)
def runAll (s : SD) (l : List Edt) : SD := l.foldl SD.app s
theorem Runs.at {s t : SD} {l : List Edt} (h : Runs s l t) : ∀ k, k < l.length → (runAll s (l.take k)).appE (l.getD k default) = 0 := by
  induction h with
  | nil s => intro k hk; simp at hk
  | cons h1 _ ih =>
    intro k hk
    cases k with
    | zero => exact h1
    | succ k => exact ih k (by simpa using hk)
theorem Runs.end {s t : SD} {l : List Edt} (h : Runs s l t) : runAll s l = t := by
  induction h with
  | nil s => rfl
  | cons h1 _ ih => exact ih
theorem runAll_take (s : SD) (l : List Edt) {k : Nat} (hk : k < l.length) : runAll s (l.take (k + 1)) = (runAll s (l.take k)).app (l.getD k default) := by
  unfold runAll
  rw [List.take_add_one, List.foldl_append, List.getElem?_eq_getElem hk]
  simp [List.getD, hk]
theorem runAll_Ok {c : Nat} {s : SD} (hs : s.Ok c) : ∀ (l : List Edt), c + l.length ≤ 1000 → (runAll s l).Ok (c + l.length) := by
  intro l
  induction l generalizing s c with
  | nil => intro _; exact hs
  | cons e l ih =>
    intro hl
    have hl' : c + (l.length + 1) ≤ 1000 := hl
    have := ih (app_Ok s e hs (by omega)).ok (by omega)
    rw [show c + (e :: l).length = c + 1 + l.length by simp; omega]
    exact this
/-- What the snapshots' edits make. -/
structure Half (A : List NQ) (t : SD) : Prop where
  base : t.base = 0
  sealed : t.sealed = []
  op : t.op = 0
  nqs : t.sn.nqs = A
theorem appE_zero {s : SD} {e : Edt} (hm : e.may = true) (hf : s.fo e = true) : s.appE e = 0 ∧ s.app e = s.dd e := by
  unfold SD.appE SD.app
  rw [hm, hf]
  exact ⟨rfl, rfl⟩
theorem may_of {e : Edt} (h : e.HP) (h' : sealsOk e.seals = true) : e.may = true := by
  unfold Edt.may Edt.head
  rw [decide_eq_true h, h']
  rfl
theorem snaps_run (L : List NQ) (hn : (L.map (·.1)).Nodup) (hlen : L.length ≤ 16) (hk : ∀ p ∈ L, okN p.1 = true ∧ p.2 ≤ 1099511627776) : ∀ (B A : List NQ) (t : SD), A ++ B = L → Half A t → ∃ u, Runs t (B.map snE) u ∧ Half L u := by
  intro B
  induction B with
  | nil =>
    intro A t hA ht
    rw [List.append_nil] at hA
    subst hA
    exact ⟨t, .nil t, ht⟩
  | cons p B ih =>
    intro A t hA ht
    have hp : p ∈ L := by rw [← hA]; simp
    obtain ⟨hk1, hk2⟩ := hk p hp
    have hk3 : 1 ≤ p.1.length ∧ p.1.length ≤ 32 := of_decide_eq_true hk1
    have hm : (snE p).may = true := may_of (by unfold Edt.HP snE; dsimp only [List.length_nil]; omega) rfl
    have hnot : p.1 ∉ t.sn.l.map (·.1) := by
      rw [← nqs_keys, ht.nqs]
      rw [← hA, List.map_append, List.nodup_append] at hn
      exact fun hc => hn.2.2 p.1 hc p.1 (by simp) rfl
    have hle : t.sn.l.length = A.length := by
      have := congrArg List.length ht.nqs
      simpa [SN.nqs] using this
    have hlt : A.length < 16 := by
      have := congrArg List.length hA
      simp at this
      omega
    have hadd : t.sn.addE p.1 p.2 = 0 := by
      unfold SN.addE
      rw [hk1, afind_none.2 hnot, decide_eq_false (show ¬ 1099511627776 < p.2 by omega), decide_eq_false (show ¬ 16 ≤ t.sn.l.length by omega)]
      rfl
    have hf : t.fo (snE p) = true := by
      show (if (2 : Int) = 1 then t.f1 (snE p) else if (2 : Int) = 2 then t.f2 (snE p) else _) = true
      rw [if_neg (by decide), if_pos rfl]
      exact decide_eq_true hadd
    obtain ⟨h0, h1⟩ := appE_zero hm hf
    have h2 : t.dd (snE p) = t.d2 (snE p) := by
      show (if (2 : Int) = 1 then t.d1 (snE p) else if (2 : Int) = 2 then t.d2 (snE p) else _) = _
      rw [if_neg (by decide), if_pos rfl]
    have hh : Half (A ++ [p]) (t.app (snE p)) := by
      rw [h1, h2]
      refine ⟨ht.base, ht.sealed, ht.op, ?_⟩
      show (t.sn.add p.1 p.2).nqs = _
      rw [add_l t.sn hadd]
      have := ht.nqs
      simp only [SN.nqs] at this ⊢
      rw [List.map_append, this]
      rfl
    obtain ⟨u, g1, g2⟩ := ih (A ++ [p]) (t.app (snE p)) (by rw [← hA]; simp) hh
    exact ⟨u, .cons h0 g1, g2⟩
theorem sealsOk_of {s : SD} {c : Nat} (hs : s.Ok c) : sealsOk s.sealed = true := sealsOk_true fun i hi => by
  unfold sealAt
  have h1 := folF_at hs.fol i hi
  rw [Bool.and_eq_true, decide_eq_true_eq]
  refine ⟨hs.ok _ (by rw [List.getD_eq_getElem?_getD, List.getElem?_eq_getElem hi]; exact List.getElem_mem _), ?_⟩
  by_cases h0 : i = 0
  · exact .inl h0
  · rw [if_neg h0] at h1
    exact .inr h1
/-- **A new state, to which a state's edits are applied, follows each, and is like it.** -/
theorem rebuilt {s : SD} {c : Nat} (hs : s.Ok c) : ∃ t, Runs SD.nil s.edits t ∧ s.Sim t := by
  have hnod := nqs_nodup hs.sn
  have hperm : s.sn.list.Perm s.sn.nqs := listS_perm hnod
  obtain ⟨t, h1, h2⟩ := snaps_run s.sn.list ((hperm.map _).nodup_iff.2 hnod) (list_len16' hs.sn) (fun p hp => by
    have hp' := hperm.mem_iff.1 hp
    obtain ⟨q, hq, rfl⟩ := List.mem_map.1 hp'
    exact ⟨hs.sn.nm q hq, hs.sn.q q hq⟩) s.sn.list [] SD.nil rfl ⟨rfl, rfl, rfl, rfl⟩
  obtain ⟨b1, b2, b3, b4⟩ := h2
  have htl : t.last = 0 := by unfold SD.last; rw [b1, b2]; rfl
  have htt : t.top = 0 := by unfold SD.top; rw [b3, b2]; rfl
  have hso := sealsOk_of hs
  -- the segments
  have hseg : ∃ u, Runs t s.ed2 u ∧ u.last = s.last ∧ u.op = 0 ∧ u.sealed = s.sealed ∧ u.sn = t.sn := by
    unfold SD.ed2
    by_cases g1 : s.sealed.length > 0
    · rw [if_pos g1]
      generalize he : Edt.mk 6 [] s.last 0 s.sealed = e
      have hm : e.may = true := by
        subst he
        exact may_of (by have g := hs.last; have g' := hs.len; unfold Edt.HP; dsimp only [List.length_nil]; omega) hso
      have hf : t.f6 e = true := by
        subst he
        refine decide_eq_true ⟨b3, ?_, ?_⟩
        · rw [htl]; exact Nat.zero_le _
        · rw [htt]; exact hs.fol
      have hk : e.kind = 6 := by rw [← he]
      obtain ⟨h0, h3⟩ := appE_zero hm (show t.fo e = true by unfold SD.fo; simp [hk, hf])
      have h4 : t.app e = ⟨s.last, t.sn, s.sealed, t.op⟩ := by
        rw [h3]
        unfold SD.dd
        simp only [hk]
        unfold SD.d6
        rw [hf]
        subst he
        rfl
      refine ⟨_, Runs.one h0, ?_⟩
      rw [h4]
      exact ⟨Nat.le_antisymm (lastF_le (Nat.le_refl _) fun x hx => lastF_mem hx) (lastF_ge _ _), b3, rfl, rfl⟩
    · have hsn : s.sealed = [] := List.eq_nil_of_length_eq_zero (by omega)
      rw [if_neg g1]
      by_cases g2 : s.last > 0
      · rw [if_pos g2]
        generalize he : Edt.mk 1 [] s.last 0 [] = e
        have hm : e.may = true := by
          subst he
          exact may_of (by have g := hs.last; unfold Edt.HP; dsimp only [List.length_nil]; omega) rfl
        have hf : t.f1 e = true := by
          subst he
          refine decide_eq_true ?_
          rw [htl]; exact Nat.zero_le _
        have hk : e.kind = 1 := by rw [← he]
        obtain ⟨h0, h3⟩ := appE_zero hm (show t.fo e = true by unfold SD.fo; simp [hk, hf])
        have h4 : t.app e = ⟨s.last, t.sn, t.sealed, t.op⟩ := by
          rw [h3]
          unfold SD.dd
          simp only [hk]
          unfold SD.d1
          rw [hf]
          subst he
          rfl
        refine ⟨_, Runs.one h0, ?_⟩
        rw [h4]
        exact ⟨by show lastF s.last t.sealed = s.last; rw [b2]; rfl, b3, by rw [hsn]; exact b2, rfl⟩
      · rw [if_neg g2]
        exact ⟨t, .nil _, by rw [htl]; omega, b3, by rw [hsn]; exact b2, rfl⟩
  obtain ⟨u, h3, u1, u2, u3, u4⟩ := hseg
  have hop : ∃ v, Runs u s.ed3 v ∧ v.last = s.last ∧ v.op = s.op ∧ v.sealed = s.sealed ∧ v.sn = t.sn := by
    unfold SD.ed3
    by_cases g1 : s.op > 0
    · rw [if_pos g1]
      obtain ⟨o1, o2⟩ := hs.op g1
      generalize he : Edt.mk 4 [] 0 s.op [] = e
      have hm : e.may = true := by
        subst he
        exact may_of (by have g := hs.opM; unfold Edt.HP; dsimp only [List.length_nil]; omega) rfl
      have hf : u.f4 e = true := by
        subst he
        refine decide_eq_true ⟨u2, ?_, ?_⟩
        · unfold SD.top; rw [u2, u3]; exact o1
        · rw [u3]; exact o2
      have hk : e.kind = 4 := by rw [← he]
      obtain ⟨h0, h5⟩ := appE_zero hm (show u.fo e = true by unfold SD.fo; simp [hk, hf])
      have h4 : u.app e = ⟨u.base, u.sn, u.sealed, s.op⟩ := by
        rw [h5]
        unfold SD.dd
        simp only [hk]
        unfold SD.d4
        rw [hf]
        subst he
        rfl
      refine ⟨_, Runs.one h0, ?_⟩
      rw [h4]
      exact ⟨u1, rfl, u3, u4⟩
    · rw [if_neg g1]
      exact ⟨u, .nil _, u1, by rw [u2]; omega, u3, u4⟩
  obtain ⟨v, h5, v1, v2, v3, v4⟩ := hop
  refine ⟨v, (h1.app h3).app h5, v1.symm, v2.symm, v3.symm, ?_⟩
  rw [v4, b4]
  exact hperm.symm
end Go.Proofs.YtmlhaellfpbcgaaDoor.Ax
