/-
  Chapter 23: states made anew; MstateBack, the walk.
-/
import Derived.Test.YtmlhaellfpbcgaaDoorQe
namespace Go.Proofs.YtmlhaellfpbcgaaDoor.Ax
open Go.RowKit
set_option maxRecDepth 100000
theorem list_len16' {s : SN} (hs : s.Ok) : s.list.length ≤ 16 := by
  unfold SN.list
  rw [listS_length]
  have := hs.len
  simp [SN.nqs]
  omega
/-- The seals of a state are as wide as their types. -/
def SB (s : SD) : Prop := ∀ x ∈ s.sealed, x.B
theorem app_sealed (s : SD) (e : Edt) : (s.app e).sealed = s.sealed ∨ (s.app e).sealed = e.seals ∨ ((s.app e).sealed = s.sealed ++ [e.x] ∧ e.seals.length = 1) := by
  by_cases h0 : s.appE e = 0
  rotate_left
  · rw [app_no s e h0]; exact .inl rfl
  obtain ⟨hm, hf, he⟩ := app_yes s e h0
  rw [he]
  have hp := may_hp e hm
  unfold SD.dd
  split
  · unfold SD.d1; cases s.f1 e <;> exact .inl rfl
  split
  · exact .inl rfl
  split
  · exact .inl rfl
  split
  · unfold SD.d4; cases s.f4 e <;> exact .inl rfl
  split
  · rename_i hk
    have h1 := hp.2.2.2.2.2.2.2.2.1 hk
    unfold SD.d5
    cases s.f5 e
    · exact .inl rfl
    · exact .inr (.inr ⟨rfl, h1⟩)
  · unfold SD.d6
    cases s.f6 e
    · exact .inl rfl
    · exact .inr (.inl rfl)
theorem app_B {s : SD} {e : Edt} (hs : SB s) (he : e.In) : SB (s.app e) := by
  intro x hx
  rcases app_sealed s e with h | h | ⟨h, h1⟩ <;> rw [h] at hx
  · exact hs x hx
  · exact he.b x hx
  · rcases List.mem_append.1 hx with hx | hx
    · exact hs x hx
    · rw [List.mem_singleton.1 hx]
      refine he.b _ ?_
      unfold Edt.x
      show e.seals.getD 0 default ∈ e.seals
      rw [List.getD_eq_getElem?_getD, List.getElem?_eq_getElem (by omega)]
      exact List.getElem_mem _
structure SD.Sim (s t : SD) : Prop where
  last : s.last = t.last
  op : s.op = t.op
  sealed : s.sealed = t.sealed
  perm : s.sn.nqs.Perm t.sn.nqs
theorem nqs_nodup {s : SN} (hs : s.Ok) : (s.nqs.map (·.1)).Nodup := by rw [nqs_keys]; exact hs.dup
section
variable {s t : SD} {c d : Nat} (h : s.Sim t) (hs : s.Ok c) (ht : t.Ok d)
include h hs ht
theorem Sim.list : s.sn.list = t.sn.list := listS_same (nqs_nodup hs.sn) (nqs_nodup ht.sn) h.perm
theorem Sim.same : s.same t = true := decide_eq_true ⟨h.last, h.op, Sim.list h hs ht, h.sealed⟩
theorem Sim.edits : s.edits = t.edits := by
  unfold SD.edits SD.ed1 SD.ed2 SD.ed3
  rw [Sim.list h hs ht, h.sealed, h.last, h.op]
omit hs ht in
theorem Sim.top : s.top = t.top := by
  unfold SD.top
  rw [h.op, h.sealed]
omit hs ht in
theorem Sim.there (x : List UInt8) : (afind s.sn.l x).isSome = (afind t.sn.l x).isSome := by
  have key : ∀ a : SN, (afind a.l x).isSome = true ↔ x ∈ a.nqs.map (·.1) := fun a => by
    rw [nqs_keys]
    cases hf : afind a.l x with
    | none => simp only [Option.isSome_none, Bool.false_eq_true, false_iff]; exact afind_none.1 hf
    | some p => simp only [Option.isSome_some, true_iff]; exact List.mem_map.2 ⟨_, afind_mem hf, rfl⟩
  rw [Bool.eq_iff_iff, key, key]
  exact (h.perm.map _).mem_iff
omit hs ht in
theorem Sim.len : s.sn.l.length = t.sn.l.length := by
  have := h.perm.length_eq
  simpa [SN.nqs] using this
omit hs ht in
theorem Sim.addE (x : List UInt8) (q : Nat) : s.sn.addE x q = t.sn.addE x q := by
  unfold SN.addE
  rw [Sim.there h, Sim.len h]
omit hs ht in
theorem Sim.findE (x : List UInt8) : s.sn.findE x = t.sn.findE x := by
  unfold SN.findE
  rw [Sim.there h]
omit hs ht in
theorem Sim.fo (e : Edt) : s.fo e = t.fo e := by
  unfold SD.fo SD.f1 SD.f2 SD.f3 SD.f4 SD.f5 SD.f6
  rw [h.last, Sim.addE h, Sim.findE h, h.op, Sim.top h, h.sealed]
omit hs ht in
theorem Sim.appE (e : Edt) : s.appE e = t.appE e := by
  unfold SD.appE
  rw [Sim.fo h]
omit hs ht in
theorem Sim.add (x : List UInt8) (q : Nat) : (s.sn.add x q).nqs.Perm (t.sn.add x q).nqs := by
  by_cases h0 : s.sn.addE x q = 0
  · rw [add_l s.sn h0, add_l t.sn ((Sim.addE h x q) ▸ h0)]
    have e : ∀ (a : SN) (n : Nat), (SN.mk (a.l ++ [(x, (q, n))]) n).nqs = a.nqs ++ [(x, q)] := fun a n => by simp [SN.nqs]
    rw [e, e]
    exact h.perm.append_right _
  · rw [add_same s.sn h0, add_same t.sn ((Sim.addE h x q) ▸ h0)]
    exact h.perm
omit hs ht in
theorem Sim.drop (x : List UInt8) : (s.sn.drop x).nqs.Perm (t.sn.drop x).nqs := by
  unfold SN.drop
  rw [Sim.findE h]
  split
  · have e : ∀ a : SN, (SN.mk (adel a.l x) a.n).nqs = adel a.nqs x := fun a => by
      unfold SN.nqs adel
      rw [List.filter_map]
      rfl
    rw [e, e]
    exact h.perm.filter _
  · exact h.perm
omit hs ht in
theorem Sim.app (e : Edt) : (s.app e).Sim (t.app e) := by
  by_cases h0 : s.appE e = 0
  rotate_left
  · rw [app_no s e h0, app_no t e ((Sim.appE h e) ▸ h0)]
    exact h
  obtain ⟨hm, hf, he⟩ := app_yes s e h0
  obtain ⟨_, hf', he'⟩ := app_yes t e ((Sim.appE h e) ▸ h0)
  rw [he, he']
  unfold SD.fo at hf hf'
  unfold SD.dd
  split
  · rename_i hk
    rw [if_pos hk] at hf hf'
    unfold SD.d1
    rw [hf, hf']
    refine ⟨?_, h.op, h.sealed, h.perm⟩
    show lastF e.seq s.sealed = lastF e.seq t.sealed
    rw [h.sealed]
  rename_i hk
  rw [if_neg hk] at hf hf'
  split
  · exact ⟨h.last, h.op, h.sealed, Sim.add h _ _⟩
  rename_i hk
  rw [if_neg hk] at hf hf'
  split
  · exact ⟨h.last, h.op, h.sealed, Sim.drop h _⟩
  rename_i hk
  rw [if_neg hk] at hf hf'
  split
  · rename_i hk
    rw [if_pos hk] at hf hf'
    unfold SD.d4
    rw [hf, hf']
    exact ⟨h.last, rfl, h.sealed, h.perm⟩
  rename_i hk
  rw [if_neg hk] at hf hf'
  split
  · rename_i hk
    rw [if_pos hk] at hf hf'
    unfold SD.d5
    rw [hf, hf']
    refine ⟨?_, rfl, ?_, h.perm⟩
    · show lastF s.base (s.sealed ++ [e.x]) = lastF t.base (t.sealed ++ [e.x])
      rw [lastF_snoc, lastF_snoc]
      have := h.last
      unfold SD.last at this
      rw [this]
    · show s.sealed ++ [e.x] = t.sealed ++ [e.x]
      rw [h.sealed]
  rename_i hk
  rw [if_neg hk] at hf hf'
  unfold SD.d6
  rw [hf, hf']
  exact ⟨rfl, h.op, rfl, h.perm⟩
end
/-- Edits that follow, one behind the other. -/
inductive Runs : SD → List Edt → SD → Prop
  | nil (s : SD) : Runs s [] s
  | cons {s : SD} {e : Edt} {l : List Edt} {t : SD} : s.appE e = 0 → Runs (s.app e) l t → Runs s (e :: l) t
theorem Runs.app {a b c : SD} {l m : List Edt} (h : Runs a l b) (h' : Runs b m c) : Runs a (l ++ m) c := by
  induction h with
  | nil s => exact h'
  | cons h1 _ ih => exact .cons h1 (ih h')
theorem Runs.one {a : SD} {e : Edt} (h : a.appE e = 0) : Runs a [e] (a.app e) := .cons h (.nil _)
def runAll (s : SD) (l : List Edt) : SD := l.foldl SD.app s
theorem Runs.at {s t : SD} {l : List Edt} (h : Runs s l t) : ∀ k, k < l.length → (runAll s (l.take k)).appE (l.getD k default) = 0 := by
  induction h with
  | nil s => intro k hk; simp at hk
  | cons h1 _ ih =>
    intro k hk
    cases k with
    | zero => exact h1
    | succ k => exact ih k (by simpa using hk)
theorem Runs.end {s t : SD} {l : List Edt} (h : Runs s l t) : runAll s l = t := by
  induction h with
  | nil s => rfl
  | cons h1 _ ih => exact ih
theorem runAll_take (s : SD) (l : List Edt) {k : Nat} (hk : k < l.length) : runAll s (l.take (k + 1)) = (runAll s (l.take k)).app (l.getD k default) := by
  unfold runAll
  rw [List.take_add_one, List.foldl_append, List.getElem?_eq_getElem hk]
  simp [List.getD, hk]
theorem runAll_Ok {c : Nat} {s : SD} (hs : s.Ok c) : ∀ (l : List Edt), c + l.length ≤ 1000 → (runAll s l).Ok (c + l.length) := by
  intro l
  induction l generalizing s c with
  | nil => intro _; exact hs
  | cons e l ih =>
    intro hl
    have hl' : c + (l.length + 1) ≤ 1000 := hl
    have := ih (app_Ok s e hs (by omega)).ok (by omega)
    rw [show c + (e :: l).length = c + 1 + l.length by simp; omega]
    exact this
/-- What the snapshots' edits make. -/
structure Half (A : List NQ) (t : SD) : Prop where
  base : t.base = 0
  sealed : t.sealed = []
  op : t.op = 0
  nqs : t.sn.nqs = A
theorem appE_zero {s : SD} {e : Edt} (hm : e.may = true) (hf : s.fo e = true) : s.appE e = 0 ∧ s.app e = s.dd e := by
  unfold SD.appE SD.app
  rw [hm, hf]
  exact ⟨rfl, rfl⟩
theorem may_of {e : Edt} (h : e.HP) (h' : sealsOk e.seals = true) : e.may = true := by
  unfold Edt.may Edt.head
  rw [decide_eq_true h, h']
  rfl
theorem snaps_run (L : List NQ) (hn : (L.map (·.1)).Nodup) (hlen : L.length ≤ 16) (hk : ∀ p ∈ L, okN p.1 = true ∧ p.2 ≤ 1099511627776) : ∀ (B A : List NQ) (t : SD), A ++ B = L → Half A t → ∃ u, Runs t (B.map snE) u ∧ Half L u := by
  intro B
  induction B with
  | nil =>
    intro A t hA ht
    rw [List.append_nil] at hA
    subst hA
    exact ⟨t, .nil t, ht⟩
  | cons p B ih =>
    intro A t hA ht
    have hp : p ∈ L := by rw [← hA]; simp
    obtain ⟨hk1, hk2⟩ := hk p hp
    have hk3 : 1 ≤ p.1.length ∧ p.1.length ≤ 32 := of_decide_eq_true hk1
    have hm : (snE p).may = true := may_of (by unfold Edt.HP snE; dsimp only [List.length_nil]; omega) rfl
    have hnot : p.1 ∉ t.sn.l.map (·.1) := by
      rw [← nqs_keys, ht.nqs]
      rw [← hA, List.map_append, List.nodup_append] at hn
      exact fun hc => hn.2.2 p.1 hc p.1 (by simp) rfl
    have hle : t.sn.l.length = A.length := by
      have := congrArg List.length ht.nqs
      simpa [SN.nqs] using this
    have hlt : A.length < 16 := by
      have := congrArg List.length hA
      simp at this
      omega
    have hadd : t.sn.addE p.1 p.2 = 0 := by
      unfold SN.addE
      rw [hk1, afind_none.2 hnot, decide_eq_false (show ¬ 1099511627776 < p.2 by omega), decide_eq_false (show ¬ 16 ≤ t.sn.l.length by omega)]
      rfl
    have hf : t.fo (snE p) = true := by
      show (if (2 : Int) = 1 then t.f1 (snE p) else if (2 : Int) = 2 then t.f2 (snE p) else _) = true
      rw [if_neg (by decide), if_pos rfl]
      exact decide_eq_true hadd
    obtain ⟨h0, h1⟩ := appE_zero hm hf
    have h2 : t.dd (snE p) = t.d2 (snE p) := by
      show (if (2 : Int) = 1 then t.d1 (snE p) else if (2 : Int) = 2 then t.d2 (snE p) else _) = _
      rw [if_neg (by decide), if_pos rfl]
    have hh : Half (A ++ [p]) (t.app (snE p)) := by
      rw [h1, h2]
      refine ⟨ht.base, ht.sealed, ht.op, ?_⟩
      show (t.sn.add p.1 p.2).nqs = _
      rw [add_l t.sn hadd]
      have := ht.nqs
      simp only [SN.nqs] at this ⊢
      rw [List.map_append, this]
      rfl
    obtain ⟨u, g1, g2⟩ := ih (A ++ [p]) (t.app (snE p)) (by rw [← hA]; simp) hh
    exact ⟨u, .cons h0 g1, g2⟩
theorem sealsOk_of {s : SD} {c : Nat} (hs : s.Ok c) : sealsOk s.sealed = true := sealsOk_true fun i hi => by
  unfold sealAt
  have h1 := folF_at hs.fol i hi
  rw [Bool.and_eq_true, decide_eq_true_eq]
  refine ⟨hs.ok _ (by rw [List.getD_eq_getElem?_getD, List.getElem?_eq_getElem hi]; exact List.getElem_mem _), ?_⟩
  by_cases h0 : i = 0
  · exact .inl h0
  · rw [if_neg h0] at h1
    exact .inr h1
/-- **A new state, to which a state's edits are applied, follows each, and is like it.** -/
theorem rebuilt {s : SD} {c : Nat} (hs : s.Ok c) : ∃ t, Runs SD.nil s.edits t ∧ s.Sim t := by
  have hnod := nqs_nodup hs.sn
  have hperm : s.sn.list.Perm s.sn.nqs := listS_perm hnod
  obtain ⟨t, h1, h2⟩ := snaps_run s.sn.list ((hperm.map _).nodup_iff.2 hnod) (list_len16' hs.sn) (fun p hp => by
    have hp' := hperm.mem_iff.1 hp
    obtain ⟨q, hq, rfl⟩ := List.mem_map.1 hp'
    exact ⟨hs.sn.nm q hq, hs.sn.q q hq⟩) s.sn.list [] SD.nil rfl ⟨rfl, rfl, rfl, rfl⟩
  obtain ⟨b1, b2, b3, b4⟩ := h2
  have htl : t.last = 0 := by unfold SD.last; rw [b1, b2]; rfl
  have htt : t.top = 0 := by unfold SD.top; rw [b3, b2]; rfl
  have hso := sealsOk_of hs
  -- the segments
  have hseg : ∃ u, Runs t s.ed2 u ∧ u.last = s.last ∧ u.op = 0 ∧ u.sealed = s.sealed ∧ u.sn = t.sn := by
    unfold SD.ed2
    by_cases g1 : s.sealed.length > 0
    · rw [if_pos g1]
      generalize he : Edt.mk 6 [] s.last 0 s.sealed = e
      have hm : e.may = true := by
        subst he
        exact may_of (by have g := hs.last; have g' := hs.len; unfold Edt.HP; dsimp only [List.length_nil]; omega) hso
      have hf : t.f6 e = true := by
        subst he
        refine decide_eq_true ⟨b3, ?_, ?_⟩
        · rw [htl]; exact Nat.zero_le _
        · rw [htt]; exact hs.fol
      have hk : e.kind = 6 := by rw [← he]
      obtain ⟨h0, h3⟩ := appE_zero hm (show t.fo e = true by unfold SD.fo; simp [hk, hf])
      have h4 : t.app e = ⟨s.last, t.sn, s.sealed, t.op⟩ := by
        rw [h3]
        unfold SD.dd
        simp only [hk]
        unfold SD.d6
        rw [hf]
        subst he
        rfl
      refine ⟨_, Runs.one h0, ?_⟩
      rw [h4]
      exact ⟨Nat.le_antisymm (lastF_le (Nat.le_refl _) fun x hx => lastF_mem hx) (lastF_ge _ _), b3, rfl, rfl⟩
    · have hsn : s.sealed = [] := List.eq_nil_of_length_eq_zero (by omega)
      rw [if_neg g1]
      by_cases g2 : s.last > 0
      · rw [if_pos g2]
        generalize he : Edt.mk 1 [] s.last 0 [] = e
        have hm : e.may = true := by
          subst he
          exact may_of (by have g := hs.last; unfold Edt.HP; dsimp only [List.length_nil]; omega) rfl
        have hf : t.f1 e = true := by
          subst he
          refine decide_eq_true ?_
          rw [htl]; exact Nat.zero_le _
        have hk : e.kind = 1 := by rw [← he]
        obtain ⟨h0, h3⟩ := appE_zero hm (show t.fo e = true by unfold SD.fo; simp [hk, hf])
        have h4 : t.app e = ⟨s.last, t.sn, t.sealed, t.op⟩ := by
          rw [h3]
          unfold SD.dd
          simp only [hk]
          unfold SD.d1
          rw [hf]
          subst he
          rfl
        refine ⟨_, Runs.one h0, ?_⟩
        rw [h4]
        exact ⟨by show lastF s.last t.sealed = s.last; rw [b2]; rfl, b3, by rw [hsn]; exact b2, rfl⟩
      · rw [if_neg g2]
        exact ⟨t, .nil _, by rw [htl]; omega, b3, by rw [hsn]; exact b2, rfl⟩
  obtain ⟨u, h3, u1, u2, u3, u4⟩ := hseg
  have hop : ∃ v, Runs u s.ed3 v ∧ v.last = s.last ∧ v.op = s.op ∧ v.sealed = s.sealed ∧ v.sn = t.sn := by
    unfold SD.ed3
    by_cases g1 : s.op > 0
    · rw [if_pos g1]
      obtain ⟨o1, o2⟩ := hs.op g1
      generalize he : Edt.mk 4 [] 0 s.op [] = e
      have hm : e.may = true := by
        subst he
        exact may_of (by have g := hs.opM; unfold Edt.HP; dsimp only [List.length_nil]; omega) rfl
      have hf : u.f4 e = true := by
        subst he
        refine decide_eq_true ⟨u2, ?_, ?_⟩
        · unfold SD.top; rw [u2, u3]; exact o1
        · rw [u3]; exact o2
      have hk : e.kind = 4 := by rw [← he]
      obtain ⟨h0, h5⟩ := appE_zero hm (show u.fo e = true by unfold SD.fo; simp [hk, hf])
      have h4 : u.app e = ⟨u.base, u.sn, u.sealed, s.op⟩ := by
        rw [h5]
        unfold SD.dd
        simp only [hk]
        unfold SD.d4
        rw [hf]
        subst he
        rfl
      refine ⟨_, Runs.one h0, ?_⟩
      rw [h4]
      exact ⟨u1, rfl, u3, u4⟩
    · rw [if_neg g1]
      exact ⟨u, .nil _, u1, by rw [u2]; omega, u3, u4⟩
  obtain ⟨v, h5, v1, v2, v3, v4⟩ := hop
  refine ⟨v, (h1.app h3).app h5, v1.symm, v2.symm, v3.symm, ?_⟩
  rw [v4, b4]
  exact hperm.symm
end Go.Proofs.YtmlhaellfpbcgaaDoor.Ax

namespace Go.Proofs.YtmlhaellfpbcgaaDoor.Ax
open Go.RowKit
set_option maxRecDepth 100000
/-- A law that tells true, the table of what edits do being laid. -/
def LawT (t : Tb) (F : FuncId) (args : List AV) : Prop := AFn Go.Proofs.Tryd.prog F args ⟨1, [(0, t.C)]⟩ (fun _ : Unit => AV.bool true) fun _ => ⟨1, [(0, t.C)]⟩
@[reducible] def rowE (l : List Edt) : AV := .iv (.sl 5 l.length (edF l))
theorem few_In {e : Edt} (h : e.In) : e.few.In := ⟨h.seq, h.id, fun x hx => h.b x (List.mem_of_mem_take hx)⟩
theorem getD_In {l : List Edt} (h : ∀ e ∈ l, e.In) (i : Nat) : (l.getD i default).In := by
  rw [List.getD_eq_getElem?_getD]
  cases hi : l[i]? with
  | none => exact ⟨by decide, by decide, by simp [default]⟩
  | some e => exact h e (List.mem_of_getElem? hi)
theorem edits_In {s : SD} {c : Nat} (hs : s.Ok c) (hb : SB s) : ∀ e ∈ s.edits, e.In ∧ e.seals.length ≤ 200 := by
  intro e he
  unfold SD.edits at he
  rcases List.mem_append.1 he with he | he
  · rcases List.mem_append.1 he with he | he
    · obtain ⟨p, hp, rfl⟩ := List.mem_map.1 he
      have hp' := (listS_perm (nqs_nodup hs.sn)).mem_iff.1 hp
      obtain ⟨q, hq, rfl⟩ := List.mem_map.1 hp'
      have := hs.sn.q q hq
      exact ⟨⟨by show q.2.1 ≤ _; omega, Nat.zero_le _, fun x hx => by cases hx⟩, Nat.zero_le _⟩
    · unfold SD.ed2 at he
      have hl := hs.last
      split at he
      · rw [List.mem_singleton] at he
        subst he
        exact ⟨⟨by show s.last ≤ _; omega, Nat.zero_le _, hb⟩, hs.len⟩
      · split at he
        · rw [List.mem_singleton] at he
          subst he
          exact ⟨⟨by show s.last ≤ _; omega, Nat.zero_le _, fun x hx => by cases hx⟩, Nat.zero_le _⟩
        · cases he
  · unfold SD.ed3 at he
    have hl := hs.opM
    split at he
    · rw [List.mem_singleton] at he
      subst he
      exact ⟨⟨Nat.zero_le _, by show s.op ≤ _; omega, fun x hx => by cases hx⟩, Nat.zero_le _⟩
    · cases he
theorem edits_len {s : SD} {c : Nat} (hs : s.Ok c) : s.edits.length ≤ 18 := by
  have h1 := list_len16' hs.sn
  have h2 : s.ed2.length ≤ 1 := by unfold SD.ed2; split <;> (try split) <;> simp
  have h3 : s.ed3.length ≤ 1 := by unfold SD.ed3; split <;> simp
  unfold SD.edits SD.ed1
  rw [List.length_append, List.length_append, List.length_map]
  omega
abbrev Made := { s : SD // s.Ok 60 ∧ SB s }
structure MdX (l : List Edt) where
  i : Nat
  s : SD
  hs : s.Ok i
  hb : SB s
  hi : i ≤ 60
  hil : i ≤ l.length
theorem made_ok (t : Tb) (l : List Edt) (hl : ∀ e ∈ l, e.In) : AFn Go.Proofs.Tryd.prog 7 [rowE l] ⟨1, [(0, t.C)]⟩ (fun _ : Made => .ptr 1 0) (fun x => ⟨2, [(0, t.C), (1, .sem (Nest x.1.H))]⟩) := by
  refine ACall.fin ?_
  refine ACall.walkF (C := cfg 22 1) (cfgOk _ _) [] (fn := Go.Proofs.Tryd.f7) (by kernel_rfl) (by kernel_rfl) rfl (by kernel_rfl) (by kernel_rfl) rfl rfl fun hlen hheap => ?_
  obtain ⟨hl1, _⟩ := hlen
  simp only [lenF] at hl1
  (conv => whnf); repeat ((first | (refine And.intro ?_ ?_; (focus ((repeat' (first | exact trivial | refine And.intro rfl ?_)); done))) | (refine And.intro ?_ ?_; (focus (first | omega | (dsimp -iota only; omega) | (simp -iota; omega) | (simp -iota; done) | decide)))); conv => whnf)
  refine AFn.use [] (mnew_ok) (by kernel_rfl) rfl (by repeat' first | exact trivial | refine ⟨rfl, ?_⟩) fun _ => ?_
  (conv => whnf); repeat ((first | (refine And.intro ?_ ?_; (focus ((repeat' (first | exact trivial | refine And.intro rfl ?_)); done))) | (refine And.intro ?_ ?_; (focus (first | omega | (dsimp -iota only; omega) | (simp -iota; omega) | (simp -iota; done) | decide)))); conv => whnf)
  refine AWP.merge (Y := Made) (fun y => [(3, .ptr 1 0)]) (fun y => ⟨2, [(0, t.C), (1, .sem (Nest y.1.H))]⟩) 0 (fun y => ?_) ?_
  · (conv => whnf); repeat ((first | (refine And.intro ?_ ?_; (focus ((repeat' (first | exact trivial | refine And.intro rfl ?_)); done))) | (refine And.intro ?_ ?_; (focus (first | omega | (dsimp -iota only; omega) | (simp -iota; omega) | (simp -iota; done) | decide)))); conv => whnf)
    refine ⟨_, _, Ent.mk' (e' := [(0, .ptr 1 0)]) (H' := ⟨2, [(0, t.C), (1, .sem (Nest y.1.H))]⟩) [some 0, some 1] (by kernel_rfl) ?_ ?_, y, rfl, rfl⟩
    · exact ⟨AVE.refl _, trivial⟩
    · (repeat' first | exact trivial | refine ⟨⟨_, rfl, ChE.refl _⟩, ?_⟩)
  refine AWP.loop (X := MdX l) (fun x => [(3, .ptr 1 0), (7, rowE l), (8, AV.int .i64 l.length), (9, AV.int .i64 x.i)]) (fun x => ⟨2, [(0, t.C), (1, .sem (Nest x.s.H))]⟩) (fun x => 60 - x.i) (⟨0, SD.nil, SD.nilOk, (fun x hx => by cases hx), by omega, by omega⟩) ?_ fun x => AWP.go (S := []) (cfgOk _ _) (.of_eq (by kernel_rfl)) ?_
  · exact Ent.mk' [some 0, some 1] (by kernel_rfl) (by repeat' first | exact trivial | refine And.intro (AVE.refl _) ?_ | refine And.intro (AVE.int (by first | rfl | omega | (dsimp only; omega) | (simp -iota; omega) | (simp -iota; done))) ?_ | refine And.intro (AVE.bool (by assumption)) ?_ | refine And.intro (AVE.len (by first | rfl | omega | (dsimp only; omega) | (simp -iota; omega) | (simp -iota; done))) ?_) (by repeat' (first | exact trivial | refine ⟨⟨_, rfl, ChE.refl _⟩, ?_⟩))
  · obtain ⟨i, s, hs, hb, hi, hil⟩ := x
    (conv => whnf); repeat ((first | (refine And.intro ?_ ?_; (focus ((repeat' (first | exact trivial | refine And.intro rfl ?_)); done))) | (refine And.intro ?_ ?_; (focus (first | omega | (dsimp -iota only; omega) | (simp -iota; omega) | (simp -iota; done) | decide)))); conv => whnf)
    refine branchB_of (fun h => ?_) (fun h => ?_) <;> (first | replace h := not_t h | replace h := not_f h | skip) <;> (first | replace h := of_decide_eq_true h | replace h := of_decide_eq_false h | skip) <;> (first | replace h := Classical.not_not.1 h | skip) <;> (try dsimp only at h)
    rotate_left
    · (conv => whnf); repeat ((first | (refine And.intro ?_ ?_; (focus ((repeat' (first | exact trivial | refine And.intro rfl ?_)); done))) | (refine And.intro ?_ ?_; (focus (first | omega | (dsimp -iota only; omega) | (simp -iota; omega) | (simp -iota; done) | decide)))); conv => whnf)
      exact ⟨⟨s, hs.up hi, hb⟩, Ent.mk' [some 0, some 1] (by kernel_rfl) (by repeat' first | exact trivial | refine And.intro (AVE.refl _) ?_ | refine And.intro (AVE.int (by first | rfl | omega | (dsimp only; omega) | (simp -iota; omega) | (simp -iota; done))) ?_ | refine And.intro (AVE.bool (by assumption)) ?_ | refine And.intro (AVE.len (by first | rfl | omega | (dsimp only; omega) | (simp -iota; omega) | (simp -iota; done))) ?_) (by repeat' (first | exact trivial | refine ⟨⟨_, rfl, ChE.refl _⟩, ?_⟩))⟩
    generalize hc : l.getD ((i : Nat) : Int).toNat default = c
    have hcI : c.In := hc ▸ getD_In hl _
    (conv => whnf); repeat ((first | (refine And.intro ?_ ?_; (focus ((repeat' (first | exact trivial | refine And.intro rfl ?_)); done))) | (refine And.intro ?_ ?_; (focus (first | omega | (dsimp -iota only; omega) | (simp -iota; omega) | (simp -iota; done) | decide)))); conv => whnf)
    rw [hc]
    refine branchB_of (fun h2 => ?_) (fun h2 => ?_) <;> (first | replace h2 := not_t h2 | replace h2 := not_f h2 | skip) <;> (first | replace h2 := of_decide_eq_true h2 | replace h2 := of_decide_eq_false h2 | skip) <;> (first | replace h2 := Classical.not_not.1 h2 | skip) <;> (try dsimp only at h2)
    · (conv => whnf); repeat ((first | (refine And.intro ?_ ?_; (focus ((repeat' (first | exact trivial | refine And.intro rfl ?_)); done))) | (refine And.intro ?_ ?_; (focus (first | omega | (dsimp -iota only; omega) | (simp -iota; omega) | (simp -iota; done) | decide)))); conv => whnf)
      exact ⟨⟨s, hs.up hi, hb⟩, Ent.mk' [some 0, some 1] (by kernel_rfl) (by repeat' first | exact trivial | refine And.intro (AVE.refl _) ?_ | refine And.intro (AVE.int (by first | rfl | omega | (dsimp only; omega) | (simp -iota; omega) | (simp -iota; done))) ?_ | refine And.intro (AVE.bool (by assumption)) ?_ | refine And.intro (AVE.len (by first | rfl | omega | (dsimp only; omega) | (simp -iota; omega) | (simp -iota; done))) ?_) (by repeat' (first | exact trivial | refine ⟨⟨_, rfl, ChE.refl _⟩, ?_⟩))⟩
    (conv => whnf); repeat ((first | (refine And.intro ?_ ?_; (focus ((repeat' (first | exact trivial | refine And.intro rfl ?_)); done))) | (refine And.intro ?_ ?_; (focus (first | omega | (dsimp -iota only; omega) | (simp -iota; omega) | (simp -iota; done) | decide)))); conv => whnf)
    refine AFn.use [] (few_ok c) (by kernel_rfl) rfl (by repeat' first | exact trivial | refine ⟨rfl, ?_⟩) fun _ => ?_
    (conv => whnf); repeat ((first | (refine And.intro ?_ ?_; (focus ((repeat' (first | exact trivial | refine And.intro rfl ?_)); done))) | (refine And.intro ?_ ?_; (focus (first | omega | (dsimp -iota only; omega) | (simp -iota; omega) | (simp -iota; done) | decide)))); conv => whnf)
    refine AFn.use [1, 0] (apply_ok t s c.few hs.in (few_In hcI)) (by kernel_rfl) rfl (by repeat' first | exact trivial | refine ⟨rfl, ?_⟩) fun _ => ?_
    (conv => whnf); repeat ((first | (refine And.intro ?_ ?_; (focus ((repeat' (first | exact trivial | refine And.intro rfl ?_)); done))) | (refine And.intro ?_ ?_; (focus (first | omega | (dsimp -iota only; omega) | (simp -iota; omega) | (simp -iota; done) | decide)))); conv => whnf)
    refine ⟨⟨i + 1, s.app c.few, (app_Ok s c.few hs (by omega)).ok, app_B hb (few_In hcI), by omega, by omega⟩, Ent.mk' [some 0, some 1] (by kernel_rfl) (by repeat' first | exact trivial | refine And.intro (AVE.refl _) ?_ | refine And.intro (AVE.int (by first | rfl | omega | (dsimp only; omega) | (simp -iota; omega) | (simp -iota; done))) ?_ | refine And.intro (AVE.bool (by assumption)) ?_ | refine And.intro (AVE.len (by first | rfl | omega | (dsimp only; omega) | (simp -iota; omega) | (simp -iota; done))) ?_) (by repeat' (first | exact trivial | refine ⟨⟨_, rfl, ChE.refl _⟩, ?_⟩)), ?_⟩
    show 60 - (i + 1) < 60 - i
    omega
structure BkX (more : List Edt) where
  j : Nat
  s : SD
  u : SD
  hs : s.Ok (60 + j)
  hu : u.Ok (20 + j)
  sim : s.Sim u
  hb : SB s
  hj : j ≤ 20
  hjl : j ≤ more.length
set_option maxHeartbeats 4000000 in
theorem back_law (t : Tb) (l more : List Edt) (hl : ∀ e ∈ l, e.In) (hm : ∀ e ∈ more, e.In) : LawT t 3 [rowE l, rowE more] := by
  refine ACall.fin ?_
  refine ACall.walkF (C := cfg 105 1) (cfgOk _ _) sch3 (fn := Go.Proofs.Tryd.f3) (by kernel_rfl) (by kernel_rfl) rfl (by kernel_rfl) (by kernel_rfl) rfl rfl fun hlen hheap => ?_
  obtain ⟨hl1, hl2, _⟩ := hlen
  simp only [lenF] at hl1 hl2
  (conv => whnf); repeat ((first | (refine And.intro ?_ ?_; (focus ((repeat' (first | exact trivial | refine And.intro rfl ?_)); done))) | (refine And.intro ?_ ?_; (focus (first | omega | (dsimp -iota only; omega) | (simp -iota; omega) | (simp -iota; done) | decide)))); conv => whnf)
  refine AFn.use [0] (made_ok t l hl) (by kernel_rfl) rfl (by repeat' first | exact trivial | refine ⟨rfl, ?_⟩) fun y => ?_
  obtain ⟨s, hs, hsb⟩ := y
  (conv => whnf); repeat ((first | (refine And.intro ?_ ?_; (focus ((repeat' (first | exact trivial | refine And.intro rfl ?_)); done))) | (refine And.intro ?_ ?_; (focus (first | omega | (dsimp -iota only; omega) | (simp -iota; omega) | (simp -iota; done) | decide)))); conv => whnf)
  refine AFn.use [] (mnew_ok) (by kernel_rfl) rfl (by repeat' first | exact trivial | refine ⟨rfl, ?_⟩) fun _ => ?_
  (conv => whnf); repeat ((first | (refine And.intro ?_ ?_; (focus ((repeat' (first | exact trivial | refine And.intro rfl ?_)); done))) | (refine And.intro ?_ ?_; (focus (first | omega | (dsimp -iota only; omega) | (simp -iota; omega) | (simp -iota; done) | decide)))); conv => whnf)
  refine AFn.use [1] (edits_ok s hs.in) (by kernel_rfl) rfl (by repeat' first | exact trivial | refine ⟨rfl, ?_⟩) fun _ => ?_
  obtain ⟨u, hrun, hsim⟩ := rebuilt hs
  have hel := edits_len hs
  have hei := edits_In hs hsb
  have hat := hrun.at
  have hend := hrun.end
  have huk : u.Ok 20 := by
    have := runAll_Ok SD.nilOk s.edits (by omega)
    rw [hend] at this
    exact this.up (by omega)
  (conv => whnf); repeat ((first | (refine And.intro ?_ ?_; (focus ((repeat' (first | exact trivial | refine And.intro rfl ?_)); done))) | (refine And.intro ?_ ?_; (focus (first | omega | (dsimp -iota only; omega) | (simp -iota; omega) | (simp -iota; done) | decide)))); conv => whnf)
  refine AWP.merge (Y := Unit) (fun z => [(1, rowE more), (5, .ptr 1 0), (6, .ptr 2 0)]) (fun z => ⟨3, [(0, t.C), (1, .sem (Nest s.H)), (2, .sem (Nest u.H))]⟩) 0 (fun z => ?_) ?_
  · (conv => whnf); repeat ((first | (refine And.intro ?_ ?_; (focus ((repeat' (first | exact trivial | refine And.intro rfl ?_)); done))) | (refine And.intro ?_ ?_; (focus (first | omega | (dsimp -iota only; omega) | (simp -iota; omega) | (simp -iota; done) | decide)))); conv => whnf)
    refine AFn.use [1, 2] (same_ok s u hs.in.len huk.in.len hs.sn huk.sn) (by kernel_rfl) rfl (by repeat' first | exact trivial | refine ⟨rfl, ?_⟩) fun _ => ?_
    rw [Sim.same hsim hs huk]
    (conv => whnf); repeat ((first | (refine And.intro ?_ ?_; (focus ((repeat' (first | exact trivial | refine And.intro rfl ?_)); done))) | (refine And.intro ?_ ?_; (focus (first | omega | (dsimp -iota only; omega) | (simp -iota; omega) | (simp -iota; done) | decide)))); conv => whnf)
    have kt := top_ok s hs.in.len
    rw [Sim.top hsim] at kt
    refine AFn.use [1] (kt) (by kernel_rfl) rfl (by repeat' first | exact trivial | refine ⟨rfl, ?_⟩) fun _ => ?_
    (conv => whnf); repeat ((first | (refine And.intro ?_ ?_; (focus ((repeat' (first | exact trivial | refine And.intro rfl ?_)); done))) | (refine And.intro ?_ ?_; (focus (first | omega | (dsimp -iota only; omega) | (simp -iota; omega) | (simp -iota; done) | decide)))); conv => whnf)
    refine AFn.use [2] (top_ok u huk.in.len) (by kernel_rfl) rfl (by repeat' first | exact trivial | refine ⟨rfl, ?_⟩) fun _ => ?_
    (conv => whnf); repeat ((first | (refine And.intro ?_ ?_; (focus ((repeat' (first | exact trivial | refine And.intro rfl ?_)); done))) | (refine And.intro ?_ ?_; (focus (first | omega | (dsimp -iota only; omega) | (simp -iota; omega) | (simp -iota; done) | decide)))); conv => whnf)
    refine branchB_of (fun q => ?_) (fun q => ?_) <;> (first | replace q := not_t q | replace q := not_f q | skip) <;> (first | replace q := of_decide_eq_true q | replace q := of_decide_eq_false q | skip) <;> (first | replace q := Classical.not_not.1 q | skip) <;> (try dsimp only at q)
    · exact absurd rfl q
    have kl := last_ok s hs.in.len
    rw [hsim.last] at kl
    (conv => whnf); repeat ((first | (refine And.intro ?_ ?_; (focus ((repeat' (first | exact trivial | refine And.intro rfl ?_)); done))) | (refine And.intro ?_ ?_; (focus (first | omega | (dsimp -iota only; omega) | (simp -iota; omega) | (simp -iota; done) | decide)))); conv => whnf)
    refine AFn.use [1] (kl) (by kernel_rfl) rfl (by repeat' first | exact trivial | refine ⟨rfl, ?_⟩) fun _ => ?_
    (conv => whnf); repeat ((first | (refine And.intro ?_ ?_; (focus ((repeat' (first | exact trivial | refine And.intro rfl ?_)); done))) | (refine And.intro ?_ ?_; (focus (first | omega | (dsimp -iota only; omega) | (simp -iota; omega) | (simp -iota; done) | decide)))); conv => whnf)
    refine AFn.use [2] (last_ok u huk.in.len) (by kernel_rfl) rfl (by repeat' first | exact trivial | refine ⟨rfl, ?_⟩) fun _ => ?_
    (conv => whnf); repeat ((first | (refine And.intro ?_ ?_; (focus ((repeat' (first | exact trivial | refine And.intro rfl ?_)); done))) | (refine And.intro ?_ ?_; (focus (first | omega | (dsimp -iota only; omega) | (simp -iota; omega) | (simp -iota; done) | decide)))); conv => whnf)
    refine branchB_of (fun q => ?_) (fun q => ?_) <;> (first | replace q := not_t q | replace q := not_f q | skip) <;> (first | replace q := of_decide_eq_true q | replace q := of_decide_eq_false q | skip) <;> (first | replace q := Classical.not_not.1 q | skip) <;> (try dsimp only at q)
    · exact absurd rfl q
    (conv => whnf); repeat ((first | (refine And.intro ?_ ?_; (focus ((repeat' (first | exact trivial | refine And.intro rfl ?_)); done))) | (refine And.intro ?_ ?_; (focus (first | omega | (dsimp -iota only; omega) | (simp -iota; omega) | (simp -iota; done) | decide)))); conv => whnf)
    refine AFn.use [2] (base_ok u) (by kernel_rfl) rfl (by repeat' first | exact trivial | refine ⟨rfl, ?_⟩) fun _ => ?_
    (conv => whnf); repeat ((first | (refine And.intro ?_ ?_; (focus ((repeat' (first | exact trivial | refine And.intro rfl ?_)); done))) | (refine And.intro ?_ ?_; (focus (first | omega | (dsimp -iota only; omega) | (simp -iota; omega) | (simp -iota; done) | decide)))); conv => whnf)
    refine AFn.use [2] (last_ok u huk.in.len) (by kernel_rfl) rfl (by repeat' first | exact trivial | refine ⟨rfl, ?_⟩) fun _ => ?_
    have hbl : u.base ≤ u.last := lastF_ge _ _
    (conv => whnf); repeat ((first | (refine And.intro ?_ ?_; (focus ((repeat' (first | exact trivial | refine And.intro rfl ?_)); done))) | (refine And.intro ?_ ?_; (focus (first | omega | (dsimp -iota only; omega) | (simp -iota; omega) | (simp -iota; done) | decide)))); conv => whnf)
    refine branchB_of (fun q => ?_) (fun q => ?_) <;> (first | replace q := not_t q | replace q := not_f q | skip) <;> (first | replace q := of_decide_eq_true q | replace q := of_decide_eq_false q | skip) <;> (first | replace q := Classical.not_not.1 q | skip) <;> (try dsimp only at q)
    · omega
    (conv => whnf); repeat ((first | (refine And.intro ?_ ?_; (focus ((repeat' (first | exact trivial | refine And.intro rfl ?_)); done))) | (refine And.intro ?_ ?_; (focus (first | omega | (dsimp -iota only; omega) | (simp -iota; omega) | (simp -iota; done) | decide)))); conv => whnf)
    refine AWP.merge (Y := BkX more) (fun z => [(5, .ptr 1 0), (6, .ptr 2 0)]) (fun z => ⟨3, [(0, t.C), (1, .sem (Nest z.s.H)), (2, .sem (Nest z.u.H))]⟩) 2 (fun z => ?_) ?_
    · obtain ⟨j, s', u', hs', hu', sim, hb', hj, hjl⟩ := z
      have hel' := edits_len hs'
      have hei' := edits_In hs' hb'
      have ku := edits_ok u' hu'.in
      rw [← Sim.edits sim hs' hu'] at ku
      (conv => whnf); repeat ((first | (refine And.intro ?_ ?_; (focus ((repeat' (first | exact trivial | refine And.intro rfl ?_)); done))) | (refine And.intro ?_ ?_; (focus (first | omega | (dsimp -iota only; omega) | (simp -iota; omega) | (simp -iota; done) | decide)))); conv => whnf)
      refine AFn.use [1] (edits_ok s' hs'.in) (by kernel_rfl) rfl (by repeat' first | exact trivial | refine ⟨rfl, ?_⟩) fun _ => ?_
      (conv => whnf); repeat ((first | (refine And.intro ?_ ?_; (focus ((repeat' (first | exact trivial | refine And.intro rfl ?_)); done))) | (refine And.intro ?_ ?_; (focus (first | omega | (dsimp -iota only; omega) | (simp -iota; omega) | (simp -iota; done) | decide)))); conv => whnf)
      refine AFn.use [2] (ku) (by kernel_rfl) rfl (by repeat' first | exact trivial | refine ⟨rfl, ?_⟩) fun _ => ?_
      generalize s'.edits = E at *
      (conv => whnf); repeat ((first | (refine And.intro ?_ ?_; (focus ((repeat' (first | exact trivial | refine And.intro rfl ?_)); done))) | (refine And.intro ?_ ?_; (focus (first | omega | (dsimp -iota only; omega) | (simp -iota; omega) | (simp -iota; done) | decide)))); conv => whnf)
      refine branchB_of (fun q => ?_) (fun q => ?_) <;> (first | replace q := not_t q | replace q := not_f q | skip) <;> (first | replace q := of_decide_eq_true q | replace q := of_decide_eq_false q | skip) <;> (first | replace q := Classical.not_not.1 q | skip) <;> (try dsimp only at q)
      · exact absurd rfl q
      (conv => whnf); repeat ((first | (refine And.intro ?_ ?_; (focus ((repeat' (first | exact trivial | refine And.intro rfl ?_)); done))) | (refine And.intro ?_ ?_; (focus (first | omega | (dsimp -iota only; omega) | (simp -iota; omega) | (simp -iota; done) | decide)))); conv => whnf)
      refine AWP.loop (X := { k : Nat // k ≤ E.length }) (fun x => [(11, rowE E), (12, rowE E), (88, rowE E), (89, AV.int .i64 E.length), (90, AV.int .i64 x.1)]) (fun x => ⟨1, [(0, t.C)]⟩) (fun x => E.length - x.1) (⟨0, Nat.zero_le _⟩) ?_ fun x => AWP.go (S := sch3) (cfgOk _ _) (.of_eq (by kernel_rfl)) ?_
      · exact Ent.mk' [some 0] (by kernel_rfl) (by repeat' first | exact trivial | refine And.intro (AVE.refl _) ?_ | refine And.intro (AVE.int (by first | rfl | omega | (dsimp only; omega) | (simp -iota; omega) | (simp -iota; done))) ?_ | refine And.intro (AVE.bool (by assumption)) ?_ | refine And.intro (AVE.len (by first | rfl | omega | (dsimp only; omega) | (simp -iota; omega) | (simp -iota; done))) ?_) (by repeat' (first | exact trivial | refine ⟨⟨_, rfl, ChE.refl _⟩, ?_⟩))
      · obtain ⟨k, hk⟩ := x
        have hkx : ((k : Nat) : Int).toNat = k := by simp
        (conv => whnf); repeat ((first | (refine And.intro ?_ ?_; (focus ((repeat' (first | exact trivial | refine And.intro rfl ?_)); done))) | (refine And.intro ?_ ?_; (focus (first | omega | (dsimp -iota only; omega) | (simp -iota; omega) | (simp -iota; done) | decide)))); conv => whnf)
        refine branchB_of (fun g => ?_) (fun g => ?_) <;> (first | replace g := not_t g | replace g := not_f g | skip) <;> (first | replace g := of_decide_eq_true g | replace g := of_decide_eq_false g | skip) <;> (first | replace g := Classical.not_not.1 g | skip) <;> (try dsimp only at g)
        · have hk' : k < E.length := by omega
          have hes : (E.getD k default).seals.length ≤ 1000 := by
            rw [List.getD_eq_getElem?_getD, List.getElem?_eq_getElem hk']
            have := (hei' _ (List.getElem_mem hk')).2
            simp only [Option.getD_some]
            omega
          have ks := editSame_ok (E.getD k default) (E.getD k default) hes hes
          rw [decide_eq_true rfl] at ks
          (conv => whnf); repeat ((first | (refine And.intro ?_ ?_; (focus ((repeat' (first | exact trivial | refine And.intro rfl ?_)); done))) | (refine And.intro ?_ ?_; (focus (first | omega | (dsimp -iota only; omega) | (simp -iota; omega) | (simp -iota; done) | decide)))); conv => whnf)
          repeat' (first | (refine And.intro ?_ ?_ <;> ((conv => whnf); repeat ((first | (refine And.intro ?_ ?_; (focus ((repeat' (first | exact trivial | refine And.intro rfl ?_)); done))) | (refine And.intro ?_ ?_; (focus (first | omega | (dsimp -iota only; omega) | (simp -iota; omega) | (simp -iota; done) | decide)))); conv => whnf))))
          all_goals
            rw [hkx]
            refine AFn.use [] (ks) (by kernel_rfl) rfl (by repeat' first | exact trivial | refine ⟨rfl, ?_⟩) fun _ => ?_
            (conv => whnf); repeat ((first | (refine And.intro ?_ ?_; (focus ((repeat' (first | exact trivial | refine And.intro rfl ?_)); done))) | (refine And.intro ?_ ?_; (focus (first | omega | (dsimp -iota only; omega) | (simp -iota; omega) | (simp -iota; done) | decide)))); conv => whnf)
            refine ⟨⟨k + 1, by omega⟩, Ent.mk' [some 0] (by kernel_rfl) (by repeat' first | exact trivial | refine And.intro (AVE.refl _) ?_ | refine And.intro (AVE.int (by first | rfl | omega | (dsimp only; omega) | (simp -iota; omega) | (simp -iota; done))) ?_ | refine And.intro (AVE.bool (by assumption)) ?_ | refine And.intro (AVE.len (by first | rfl | omega | (dsimp only; omega) | (simp -iota; omega) | (simp -iota; done))) ?_) (by repeat' (first | exact trivial | refine ⟨⟨_, rfl, ChE.refl _⟩, ?_⟩)), ?_⟩
            show E.length - (k + 1) < E.length - k
            omega
        · (conv => whnf); repeat ((first | (refine And.intro ?_ ?_; (focus ((repeat' (first | exact trivial | refine And.intro rfl ?_)); done))) | (refine And.intro ?_ ?_; (focus (first | omega | (dsimp -iota only; omega) | (simp -iota; omega) | (simp -iota; done) | decide)))); conv => whnf)
          refine AFn.use [0] (wakes_ok t) (by kernel_rfl) rfl (by repeat' first | exact trivial | refine ⟨rfl, ?_⟩) fun _ => ?_
          (conv => whnf); repeat ((first | (refine And.intro ?_ ?_; (focus ((repeat' (first | exact trivial | refine And.intro rfl ?_)); done))) | (refine And.intro ?_ ?_; (focus (first | omega | (dsimp -iota only; omega) | (simp -iota; omega) | (simp -iota; done) | decide)))); conv => whnf)
          refine ⟨_, _, Ent.mk' (e' := [(0, AV.bool true)]) (H' := ⟨1, [(0, t.C)]⟩) [some 0] (by kernel_rfl) ?_ ?_, (), rfl, rfl⟩
          · exact ⟨AVE.refl _, trivial⟩
          · (repeat' first | exact trivial | refine ⟨⟨_, rfl, ChE.refl _⟩, ?_⟩)
    refine AWP.loop (X := BkX more) (fun x => [(5, .ptr 1 0), (6, .ptr 2 0), (54, rowE more), (55, AV.int .i64 more.length), (56, AV.int .i64 x.j)]) (fun x => ⟨3, [(0, t.C), (1, .sem (Nest x.s.H)), (2, .sem (Nest x.u.H))]⟩) (fun x => 20 - x.j) (⟨0, s, u, hs, huk, hsim, hsb, by omega, by omega⟩) ?_ fun x => AWP.go (S := sch3) (cfgOk _ _) (.of_eq (by kernel_rfl)) ?_
    · exact Ent.mk' [some 0, some 1, some 2] (by kernel_rfl) (by repeat' first | exact trivial | refine And.intro (AVE.refl _) ?_ | refine And.intro (AVE.int (by first | rfl | omega | (dsimp only; omega) | (simp -iota; omega) | (simp -iota; done))) ?_ | refine And.intro (AVE.bool (by assumption)) ?_ | refine And.intro (AVE.len (by first | rfl | omega | (dsimp only; omega) | (simp -iota; omega) | (simp -iota; done))) ?_) (by repeat' (first | exact trivial | refine ⟨⟨_, rfl, ChE.refl _⟩, ?_⟩))
    · obtain ⟨j, s', u', hs', hu', sim, hb', hj, hjl⟩ := x
      (conv => whnf); repeat ((first | (refine And.intro ?_ ?_; (focus ((repeat' (first | exact trivial | refine And.intro rfl ?_)); done))) | (refine And.intro ?_ ?_; (focus (first | omega | (dsimp -iota only; omega) | (simp -iota; omega) | (simp -iota; done) | decide)))); conv => whnf)
      refine branchB_of (fun h => ?_) (fun h => ?_) <;> (first | replace h := not_t h | replace h := not_f h | skip) <;> (first | replace h := of_decide_eq_true h | replace h := of_decide_eq_false h | skip) <;> (first | replace h := Classical.not_not.1 h | skip) <;> (try dsimp only at h)
      rotate_left
      · (conv => whnf); repeat ((first | (refine And.intro ?_ ?_; (focus ((repeat' (first | exact trivial | refine And.intro rfl ?_)); done))) | (refine And.intro ?_ ?_; (focus (first | omega | (dsimp -iota only; omega) | (simp -iota; omega) | (simp -iota; done) | decide)))); conv => whnf)
        exact ⟨⟨j, s', u', hs', hu', sim, hb', hj, hjl⟩, Ent.mk' [some 0, some 1, some 2] (by kernel_rfl) (by repeat' first | exact trivial | refine And.intro (AVE.refl _) ?_ | refine And.intro (AVE.int (by first | rfl | omega | (dsimp only; omega) | (simp -iota; omega) | (simp -iota; done))) ?_ | refine And.intro (AVE.bool (by assumption)) ?_ | refine And.intro (AVE.len (by first | rfl | omega | (dsimp only; omega) | (simp -iota; omega) | (simp -iota; done))) ?_) (by repeat' (first | exact trivial | refine ⟨⟨_, rfl, ChE.refl _⟩, ?_⟩))⟩
      generalize hc : more.getD ((j : Nat) : Int).toNat default = c
      have hcI : c.In := hc ▸ getD_In hm _
      (conv => whnf); repeat ((first | (refine And.intro ?_ ?_; (focus ((repeat' (first | exact trivial | refine And.intro rfl ?_)); done))) | (refine And.intro ?_ ?_; (focus (first | omega | (dsimp -iota only; omega) | (simp -iota; omega) | (simp -iota; done) | decide)))); conv => whnf)
      rw [hc]
      refine branchB_of (fun h2 => ?_) (fun h2 => ?_) <;> (first | replace h2 := not_t h2 | replace h2 := not_f h2 | skip) <;> (first | replace h2 := of_decide_eq_true h2 | replace h2 := of_decide_eq_false h2 | skip) <;> (first | replace h2 := Classical.not_not.1 h2 | skip) <;> (try dsimp only at h2)
      · (conv => whnf); repeat ((first | (refine And.intro ?_ ?_; (focus ((repeat' (first | exact trivial | refine And.intro rfl ?_)); done))) | (refine And.intro ?_ ?_; (focus (first | omega | (dsimp -iota only; omega) | (simp -iota; omega) | (simp -iota; done) | decide)))); conv => whnf)
        exact ⟨⟨j, s', u', hs', hu', sim, hb', hj, hjl⟩, Ent.mk' [some 0, some 1, some 2] (by kernel_rfl) (by repeat' first | exact trivial | refine And.intro (AVE.refl _) ?_ | refine And.intro (AVE.int (by first | rfl | omega | (dsimp only; omega) | (simp -iota; omega) | (simp -iota; done))) ?_ | refine And.intro (AVE.bool (by assumption)) ?_ | refine And.intro (AVE.len (by first | rfl | omega | (dsimp only; omega) | (simp -iota; omega) | (simp -iota; done))) ?_) (by repeat' (first | exact trivial | refine ⟨⟨_, rfl, ChE.refl _⟩, ?_⟩))⟩
      have hcf := few_In hcI
      have ka := apply_ok t s' c.few hs'.in hcf
      rw [Sim.appE sim c.few] at ka
      have kb := apply_ok t u' c.few hu'.in hcf
      have hs2 := (app_Ok s' c.few hs' (by omega)).ok
      have hu2 := (app_Ok u' c.few hu' (by omega)).ok
      have sim2 := Sim.app sim c.few
      have hb2 := app_B hb' hcf
      have kc := same_ok (s'.app c.few) (u'.app c.few) hs2.in.len hu2.in.len hs2.sn hu2.sn
      rw [Sim.same sim2 hs2 hu2] at kc
      generalize s'.app c.few = s2 at *
      generalize u'.app c.few = u2 at *
      generalize u'.appE c.few = w at *
      (conv => whnf); repeat ((first | (refine And.intro ?_ ?_; (focus ((repeat' (first | exact trivial | refine And.intro rfl ?_)); done))) | (refine And.intro ?_ ?_; (focus (first | omega | (dsimp -iota only; omega) | (simp -iota; omega) | (simp -iota; done) | decide)))); conv => whnf)
      repeat' (first | (refine And.intro ?_ ?_ <;> ((conv => whnf); repeat ((first | (refine And.intro ?_ ?_; (focus ((repeat' (first | exact trivial | refine And.intro rfl ?_)); done))) | (refine And.intro ?_ ?_; (focus (first | omega | (dsimp -iota only; omega) | (simp -iota; omega) | (simp -iota; done) | decide)))); conv => whnf))) | (refine AFn.use [] (few_ok c) (by kernel_rfl) rfl (by repeat' first | exact trivial | refine ⟨rfl, ?_⟩) fun _ => ?_; ((conv => whnf); repeat ((first | (refine And.intro ?_ ?_; (focus ((repeat' (first | exact trivial | refine And.intro rfl ?_)); done))) | (refine And.intro ?_ ?_; (focus (first | omega | (dsimp -iota only; omega) | (simp -iota; omega) | (simp -iota; done) | decide)))); conv => whnf))) | (refine AFn.use [1, 0] (ka) (by kernel_rfl) rfl (by repeat' first | exact trivial | refine ⟨rfl, ?_⟩) fun _ => ?_; ((conv => whnf); repeat ((first | (refine And.intro ?_ ?_; (focus ((repeat' (first | exact trivial | refine And.intro rfl ?_)); done))) | (refine And.intro ?_ ?_; (focus (first | omega | (dsimp -iota only; omega) | (simp -iota; omega) | (simp -iota; done) | decide)))); conv => whnf))) | (refine AFn.use [2, 0] (kb) (by kernel_rfl) rfl (by repeat' first | exact trivial | refine ⟨rfl, ?_⟩) fun _ => ?_; ((conv => whnf); repeat ((first | (refine And.intro ?_ ?_; (focus ((repeat' (first | exact trivial | refine And.intro rfl ?_)); done))) | (refine And.intro ?_ ?_; (focus (first | omega | (dsimp -iota only; omega) | (simp -iota; omega) | (simp -iota; done) | decide)))); conv => whnf))) | (refine branchB_of (fun q => ?_) (fun q => ?_) <;> (first | replace q := not_t q | replace q := not_f q | skip) <;> (first | replace q := of_decide_eq_true q | replace q := of_decide_eq_false q | skip) <;> (first | replace q := Classical.not_not.1 q | skip) <;> (try dsimp only at q) <;> ((conv => whnf); repeat ((first | (refine And.intro ?_ ?_; (focus ((repeat' (first | exact trivial | refine And.intro rfl ?_)); done))) | (refine And.intro ?_ ?_; (focus (first | omega | (dsimp -iota only; omega) | (simp -iota; omega) | (simp -iota; done) | decide)))); conv => whnf))) | (refine AFn.use [1, 2] (kc) (by kernel_rfl) rfl (by repeat' first | exact trivial | refine ⟨rfl, ?_⟩) fun _ => ?_; ((conv => whnf); repeat ((first | (refine And.intro ?_ ?_; (focus ((repeat' (first | exact trivial | refine And.intro rfl ?_)); done))) | (refine And.intro ?_ ?_; (focus (first | omega | (dsimp -iota only; omega) | (simp -iota; omega) | (simp -iota; done) | decide)))); conv => whnf))))
      all_goals first
        | exact absurd rfl q
        | (refine ⟨⟨j + 1, s2, u2, hs2, hu2, sim2, hb2, by omega, by omega⟩, Ent.mk' [some 0, some 1, some 2] (by kernel_rfl) (by repeat' first | exact trivial | refine And.intro (AVE.refl _) ?_ | refine And.intro (AVE.int (by first | rfl | omega | (dsimp only; omega) | (simp -iota; omega) | (simp -iota; done))) ?_ | refine And.intro (AVE.bool (by assumption)) ?_ | refine And.intro (AVE.len (by first | rfl | omega | (dsimp only; omega) | (simp -iota; omega) | (simp -iota; done))) ?_) (by repeat' (first | exact trivial | refine ⟨⟨_, rfl, ChE.refl _⟩, ?_⟩)), ?_⟩
           show 20 - (j + 1) < 20 - j
           omega)
  refine AWP.loop (X := { k : Nat // k ≤ s.edits.length }) (fun x => [(1, rowE more), (5, .ptr 1 0), (6, .ptr 2 0), (18, rowE s.edits), (19, AV.int .i64 s.edits.length), (20, AV.int .i64 x.1)]) (fun x => ⟨3, [(0, t.C), (1, .sem (Nest s.H)), (2, .sem (Nest (runAll SD.nil (s.edits.take x.1)).H))]⟩) (fun x => s.edits.length - x.1) (⟨0, Nat.zero_le _⟩) ?_ fun x => AWP.go (S := sch3) (cfgOk _ _) (.of_eq (by kernel_rfl)) ?_
  · exact Ent.mk' [some 0, some 1, some 2] (by kernel_rfl) (by repeat' first | exact trivial | refine And.intro (AVE.refl _) ?_ | refine And.intro (AVE.int (by first | rfl | omega | (dsimp only; omega) | (simp -iota; omega) | (simp -iota; done))) ?_ | refine And.intro (AVE.bool (by assumption)) ?_ | refine And.intro (AVE.len (by first | rfl | omega | (dsimp only; omega) | (simp -iota; omega) | (simp -iota; done))) ?_) (by repeat' (first | exact trivial | refine ⟨⟨_, rfl, ChE.refl _⟩, ?_⟩))
  · obtain ⟨k, hk⟩ := x
    have hkx : ((k : Nat) : Int).toNat = k := by simp
    have hko : (runAll SD.nil (s.edits.take k)).Ok (0 + (s.edits.take k).length) := runAll_Ok SD.nilOk _ (by rw [List.length_take]; omega)
    (conv => whnf); repeat ((first | (refine And.intro ?_ ?_; (focus ((repeat' (first | exact trivial | refine And.intro rfl ?_)); done))) | (refine And.intro ?_ ?_; (focus (first | omega | (dsimp -iota only; omega) | (simp -iota; omega) | (simp -iota; done) | decide)))); conv => whnf)
    refine branchB_of (fun h => ?_) (fun h => ?_) <;> (first | replace h := not_t h | replace h := not_f h | skip) <;> (first | replace h := of_decide_eq_true h | replace h := of_decide_eq_false h | skip) <;> (first | replace h := Classical.not_not.1 h | skip) <;> (try dsimp only at h)
    · have hk' : k < s.edits.length := by omega
      have h0 := hat k hk'
      have h1 := runAll_take SD.nil s.edits hk'
      have heI : (s.edits.getD k default).In := getD_In (fun e he => (hei e he).1) k
      (conv => whnf); repeat ((first | (refine And.intro ?_ ?_; (focus ((repeat' (first | exact trivial | refine And.intro rfl ?_)); done))) | (refine And.intro ?_ ?_; (focus (first | omega | (dsimp -iota only; omega) | (simp -iota; omega) | (simp -iota; done) | decide)))); conv => whnf)
      rw [hkx]
      have ka := apply_ok t (runAll SD.nil (s.edits.take k)) (s.edits.getD k default) hko.in heI
      rw [h0, ← h1] at ka
      refine AFn.use [2, 0] (ka) (by kernel_rfl) rfl (by repeat' first | exact trivial | refine ⟨rfl, ?_⟩) fun _ => ?_
      (conv => whnf); repeat ((first | (refine And.intro ?_ ?_; (focus ((repeat' (first | exact trivial | refine And.intro rfl ?_)); done))) | (refine And.intro ?_ ?_; (focus (first | omega | (dsimp -iota only; omega) | (simp -iota; omega) | (simp -iota; done) | decide)))); conv => whnf)
      refine ⟨⟨k + 1, by omega⟩, Ent.mk' [some 0, some 1, some 2] (by kernel_rfl) (by repeat' first | exact trivial | refine And.intro (AVE.refl _) ?_ | refine And.intro (AVE.int (by first | rfl | omega | (dsimp only; omega) | (simp -iota; omega) | (simp -iota; done))) ?_ | refine And.intro (AVE.bool (by assumption)) ?_ | refine And.intro (AVE.len (by first | rfl | omega | (dsimp only; omega) | (simp -iota; omega) | (simp -iota; done))) ?_) (by repeat' (first | exact trivial | refine ⟨⟨_, rfl, ChE.refl _⟩, ?_⟩)), ?_⟩
      show s.edits.length - (k + 1) < s.edits.length - k
      omega
    · have hu0 : runAll SD.nil (s.edits.take k) = u := by rw [List.take_of_length_le (by omega)]; exact hend
      (conv => whnf); repeat ((first | (refine And.intro ?_ ?_; (focus ((repeat' (first | exact trivial | refine And.intro rfl ?_)); done))) | (refine And.intro ?_ ?_; (focus (first | omega | (dsimp -iota only; omega) | (simp -iota; omega) | (simp -iota; done) | decide)))); conv => whnf)
      refine ⟨(), Ent.mk' [some 0, some 1, some 2] (by kernel_rfl) (by repeat' first | exact trivial | refine And.intro (AVE.refl _) ?_ | refine And.intro (AVE.int (by first | rfl | omega | (dsimp only; omega) | (simp -iota; omega) | (simp -iota; done))) ?_ | refine And.intro (AVE.bool (by assumption)) ?_ | refine And.intro (AVE.len (by first | rfl | omega | (dsimp only; omega) | (simp -iota; omega) | (simp -iota; done))) ?_) ?_⟩
      exact ⟨⟨_, rfl, ChE.refl _⟩, ⟨_, rfl, ChE.refl _⟩, ⟨_, rfl, ChE.of_eq (by rw [hu0]; rfl)⟩, trivial⟩
end Go.Proofs.YtmlhaellfpbcgaaDoor.Ax
