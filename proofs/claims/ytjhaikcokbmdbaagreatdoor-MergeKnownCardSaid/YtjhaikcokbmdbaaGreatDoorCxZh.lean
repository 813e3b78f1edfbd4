/-
  Closed runs: a map from integers to functions that start-up lays and nobody writes.
-/
import Derived.Test.YtjhaikcokbmdbaaGreatDoorCxZg
import Derived.LaidHandle
import Derived.LaidMore
import Derived.FnData
import Derived.WideKeyElems2
namespace Go.Proofs.YtjhaikcokbmdbaaGreatDoor.Cx
open Go.RowKit Go.Proofs.YtjhaikcokbmdbaaGreatDoor.Ax Go.ChangeShapes Go.WideShapes Go.WideElems Go.MapKept

theorem perm_map {α β : Type} (f : α → β) {m m' : List β} (h : m.Perm m') : ∀ l : List α, m' = l.map f → ∃ l' : List α, l'.Perm l ∧ l'.map f = m := by
  induction h with
  | nil => intro l h; exact ⟨[], by rw [List.map_eq_nil_iff.1 h.symm], rfl⟩
  | cons x _ ih =>
    intro l h
    cases l with
    | nil => cases h
    | cons y ys =>
      rw [List.map_cons] at h
      injection h with h1 h2
      obtain ⟨l', g1, g2⟩ := ih ys h2
      exact ⟨y :: l', g1.cons y, by rw [List.map_cons, g2, h1]⟩
  | swap x y l0 =>
    intro l h
    match l, h with
    | a :: b :: l, h =>
      rw [List.map_cons, List.map_cons] at h
      injection h with h1 h2
      injection h2 with h2 h3
      exact ⟨b :: a :: l, List.Perm.swap .., by rw [List.map_cons, List.map_cons, h1, h2, h3]⟩
  | trans _ _ ih1 ih2 =>
    intro l h
    obtain ⟨l2, g1, g2⟩ := ih2 l h
    obtain ⟨l1, k1, k2⟩ := ih1 l2 g2.symm
    exact ⟨l1, k1.trans g1, k2⟩
/-- A laid entry: its key, the function's name, its number. -/
abbrev Ent := Int × List UInt8 × Nat
noncomputable def entC (x : Ent) : CK × CV := (.i .i64 x.1, .v (.func (.func x.2.2) #[] #[]))
theorem zip_of {P : Program} {W : World} {k e m : Nat} {ps rs : Array TypeId} {va : Bool} (hk : P.underlying k = some (.int .i64)) (he : P.underlying e = some (.func ps rs va)) (ρ' : Rho) : ∀ (ents : List Ent) (l : List MapEntry),
    l.map (rg P k (elemAt (funcToken P) P W 0 (fun _ => true) true m e)) = ents.map (fun x => ((Lit.int .i64 x.1, DataW.held x.2.1) : Lit × DataW (List UInt8))) → (∀ y ∈ l, ∃ z, rd P k (elemAt (funcToken P) P W 0 (fun _ => true) true m e) y = some z) →
    (∀ x ∈ ents, ((List.range P.funcs.size).filter fun f => (P.funcs[f]?).any (·.name.toUTF8.data.toList == x.2.1)) = [x.2.2] ∧ x.2.1 ≠ []) → ZipR (CV.R ρ') l (toM (ents.map entC))
  | [], l, h, _, _ => by rw [List.map_nil, List.map_eq_nil_iff] at h; subst h; rfl
  | x :: xs, [], h, _, _ => by cases h
  | x :: xs, y :: ys, h, hr, hf => by
    rw [List.map_cons, List.map_cons] at h
    injection h with q1 q2
    obtain ⟨z, hz⟩ := hr y (List.mem_cons_self ..)
    rw [rg_of hz] at q1
    subst q1
    have h1 := rd_key hz
    obtain ⟨u, h2, h3⟩ := rd_val hz
    refine ⟨_, _, rfl, ?_, ?_, zip_of hk he ρ' xs ys q2 (fun z hz => hr z (List.mem_cons_of_mem _ hz)) fun x hx => hf x (List.mem_cons_of_mem _ hx)⟩
    · show y.key = .int .i64 x.1
      unfold keyOf mapKey at h1
      simp only [hk] at h1
      cases hy : y.key <;> rw [hy] at h1 <;> simp only at h1 <;> first | cases h1 | skip
      rename_i q' n'
      split at h1
      · rename_i hq
        injection h1 with h1
        injection h1 with _ h1
        rw [hq.1, h1]
      · cases h1
    · obtain ⟨f1, f2⟩ := hf x (List.mem_cons_self ..)
      unfold elemAt at h2
      split at h2
      · rename_i hfm
        have hcell : y.val.cells.toList = [y.val] := by
          cases hv : y.val <;> rw [hv] at hfm <;> first | rfl | (simp [Value.formed, he] at hfm)
        rw [hcell] at h2
        obtain ⟨d, q⟩ := u
        simp only at h3
        subst h3
        cases hn : x.2.1 with
        | nil => exact absurd hn f2
        | cons b r =>
          rw [hn] at h2 f1
          have := func_of_trod (f0 := x.2.2) he f1 h2
          show CV.R ρ' (.v (.func (.func x.2.2) #[] #[])) y.val
          simp only [CV.R]
          exact this
      · cases h2
theorem gm_of_laid {P : Program} {W : World} {n : String} {d : DataW Unit} {g t k e : Nat} {ps rs : Array TypeId} {va : Bool} (ents : List Ent)
    (hP : P.globalNamed n = some g) (hT : (P.globals[g]?).map (·.type) = some t) (ht : P.underlying t = some (.map k e)) (hk : P.underlying k = some (.int .i64)) (he : P.underlying e = some (.func ps rs va))
    (hd : d.funcsOut = .map (ents.map fun x => (.int .i64 x.1, .held x.2.1))) (hf : ents.all (fun x => (((List.range P.funcs.size).filter fun f => (P.funcs[f]?).any (·.name.toUTF8.data.toList == x.2.1)) == [x.2.2]) && !x.2.1.isEmpty) = true) (hnd : (ents.map (·.1)).Nodup)
    (h : funcsAt P W n d) : ∃ r, r < W.heap.size ∧ W.cell? ⟨g, 0, none⟩ = some (.map (some r)) ∧ ∀ ρ' : Rho, Chunk.R ρ' (r, 0) W (.map (.i .i64) 0 (ents.map entC) none) := by
  obtain ⟨g', t', cs, fuel, p, h1, h2, h3, h4⟩ := h
  obtain rfl := Option.some.inj (hP.symm.trans h1)
  obtain rfl := Option.some.inj (hT.symm.trans h2)
  rw [hd] at h4
  rcases open_map ht h4 with ⟨_, h5⟩ | ⟨b, es, clock, m, rfl, hcs, hb, _, F, hx⟩
  · cases h5
  · injection hx with hx _
    injection hx with hx
    have hperm : (ents.map fun x => ((Lit.int .i64 x.1, DataW.held x.2.1) : Lit × DataW (List UInt8))).Perm (es.toList.map (rg P k (elemAt (funcToken P) P W 0 (fun _ => true) true m e))) := by
      rw [hx]; exact sorted_perm _
    obtain ⟨l, hl1, hl2⟩ := perm_map _ hperm _ rfl
    have hcell := World.var?_cell hP h3 0
    rw [Array.eq_one_of_toList hcs] at hcell
    obtain ⟨hborn, hborns, _⟩ := (stamped_iff es clock).1 F.stamped
    refine ⟨b, (Array.getElem?_eq_some_iff.1 hb).1, by simpa using hcell, fun ρ' => ⟨es, clock, hb, ⟨fun q hq => ?_, ⟨l, hl1, ?_⟩, ?_, hborns, hborn⟩, fun q hq => ?_, BsR.none _ _⟩⟩
    · obtain ⟨c, hc, rfl⟩ := List.mem_map.1 hq
      obtain ⟨x, _, rfl⟩ := List.mem_map.1 hc
      rfl
    · refine zip_of hk he ρ' ents l hl2 (fun y hy => F.reads y (hl1.mem_iff.1 hy)) fun x hx => ?_
      have := List.all_eq_true.1 hf x hx
      rw [Bool.and_eq_true] at this
      exact ⟨by simpa using this.1, by simpa using this.2⟩
    · have e1 : (toM (ents.map entC)).map (·.1) = (ents.map (·.1)).map (MK.i .i64) := by
        simp [toM, entC, CK.mk, Function.comp_def]
      rw [e1]
      exact List.Pairwise.map _ (fun a b hab h => hab (by injection h)) hnd
    · obtain ⟨x, _, rfl⟩ := List.mem_map.1 hq
      trivial
end Go.Proofs.YtjhaikcokbmdbaaGreatDoor.Cx
