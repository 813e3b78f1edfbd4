/-
  A map from integers to functions that start-up lays, as the table that a global names.
-/
import Derived.Test.YtmlhaellfpbcgaaDoorBxZc
import Derived.LaidHandle
import Derived.LaidMore
import Derived.FnData
import Derived.WideKeyElems2
namespace Go.Proofs.YtmlhaellfpbcgaaDoor.Ax
open Go.RowKit Go.ChangeShapes Go.WideShapes Go.WideElems Go.MapKept

theorem perm_map {α β : Type} (f : α → β) {m m' : List β} (h : m.Perm m') : ∀ l : List α, m' = l.map f → ∃ l' : List α, l'.Perm l ∧ l'.map f = m := by
  induction h with
  | nil => intro l h; exact ⟨[], by rw [List.map_eq_nil_iff.1 h.symm], rfl⟩
  | cons x _ ih =>
    intro l h
    cases l with
    | nil => cases h
    | cons y ys =>
      rw [List.map_cons] at h
      injection h with h1 h2
      obtain ⟨l', g1, g2⟩ := ih ys h2
      exact ⟨y :: l', g1.cons y, by rw [List.map_cons, g2, h1]⟩
  | swap x y l0 =>
    intro l h
    match l, h with
    | a :: b :: l, h =>
      rw [List.map_cons, List.map_cons] at h
      injection h with h1 h2
      injection h2 with h2 h3
      exact ⟨b :: a :: l, List.Perm.swap .., by rw [List.map_cons, List.map_cons, h1, h2, h3]⟩
  | trans _ _ ih1 ih2 =>
    intro l h
    obtain ⟨l2, g1, g2⟩ := ih2 l h
    obtain ⟨l1, k1, k2⟩ := ih1 l2 g2.symm
    exact ⟨l1, k1.trans g1, k2⟩
/-- A laid entry: its key, the function's name, its number. -/
abbrev LEnt := Int × List UInt8 × Nat
def entI (x : LEnt) : MK × IV := (.i .i64 x.1, .v (.func (.func x.2.2) ⟨[]⟩ ⟨[]⟩))
theorem zip_of {P : Program} {W : World} {k e m : Nat} {ps rs : Array TypeId} {va : Bool} (hk : P.underlying k = some (.int .i64)) (he : P.underlying e = some (.func ps rs va)) (ι : Imm) : ∀ (ents : List LEnt) (l : List MapEntry),
    l.map (rg P k (elemAt (funcToken P) P W 0 (fun _ => true) true m e)) = ents.map (fun x => ((Lit.int .i64 x.1, DataW.held x.2.1) : Lit × DataW (List UInt8))) → (∀ y ∈ l, ∃ z, rd P k (elemAt (funcToken P) P W 0 (fun _ => true) true m e) y = some z) →
    (∀ x ∈ ents, ((List.range P.funcs.size).filter fun f => (P.funcs[f]?).any (·.name.toUTF8.data.toList == x.2.1)) = [x.2.2] ∧ x.2.1 ≠ []) → ZipR (IV.R ι) l (ents.map entI)
  | [], l, h, _, _ => by rw [List.map_nil, List.map_eq_nil_iff] at h; subst h; rfl
  | x :: xs, [], h, _, _ => by cases h
  | x :: xs, y :: ys, h, hr, hf => by
    rw [List.map_cons, List.map_cons] at h
    injection h with q1 q2
    obtain ⟨z, hz⟩ := hr y (List.mem_cons_self ..)
    rw [rg_of hz] at q1
    subst q1
    have h1 := rd_key hz
    obtain ⟨u, h2, h3⟩ := rd_val hz
    refine ⟨_, _, rfl, ?_, ?_, zip_of hk he ι xs ys q2 (fun z hz => hr z (List.mem_cons_of_mem _ hz)) fun x hx => hf x (List.mem_cons_of_mem _ hx)⟩
    · show y.key = .int .i64 x.1
      unfold keyOf Go.mapKey at h1
      simp only [hk] at h1
      cases hy : y.key <;> rw [hy] at h1 <;> simp only at h1 <;> first | cases h1 | skip
      rename_i q' n'
      split at h1
      · rename_i hq
        injection h1 with h1
        injection h1 with _ h1
        rw [hq.1, h1]
      · cases h1
    · obtain ⟨f1, f2⟩ := hf x (List.mem_cons_self ..)
      unfold elemAt at h2
      split at h2
      · rename_i hfm
        have hcell : y.val.cells.toList = [y.val] := by
          cases hv : y.val <;> rw [hv] at hfm <;> first | rfl | (simp [Value.formed, he] at hfm)
        rw [hcell] at h2
        obtain ⟨d, q⟩ := u
        simp only at h3
        subst h3
        cases hn : x.2.1 with
        | nil => exact absurd hn f2
        | cons b r =>
          rw [hn] at h2 f1
          have := func_of_trod (f0 := x.2.2) he f1 h2
          show IV.R ι (.v (.func (.func x.2.2) ⟨[]⟩ ⟨[]⟩)) y.val
          simp only [IV.R]
          exact this
      · cases h2
theorem gm_of_laid {P : Program} {W : World} {n : String} {d : DataW Unit} {g t k e : Nat} {ps rs : Array TypeId} {va : Bool} (ents : List LEnt)
    (hP : P.globalNamed n = some g) (hT : (P.globals[g]?).map (·.type) = some t) (ht : P.underlying t = some (.map k e)) (hk : P.underlying k = some (.int .i64)) (he : P.underlying e = some (.func ps rs va))
    (hd : d.funcsOut = .map (ents.map fun x => (.int .i64 x.1, .held x.2.1))) (hf : ents.all (fun x => (((List.range P.funcs.size).filter fun f => (P.funcs[f]?).any (·.name.toUTF8.data.toList == x.2.1)) == [x.2.2]) && !x.2.1.isEmpty) = true) (hnd : (ents.map (·.1)).Nodup)
    (h : funcsAt P W n d) : ∃ b es clock, b < W.heap.size ∧ W.cell? ⟨g, 0, none⟩ = some (.map (some b)) ∧ W.heap[b]? = some (.map es clock) ∧ ∀ ι : Imm, MapR (IV.R ι) (some .i64) (ents.map entI) es clock := by
  obtain ⟨g', t', cs, fuel, p, h1, h2, h3, h4⟩ := h
  obtain rfl := Option.some.inj (hP.symm.trans h1)
  obtain rfl := Option.some.inj (hT.symm.trans h2)
  rw [hd] at h4
  rcases open_map ht h4 with ⟨_, h5⟩ | ⟨b, es, clock, m, rfl, hcs, hb, _, F, hx⟩
  · cases h5
  · injection hx with hx _
    injection hx with hx
    have hperm : (ents.map fun x => ((Lit.int .i64 x.1, DataW.held x.2.1) : Lit × DataW (List UInt8))).Perm (es.toList.map (rg P k (elemAt (funcToken P) P W 0 (fun _ => true) true m e))) := by
      rw [hx]; exact sorted_perm _
    obtain ⟨l, hl1, hl2⟩ := perm_map _ hperm _ rfl
    have hcell := World.var?_cell hP h3 0
    rw [Array.eq_one_of_toList hcs] at hcell
    obtain ⟨hborn, hborns, _⟩ := (stamped_iff es clock).1 F.stamped
    refine ⟨b, es, clock, (Array.getElem?_eq_some_iff.1 hb).1, by simpa using hcell, hb, fun ι => ⟨fun q hq => ?_, ⟨l, hl1, ?_⟩, ?_, hborns, hborn⟩⟩
    · obtain ⟨x, _, rfl⟩ := List.mem_map.1 hq
      rfl
    · refine zip_of hk he ι ents l hl2 (fun y hy => F.reads y (hl1.mem_iff.1 hy)) fun x hx => ?_
      have := List.all_eq_true.1 hf x hx
      rw [Bool.and_eq_true] at this
      exact ⟨by simpa using this.1, by simpa using this.2⟩
    · have e1 : (ents.map entI).map (·.1) = (ents.map (·.1)).map (MK.i .i64) := by
        simp [entI, Function.comp_def]
      rw [e1]
      exact List.Pairwise.map _ (fun a b hab h => hab (by injection h)) hnd
/-- The memory in which a law begins: the table alone. -/
theorem SR.table {w : World} {g b : Nat} {m : List (MK × IV)} {es : Array MapEntry} {clock : Nat} (hb : b < w.heap.size) (hc : w.cell? ⟨g, 0, none⟩ = some (.map (some b))) (ho : w.heap[b]? = some (.map es clock)) (hm : MapR (IV.R (immOf w)) (some .i64) m es clock) :
    SR (fun h => if h = 0 then some ⟨some b, 0, fun k => k = b⟩ else none) (immOf w) ⟨1, [(0, .gmap g (some .i64) m es clock)]⟩ w where
  imm _ _ _ h := (immOf_cell h).1
  one _ _ _ h := (immOf_cell h).2
  rel p hp := by
    rw [List.mem_singleton] at hp
    subst hp
    exact ⟨_, rfl, b, rfl, fun k => Iff.rfl, ho, hm, immOf_mk hc rfl⟩
  fresh h hh := by
    have : ¬ h = 0 := by intro e; subst e; exact absurd (show 1 ≤ 0 from hh) (by decide)
    simp only [if_neg this]
  nodup := by simp
  apart p hp q hq hne := by
    rw [List.mem_singleton] at hp hq
    subst hp hq
    exact absurd rfl hne
  iapart p hp hv hhv k o v hk := by
    rw [List.mem_singleton] at hp
    subst hp
    simp only [if_true, Option.some.injEq] at hhv
    subst hhv
    have hk : k = b := hk
    subst hk
    intro h
    have := (immOf_cell h).1
    unfold World.cell? at this
    simp only [ho] at this
    cases this
  lt p hp hv hhv k hk := by
    rw [List.mem_singleton] at hp
    subst hp
    simp only [if_true, Option.some.injEq] at hhv
    subst hhv
    have hk : k = b := hk
    subst hk
    exact hb
/-- A law's end, the table being laid. -/
theorem AFn.tableCalls {P : Program} {F : FuncId} {args : List AV} {g b : Nat} {m : List (MK × IV)} {es : Array MapEntry} {clock : Nat} {W : World} (h : AFn P F args ⟨1, [(0, .gmap g (some .i64) m es clock)]⟩ (fun _ : Unit => AV.bool true) fun _ => ⟨1, [(0, .gmap g (some .i64) m es clock)]⟩) (hG : GOk (immOf W)) (hb : b < W.heap.size) (hc : W.cell? ⟨g, 0, none⟩ = some (.map (some b))) (ho : W.heap[b]? = some (.map es clock)) (hm : MapR (IV.R (immOf W)) (some .i64) m es clock) {vs : List Value} (hr : AV.Rs (fun _ => none) (immOf W) args vs) : Calls P F vs.toArray W fun e W' => e = .returned (.bool true) ∧ Below W.heap.size W W' := by
  have hρ : Rho.le (fun _ => none) (fun h => if h = 0 then some (⟨some b, 0, fun k => k = b⟩ : HV) else none) := fun h hv hh => by cases hh
  refine (h.run _ _ W vs hG (SR.table hb hc ho hm) (AV.Rs_mono hρ (Imm.le.refl _) _ _ hr)).mono fun e w' hp => ?_
  cases e with
  | returned v =>
    obtain ⟨r, H', ρ', ι', ⟨x, e1, e2⟩, h1, h2, h3⟩ := hp
    subst e1 e2
    simp only [AV.R, IV.R] at h1
    subst h1
    have ht := h3.touch
    refine ⟨rfl, ht.os, ht.tape, ht.output, ht.size, fun k hk => ?_⟩
    by_cases hkb : k = b
    · subst hkb
      obtain ⟨hv, e1, b', q1, q2, q3, q4, q5⟩ := h2.rel (0, .gmap g (some .i64) m es clock) (by simp)
      have h6 : ι' g 0 = some (.map (some k)) := h3.imm _ _ _ (immOf_mk hc rfl)
      rw [h6] at q5
      injection q5 with q5
      injection q5 with q5
      injection q5 with q5
      subst q5
      exact q3.trans ho.symm
    · refine ht.block k hk ?_
      rintro ⟨p, hp, hv, hv1, hv2⟩
      rw [List.mem_singleton] at hp
      subst hp
      simp only [if_true, Option.some.injEq] at hv1
      subst hv1
      exact hkb hv2
  | panicked ch => obtain ⟨v, _, r, H', ρ', ι', h, _⟩ := hp; exact h.elim
  | outgrown => exact hp.elim
end Go.Proofs.YtmlhaellfpbcgaaDoor.Ax
