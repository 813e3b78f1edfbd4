/-
  What is handed to a law, in the abstract machine's words; a law's end.
-/
import Derived.Test.YtpgdbeacmlojcaaGreatBxZb
import Derived.WalkKit
import Derived.ProofKit
import Derived.OpenShut
import Derived.Deep.DeepHandedRow
import Derived.Deep.Slices
import Derived.ChangeSame
import Derived.SizedLaws
import Derived.Carry
namespace Go.Proofs.YtpgdbeacmlojcaaGreat.Ax
open Go.ChangeShapes Go.WideShapes Go.ChangeAt Go.RowKit Go.Deep

/-- The shape of an argument. -/
inductive AT where
  | int (k : IntKind)
  | bool
  | str
  | bytes
  | sl (fs : List AT)
mutual
/-- A type has the shape. -/
def AT.fits (P : Program) : AT → TypeId → Prop
  | .int k, t => P.underlying t = some (.int k)
  | .bool, t => P.underlying t = some .bool
  | .str, t => P.underlying t = some .string
  | .bytes, t => ∃ e, P.underlying t = some (.slice e) ∧ P.underlying e = some (.int .u8) ∧ P.cellsOf e = 1
  | .sl fs, t => ∃ e, P.underlying t = some (.slice e) ∧ P.cellsOf e = fs.length ∧ fs.length ≠ 0 ∧ ((∃ a, fs = [a] ∧ AT.fitss P fs [⟨0, e⟩] 0) ∨ ∃ F : Array Field, P.underlying e = some (.struct F) ∧ AT.fitss P fs (F.toList.map fun f => ⟨f.offset, f.type⟩) 0)
def AT.fitss (P : Program) : List AT → List (Nat × TypeId) → Nat → Prop
  | [], F, _ => F = []
  | a :: fs, F, off => ∃ f G, F = f :: G ∧ f.1 = off ∧ P.cellsOf f.2 = 1 ∧ AT.fits P a f.2 ∧ AT.fitss P fs G (off + 1)
end
mutual
/-- The same, computed. -/
def AT.fitsB (P : Program) : AT → TypeId → Bool
  | .int k, t => match P.underlying t with
    | some (.int k') => decide (k' = k)
    | _ => false
  | .bool, t => match P.underlying t with
    | some .bool => true
    | _ => false
  | .str, t => match P.underlying t with
    | some .string => true
    | _ => false
  | .bytes, t => match P.underlying t with
    | some (.slice e) => (match P.underlying e with
      | some (.int .u8) => true
      | _ => false) && Nat.beq (P.cellsOf e) 1
    | _ => false
  | .sl fs, t => match P.underlying t with
    | some (.slice e) => Nat.beq (P.cellsOf e) fs.length && (!(Nat.beq fs.length 0) && (match P.underlying e with
      | some (.struct F) => AT.fitssB P fs (F.toList.map fun f => (f.offset, f.type)) 0
      | _ => Nat.beq fs.length 1 && AT.fitssB P fs [(0, e)] 0))
    | _ => false
def AT.fitssB (P : Program) : List AT → List (Nat × TypeId) → Nat → Bool
  | [], F, _ => F.isEmpty
  | a :: fs, F, off => match F with
    | [] => false
    | f :: G => Nat.beq f.1 off && (Nat.beq (P.cellsOf f.2) 1 && (AT.fitsB P a f.2 && AT.fitssB P fs G (off + 1)))
end
mutual
theorem fits_of {P : Program} : ∀ (a : AT) (t : TypeId), a.fitsB P t = true → a.fits P t
  | .int k, t, h => by
    simp only [AT.fitsB] at h
    simp only [AT.fits]
    split at h
    · rename_i k' hk
      simp only [decide_eq_true_eq] at h
      subst h
      exact hk
    · cases h
  | .bool, t, h => by
    simp only [AT.fitsB] at h
    simp only [AT.fits]
    split at h
    · assumption
    · cases h
  | .str, t, h => by
    simp only [AT.fitsB] at h
    simp only [AT.fits]
    split at h
    · assumption
    · cases h
  | .bytes, t, h => by
    simp only [AT.fitsB] at h
    simp only [AT.fits]
    split at h
    · rename_i e he
      rw [Bool.and_eq_true] at h
      obtain ⟨h1, h2⟩ := h
      split at h1
      · rename_i hu
        exact ⟨e, he, hu, Nat.eq_of_beq_eq_true h2⟩
      · cases h1
    · cases h
  | .sl fs, t, h => by
    simp only [AT.fitsB] at h
    simp only [AT.fits]
    split at h
    · rename_i e he
      rw [Bool.and_eq_true, Bool.and_eq_true] at h
      obtain ⟨h1, h2, h3⟩ := h
      refine ⟨e, he, Nat.eq_of_beq_eq_true h1, fun h0 => by (rw [h0] at h2; cases h2), ?_⟩
      split at h3
      · rename_i F hF
        exact .inr ⟨F, hF, fitss_of fs _ 0 h3⟩
      · rw [Bool.and_eq_true] at h3
        obtain ⟨a, ha⟩ := List.length_eq_one_iff.1 (Nat.eq_of_beq_eq_true h3.1)
        exact .inl ⟨a, ha, fitss_of fs _ 0 h3.2⟩
    · cases h
theorem fitss_of {P : Program} : ∀ (fs : List AT) (F : List (Nat × TypeId)) (off : Nat), AT.fitssB P fs F off = true → AT.fitss P fs F off
  | [], F, off, h => by
    simp only [AT.fitssB] at h
    simp only [AT.fitss]
    exact List.isEmpty_iff.1 h
  | a :: fs, F, off, h => by
    simp only [AT.fitssB] at h
    simp only [AT.fitss]
    split at h
    · cases h
    · rename_i f G
      rw [Bool.and_eq_true, Bool.and_eq_true, Bool.and_eq_true] at h
      obtain ⟨h1, h2, h3, h4⟩ := h
      exact ⟨f, G, rfl, Nat.eq_of_beq_eq_true h1, Nat.eq_of_beq_eq_true h2, fits_of a f.2 h3, fitss_of fs G (off + 1) h4⟩
end
mutual
/-- A value has the shape. -/
def AT.Sh : AT → IV → Prop
  | .int k, x => ∃ n, x = .v (.int k n) ∧ (Lit.int k n).wf = true
  | .bool, x => ∃ b, x = .v (.bool b)
  | .str, x => ∃ l, x = .str l ∧ l.length ≤ 9223372036854775807
  | .bytes, x => ∃ l, x = .bs l ∧ l.length ≤ 9223372036854775807
  | .sl fs, x => ∃ n f, x = .sl fs.length n f ∧ n ≤ 9223372036854775807 ∧ ∀ i, i < n → AT.Shs fs (f i)
def AT.Shs : List AT → List IV → Prop
  | [], xs => xs = []
  | a :: fs, xs => ∃ y ys, xs = y :: ys ∧ AT.Sh a y ∧ AT.Shs fs ys
end
/-- Memory as it is, as what is written no more. -/
def immOf (w : World) : Imm := fun b o => match w.cell? ⟨b, o, none⟩ with
  | some v => bif v.oneCell' then some v else none
  | none => none
theorem immOf_cell {w : World} {b o : Nat} {v : Value} (h : immOf w b o = some v) : w.cell? ⟨b, o, none⟩ = some v ∧ v.oneCell' = true := by
  unfold immOf at h
  split at h
  · rename_i u hu
    cases h1 : u.oneCell' with
    | true => rw [h1] at h; simp only [cond_true, Option.some.injEq] at h; subst h; exact ⟨hu, h1⟩
    | false => rw [h1] at h; cases h
  · cases h
theorem immOf_mk {w : World} {b o : Nat} {v : Value} (h : w.cell? ⟨b, o, none⟩ = some v) (h1 : v.oneCell' = true) : immOf w b o = some v := by
  unfold immOf
  rw [h]
  simp [h1]
theorem SR.start (w : World) : SR (fun _ => none) (immOf w) ⟨0, []⟩ w where
  imm _ _ _ h := (immOf_cell h).1
  one _ _ _ h := (immOf_cell h).2
  rel p hp := by cases hp
  fresh _ _ := rfl
  nodup := List.nodup_nil
  apart p hp := by cases hp
  iapart p hp := by cases hp
  lt p hp := by cases hp
theorem fitss_at {P : Program} : ∀ {fs : List AT} {F : List (Nat × TypeId)} {off : Nat}, AT.fitss P fs F off → F.length = fs.length ∧ ∀ (j : Nat) (f : Nat × TypeId), F[j]? = some f → f.1 = off + j ∧ P.cellsOf f.2 = 1
  | [], F, off, h => by simp only [AT.fitss] at h; subst h; exact ⟨rfl, fun j f hj => by simp at hj⟩
  | a :: fs, F, off, h => by
    simp only [AT.fitss] at h
    obtain ⟨f, G, rfl, h1, h2, _, h3⟩ := h
    obtain ⟨g1, g2⟩ := fitss_at h3
    refine ⟨by simp [g1], fun j f' hj => ?_⟩
    cases j with
    | zero =>
      simp only [List.getElem?_cons_zero, Option.some.injEq] at hj
      subst hj
      exact ⟨h1, h2⟩
    | succ j =>
      rw [List.getElem?_cons_succ] at hj
      obtain ⟨k1, k2⟩ := g2 j f' hj
      exact ⟨by omega, k2⟩
section
variable {H : Type} {enc : TypeId × Value → H} {P : Program} {w : World} {base : Nat} {spare : Nat → Bool} {held : Bool}
theorem cell_spot {a : Addr} {v : Value} (h : w.cell? a = some v) : a.spot = none := by
  unfold World.cell? at h
  split at h
  · cases hs : a.spot with
    | none => rfl
    | some x => rw [hs] at h; cases h
  · cases h
theorem IV.one_val {x : IV} {v : Value} {ι : Imm} (h : x.one = true) (hx : x.R ι v) : v.oneCell' = true := AV.one_ok (ρ := fun _ => none) (x := .iv x) h (by simpa only [AV.R] using hx)
theorem Sh_one : ∀ (a : AT) (x : IV), a.Sh x → x.one = true
  | .int k, x, h => by simp only [AT.Sh] at h; obtain ⟨n, rfl, _⟩ := h; rfl
  | .bool, x, h => by simp only [AT.Sh] at h; obtain ⟨b, rfl⟩ := h; rfl
  | .str, x, h => by simp only [AT.Sh] at h; obtain ⟨l, rfl, _⟩ := h; rfl
  | .bytes, x, h => by simp only [AT.Sh] at h; obtain ⟨l, rfl, _⟩ := h; rfl
  | .sl fs, x, h => by simp only [AT.Sh] at h; obtain ⟨n, f, rfl, _⟩ := h; rfl
theorem Shs_one {ι : Imm} : ∀ (fs : List AT) (xs : List IV) (vs : List Value), AT.Shs fs xs → IV.Rs ι xs vs → (∀ v ∈ vs, v.oneCell' = true) ∧ vs.length = fs.length
  | [], xs, vs, h, hr => by
    simp only [AT.Shs] at h; subst h
    simp only [IV.Rs] at hr; subst hr
    exact ⟨fun v hv => by (cases hv), rfl⟩
  | a :: fs, xs, vs, h, hr => by
    simp only [AT.Shs] at h
    obtain ⟨y, ys, rfl, h1, h2⟩ := h
    simp only [IV.Rs] at hr
    obtain ⟨u, us, rfl, r1, r2⟩ := hr
    obtain ⟨g1, g2⟩ := Shs_one fs ys us h2 r2
    exact ⟨fun v hv => by
      rcases List.mem_cons.1 hv with rfl | hv
      · exact IV.one_val (Sh_one a y h1) r1
      · exact g1 v hv, by simp [g2]⟩
mutual
theorem open_at : ∀ (a : AT) (t : TypeId) (fuel : Nat) (v : Value) (y : DataW H × List MemPlace), a.fits P t → DataW.trod enc P w base spare held fuel t [v] = some y → ∃ x, a.Sh x ∧ IV.R (immOf w) x v
  | .int k, t, fuel, v, y, hf, h => by
    simp only [AT.fits] at hf
    obtain ⟨n, h1, _, h2⟩ := DataW.trod_int hf h
    simp only [List.cons.injEq, and_true] at h1
    subst h1
    exact ⟨.v (.int k n), by simp only [AT.Sh]; exact ⟨n, rfl, h2⟩, by simp only [IV.R]⟩
  | .bool, t, fuel, v, y, hf, h => by
    simp only [AT.fits] at hf
    obtain ⟨b, h1, _⟩ := DataW.trod_bool hf h
    simp only [List.cons.injEq, and_true] at h1
    subst h1
    exact ⟨.v (.bool b), by simp only [AT.Sh]; exact ⟨b, rfl⟩, by simp only [IV.R]⟩
  | .str, t, fuel, v, y, hf, h => by
    simp only [AT.fits] at hf
    obtain ⟨s, h1, _, h2⟩ := DataW.trod_string hf h
    simp only [List.cons.injEq, and_true] at h1
    subst h1
    have hmx : maxLen = 9223372036854775807 := by decide
    rw [hmx] at h2
    refine ⟨.str s.data.toList, by simp only [AT.Sh]; exact ⟨_, rfl, by rw [Array.length_toList]; exact h2⟩, by simp [IV.R]⟩
  | .bytes, t, fuel, v, y, hf, h => by
    simp only [AT.fits] at hf
    obtain ⟨e, ht, he, hc⟩ := hf
    have hmx : maxLen = 9223372036854775807 := by decide
    rcases open_ints ht he hc h with ⟨hcs, _⟩ | ⟨a, len, cap, zs, hcs, _, hle, hm, hz, hx, hcell, hwz⟩
    · simp only [List.cons.injEq, and_true] at hcs
      subst hcs
      refine ⟨.bs [], by simp only [AT.Sh]; exact ⟨[], rfl, by simp⟩, ?_⟩
      simp only [IV.R]
      exact ⟨none, 0, rfl, Nat.le_refl _, Nat.zero_le _, fun k hk => by simp at hk⟩
    · simp only [List.cons.injEq, and_true] at hcs
      subst hcs
      have hzl : len ≤ zs.length := by
        rw [hz]
        split <;> omega
      refine ⟨.bs ((zs.take len).map fun z => UInt8.ofNat z.toNat), by simp only [AT.Sh]; exact ⟨_, rfl, by simp; omega⟩, ?_⟩
      simp only [IV.R]
      refine ⟨some a, cap, by simp; omega, by simp; omega, hm, fun k hk => ?_⟩
      have hk' : k < len := by simp at hk; omega
      have h0 := hcell 0 (by omega)
      have hs : a.spot = none := by rw [show a.add 0 = a by simp [Addr.add]] at h0; exact cell_spot h0
      have hkc := hcell k (by omega)
      rw [add_none' hs] at hkc
      refine ⟨a, rfl, hs, immOf_mk ?_ rfl⟩
      rw [hkc]
      have hw := hwz (zs.getD k 0) (by simp [List.getD, show k < zs.length by omega])
      have hb := bounds_u8 hw
      have e1 : ((zs.take len).map (fun z => UInt8.ofNat z.toNat)).getD k 0 = UInt8.ofNat (zs.getD k 0).toNat := by
        simp [List.getD, hk', show k < zs.length by omega]
      rw [e1, UInt8.toNat_ofNat']
      congr 2
      omega
  | .sl fs, t, fuel, v, y, hf, h => by
    simp only [AT.fits] at hf
    obtain ⟨e, ht, hc, hz, hfe⟩ := hf
    have hmx : maxLen = 9223372036854775807 := by decide
    rcases open_slice ht h with ⟨hcs, _⟩ | ⟨a, len, cap, m, n, D, Pl, hcs, _, hl, hm, hmm, _, hi⟩
    · simp only [List.cons.injEq, and_true] at hcs
      subst hcs
      refine ⟨.sl fs.length 0 fun _ => [], by simp only [AT.Sh]; exact ⟨0, _, rfl, by omega, fun i hi => by omega⟩, ?_⟩
      simp only [IV.R]
      exact ⟨none, 0, rfl, Nat.le_refl _, Nat.zero_le _, fun k hk => by omega⟩
    · simp only [List.cons.injEq, and_true] at hcs
      subst hcs
      have hlm : len ≤ m := by rw [hmm]; split <;> omega
      have each : ∀ i, i < len → ∃ xs vs, AT.Shs fs xs ∧ IV.Rs (immOf w) xs vs ∧ ∀ j u, vs[j]? = some u → w.cell? ((a.add (i * fs.length)).add j) = some u := fun i hil => by
        obtain ⟨cs', hcell, htr⟩ := hi i (by omega)
        rw [hc] at hcell
        obtain ⟨_, hcl, hat⟩ := World.cells?_some hcell
        have hcell' : ∀ j u, cs'[j]? = some u → w.cell? ((a.add (i * fs.length)).add j) = some u := fun j u hj => by
          have : j < fs.length := by rw [← hcl]; exact (List.getElem?_eq_some_iff.1 hj).1
          rw [hat j this]; exact hj
        rcases hfe with ⟨b, hfs, hft⟩ | ⟨F, hF, hft⟩
        · obtain ⟨xs, h1, h2⟩ := open_ats fs _ 0 cs' hft hcl (fun j f hj => by
            have hj0 : j = 0 := by
              rcases Nat.eq_zero_or_pos j with h0 | h0
              · exact h0
              · rw [List.getElem?_eq_none (by simp; omega)] at hj; cases hj
            subst hj0
            simp only [List.getElem?_cons_zero, Option.some.injEq] at hj
            subst hj
            rw [hfs] at hcl
            obtain ⟨v', rfl⟩ := List.length_eq_one_iff.1 hcl
            exact ⟨n, v', _, rfl, htr⟩)
          exact ⟨xs, cs', h1, h2, hcell'⟩
        · obtain ⟨ys, n', _, _, _, hyl, hfd⟩ := DataW.trod_struct hF htr
          obtain ⟨hfl, hfo⟩ := fitss_at hft
          obtain ⟨xs, h1, h2⟩ := open_ats fs _ 0 cs' hft hcl (fun j f hj => by
            rw [List.getElem?_map] at hj
            obtain ⟨g, hg, rfl⟩ := Option.map_eq_some_iff.1 hj
            obtain ⟨k1, k2⟩ := hfo j _ (by rw [List.getElem?_map, hg]; rfl)
            simp only [Nat.zero_add] at k1 k2
            have hjl : j < fs.length := by rw [← hfl, List.length_map]; exact (List.getElem?_eq_some_iff.1 hg).1
            have h1 := hfd j g (by simpa using hg)
            rw [k1, k2] at h1
            have hone' : (cs'.drop j).take 1 = [cs'[j]'(by omega)] := by
              rw [List.drop_eq_getElem_cons (by omega)]
              rfl
            rw [hone'] at h1
            have hys : ys[j]? = some (ys[j]'(by rw [hyl]; simpa using (List.getElem?_eq_some_iff.1 hg).1)) := List.getElem?_eq_getElem _
            exact ⟨n', _, _, List.getElem?_eq_getElem (by omega), h1.trans hys⟩)
          exact ⟨xs, cs', h1, h2, hcell'⟩
      let f : Nat → List IV := fun i => if h : i < len then Classical.choose (each i h) else []
      have hfi : ∀ i (h : i < len), f i = Classical.choose (each i h) := fun i h => by simp only [f, dif_pos h]
      refine ⟨.sl fs.length len f, by simp only [AT.Sh]; exact ⟨len, f, rfl, by omega, fun i hil => by rw [hfi i hil]; exact (Classical.choose_spec (each i hil)).choose_spec.1⟩, ?_⟩
      simp only [IV.R]
      refine ⟨some a, cap, rfl, hl, hm, fun k hk => ?_⟩
      obtain ⟨vs, g1, g2, g3⟩ := Classical.choose_spec (each k hk)
      rw [← hfi k hk] at g1 g2
      obtain ⟨g4, g5⟩ := Shs_one fs _ _ g1 g2
      have hs : a.spot = none := by
        obtain ⟨vs0, q1, q2, q3⟩ := Classical.choose_spec (each 0 (by omega))
        obtain ⟨_, q5⟩ := Shs_one fs _ _ q1 q2
        obtain ⟨v0, vr, hvs⟩ : ∃ v0 vr, vs0 = v0 :: vr := by
          cases vs0 with
          | nil => simp at q5; omega
          | cons v0 vr => exact ⟨v0, vr, rfl⟩
        have h0 := q3 0 v0 (by rw [hvs]; rfl)
        rw [Nat.zero_mul, show (a.add 0).add 0 = a by simp [Addr.add]] at h0
        exact cell_spot h0
      refine ⟨a, vs, rfl, hs, g2, g5, fun j u hj => ?_⟩
      have hcl := g3 j u hj
      rw [add_none' hs, add_none] at hcl
      exact immOf_mk hcl (g4 u (List.mem_of_getElem? hj))
theorem open_ats : ∀ (fs : List AT) (F : List (Nat × TypeId)) (off : Nat) (cs : List Value), AT.fitss P fs F off → cs.length = fs.length → (∀ (j : Nat) (f : Nat × TypeId), F[j]? = some f → ∃ (m : Nat) (v : Value) (y : DataW H × List MemPlace), cs[j]? = some v ∧ DataW.trod enc P w base spare held m f.2 [v] = some y) → ∃ xs, AT.Shs fs xs ∧ IV.Rs (immOf w) xs cs
  | [], F, off, cs, _, hl, _ => ⟨[], by simp only [AT.Shs], by have : cs = [] := List.eq_nil_of_length_eq_zero hl; subst this; simp only [IV.Rs]⟩
  | a :: fs, F, off, cs, hf, hl, h => by
    simp only [AT.fitss] at hf
    obtain ⟨f, G, rfl, _, _, h1, h2⟩ := hf
    obtain ⟨m, v, y, hv, ht⟩ := h 0 f rfl
    cases cs with
    | nil => simp at hl
    | cons c cs =>
      simp only [List.getElem?_cons_zero, Option.some.injEq] at hv
      subst hv
      obtain ⟨x, g1, g2⟩ := open_at a f.2 m c y h1 ht
      obtain ⟨xs, g3, g4⟩ := open_ats fs G (off + 1) cs h2 (by simpa using hl) (fun j f' hj => by
        obtain ⟨m', v', y', k1, k2⟩ := h (j + 1) f' (by simpa using hj)
        exact ⟨m', v', y', by simpa using k1, k2⟩)
      exact ⟨x :: xs, by simp only [AT.Shs]; exact ⟨x, xs, rfl, g1, g3⟩, by simp only [IV.Rs]; exact ⟨c, cs, rfl, g2, g4⟩⟩
end
/-- An argument. -/
theorem open_arg {a : AT} {t : TypeId} {v : Value} {d : DataW H} {ps : List MemPlace} {r : Reach} {b0 : Nat} (hf : a.fits P t) (hval : Value.okWide P w r b0 t v) (hd : DataW.Trod enc P w base spare held t v d ps) : ∃ x, a.Sh x ∧ IV.R (immOf w) x v := by
  have hc : v.cells.toList = [v] := by
    cases a with
    | int k => simp only [AT.fits] at hf; obtain ⟨n, rfl⟩ := okWide_int hf hval; rfl
    | bool => simp only [AT.fits] at hf; obtain ⟨n, rfl⟩ := okWide_bool hf hval; rfl
    | str => simp only [AT.fits] at hf; obtain ⟨n, rfl⟩ := okWide_string hf hval; rfl
    | bytes => simp only [AT.fits] at hf; obtain ⟨e, ht, _⟩ := hf; obtain ⟨a, l, c, rfl⟩ := okWide_slice ht hval; rfl
    | sl fs => simp only [AT.fits] at hf; obtain ⟨e, ht, _⟩ := hf; obtain ⟨a, l, c, rfl⟩ := okWide_slice ht hval; rfl
  obtain ⟨fuel, h⟩ := hd
  rw [hc] at h
  exact open_at a t fuel v _ hf h
end
/-- Elements of a shape, as a list. -/
theorem rows_of {α : Type} [Inhabited α] {n : Nat} {f : Nat → List IV} (g : α → List IV) (Q : α → Prop) (h : ∀ i, i < n → ∃ c, f i = g c ∧ Q c) : ∃ l : List α, l.length = n ∧ (∀ c ∈ l, Q c) ∧ ∀ i, i < n → f i = g (l.getD i default) := by
  induction n with
  | zero => exact ⟨[], rfl, fun c hc => by (cases hc), fun i hi => by omega⟩
  | succ n ih =>
    obtain ⟨l, h1, h2, h3⟩ := ih fun i hi => h i (by omega)
    obtain ⟨c, e, q⟩ := h n (by omega)
    refine ⟨l ++ [c], by simp [h1], fun x hx => ?_, fun i hi => ?_⟩
    · rcases List.mem_append.1 hx with hx | hx
      · exact h2 x hx
      · simp only [List.mem_singleton] at hx
        subst hx
        exact q
    · by_cases hi' : i < n
      · rw [h3 i hi', List.getD_eq_getElem?_getD, List.getD_eq_getElem?_getD, List.getElem?_append_left (by omega)]
      · have : i = n := by omega
        subst this
        rw [e]
        simp [List.getD, ← h1]
theorem R_rows {ι : Imm} {sz n : Nat} {f f' : Nat → List IV} {v : Value} (h : IV.R ι (.sl sz n f) v) (hf : ∀ i, i < n → f i = f' i) : IV.R ι (.sl sz n f') v := by
  simp only [IV.R] at h ⊢
  obtain ⟨A, c, h1, h2, h3, h4⟩ := h
  exact ⟨A, c, h1, h2, h3, fun k hk => by rw [← hf k hk]; exact h4 k hk⟩
/-! Shapes of one cell. -/
theorem sh_u64s {ι : Imm} {x : IV} {v : Value} (h : (AT.sl [.int .u64]).Sh x) (hr : IV.R ι x v) : ∃ l : List Nat, (∀ s ∈ l, s ≤ 18446744073709551615) ∧ IV.R ι (.sl 1 l.length fun i => [.v (.int .u64 (l.getD i default))]) v := by
  simp only [AT.Sh, AT.Shs] at h
  obtain ⟨n, f, rfl, hn, hf⟩ := h
  obtain ⟨l, h1, h2, h3⟩ := rows_of (f := f) (n := n) (fun s : Nat => [IV.v (.int .u64 (s : Int))]) (fun s => s ≤ 18446744073709551615) (fun i hi => by
    obtain ⟨y, ys, e, ⟨z, rfl, hz⟩, rfl⟩ := hf i hi
    have hb := bounds_u64 hz
    exact ⟨z.toNat, by rw [e]; congr 3; omega, by omega⟩)
  exact ⟨l, h2, by rw [h1]; exact R_rows hr h3⟩
theorem sh_bytess {ι : Imm} {x : IV} {v : Value} (h : (AT.sl [.bytes]).Sh x) (hr : IV.R ι x v) : ∃ l : List (List UInt8), IV.R ι (.sl 1 l.length fun i => [.bs (l.getD i default)]) v := by
  simp only [AT.Sh, AT.Shs] at h
  obtain ⟨n, f, rfl, hn, hf⟩ := h
  obtain ⟨l, h1, h2, h3⟩ := rows_of (f := f) (n := n) (fun s : List UInt8 => [IV.bs s]) (fun _ => True) (fun i hi => by
    obtain ⟨y, ys, e, ⟨z, rfl, hz⟩, rfl⟩ := hf i hi
    exact ⟨z, e, trivial⟩)
  exact ⟨l, by rw [h1]; exact R_rows hr h3⟩
/-- A law that tells true. -/
def Law (P : Program) (F : FuncId) (args : List AV) : Prop := AFn P F args ⟨0, []⟩ (fun _ : Unit => AV.bool true) fun _ => ⟨0, []⟩
theorem Law.calls {P : Program} {F : FuncId} {args : List AV} (h : Law P F args) {W : World} (hG : GOk (immOf W)) {vs : List Value} (hr : AV.Rs (fun _ => none) (immOf W) args vs) : Calls P F vs.toArray W fun e W' => e = .returned (.bool true) ∧ Below W.heap.size W W' := by
  refine (h.run _ _ W vs hG (SR.start W) hr).mono fun e w' hp => ?_
  cases e with
  | returned v =>
    obtain ⟨r, H', ρ', ι', ⟨x, e1, e2⟩, h1, h2, h3⟩ := hp
    subst e1 e2
    simp only [AV.R, IV.R] at h1
    subst h1
    have ht := h3.touch
    exact ⟨rfl, ht.os, ht.tape, ht.output, ht.size, fun k hk => ht.block k hk fun ⟨p, hp, _⟩ => by cases hp⟩
  | panicked ch => obtain ⟨v, _, r, H', ρ', ι', h, _⟩ := hp; exact h.elim
  | outgrown => exact hp.elim
end Go.Proofs.YtpgdbeacmlojcaaGreat.Ax
