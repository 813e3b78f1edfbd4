/-
  Chapter 23: what is handed to the laws.
-/
import Derived.Test.YtmlhaellfpbcgaaDoorQe
import Derived.Test.YtmlhaellfpbcgaaDoorGm
import Derived.Test.YtmlhaellfpbcgaaDoorBxZc
namespace Go.Proofs.YtmlhaellfpbcgaaDoor.Ax
open Go.ChangeShapes Go.WideShapes Go.RowKit
theorem rows_ofE {α : Type} [Inhabited α] {n : Nat} {f : Nat → List IV} (g : α → List IV) (Q : α → Prop) (h : ∀ i, i < n → ∃ c, IVEs (f i) (g c) ∧ Q c) : ∃ l : List α, l.length = n ∧ (∀ c ∈ l, Q c) ∧ ∀ i, i < n → IVEs (f i) (g (l.getD i default)) := by
  induction n with
  | zero => exact ⟨[], rfl, fun c hc => by (cases hc), fun i hi => by omega⟩
  | succ n ih =>
    obtain ⟨l, h1, h2, h3⟩ := ih fun i hi => h i (by omega)
    obtain ⟨c, e, q⟩ := h n (by omega)
    refine ⟨l ++ [c], by simp [h1], fun x hx => ?_, fun i hi => ?_⟩
    · rcases List.mem_append.1 hx with hx | hx
      · exact h2 x hx
      · simp only [List.mem_singleton] at hx
        subst hx
        exact q
    · by_cases hi' : i < n
      · have := h3 i hi'
        rw [List.getD_eq_getElem?_getD] at this ⊢
        rw [List.getElem?_append_left (by omega)]
        exact this
      · have : i = n := by omega
        subst this
        have e2 : (l ++ [c]).getD i default = c := by simp [List.getD, ← h1]
        rw [e2]
        exact e
theorem R_rowsE {ι : Imm} {sz n : Nat} {f f' : Nat → List IV} {v : Value} (h : IV.R ι (.sl sz n f) v) (hf : ∀ i, i < n → IVEs (f i) (f' i)) : IV.R ι (.sl sz n f') v := by
  have := (AVE.sl hf).run (fun _ => none) ι v (by simpa only [AV.R] using h)
  simpa only [AV.R] using this
theorem IVE.slE {sz n n' : Nat} {f f' : Nat → List IV} (hn : n = n') (hf : ∀ i, i < n → f i = f' i) : IVE (.sl sz n f) (.sl sz n' f') := by
  subst hn
  exact ⟨fun ι v h => R_rowsE h fun i hi => by rw [hf i hi]; exact IVEs.refl _⟩
@[reducible] def sealT : AT := .sl [.int .u32, .int .u32, .int .u32, .int .u64, .int .u64]
theorem sh_seals {x : IV} (h : sealT.Sh x) : ∃ l : List Seal, (∀ s ∈ l, s.B) ∧ IVE x (.sl 5 l.length (slF l)) := by
  simp only [AT.Sh, AT.Shs] at h
  obtain ⟨n, f, rfl, hn, hf⟩ := h
  obtain ⟨l, h1, h2, h3⟩ := rows_of (f := f) (n := n) sealI Seal.B (fun i hi => by
    obtain ⟨_, _, e, ⟨a, rfl, ha⟩, _, _, rfl, ⟨b, rfl, hb⟩, _, _, rfl, ⟨c, rfl, hc⟩, _, _, rfl, ⟨d, rfl, hd⟩, _, _, rfl, ⟨g, rfl, hg⟩, rfl⟩ := hf i hi
    have ha := bounds_u32 ha
    have hb := bounds_u32 hb
    have hc := bounds_u32 hc
    have hd := bounds_u64 hd
    have hg := bounds_u64 hg
    refine ⟨⟨a.toNat, b.toNat, c.toNat, d.toNat, g.toNat⟩, ?_, by dsimp only; omega, by dsimp only; omega, by dsimp only; omega, by dsimp only; omega, by dsimp only; omega⟩
    rw [e]
    show _ = [IV.v (.int .u32 (a.toNat : Int)), IV.v (.int .u32 (b.toNat : Int)), IV.v (.int .u32 (c.toNat : Int)), IV.v (.int .u64 (d.toNat : Int)), IV.v (.int .u64 (g.toNat : Int))]
    rw [Int.toNat_of_nonneg (by omega), Int.toNat_of_nonneg (by omega), Int.toNat_of_nonneg (by omega), Int.toNat_of_nonneg (by omega), Int.toNat_of_nonneg (by omega)])
  exact ⟨l, h2, IVE.slE h1.symm h3⟩
@[reducible] def editT : AT := .sl [.int .i64, .str, .int .u64, .int .u32, sealT]
theorem sh_edits {ι : Imm} {x : IV} {v : Value} (h : editT.Sh x) (hr : IV.R ι x v) : ∃ l : List Edt, (∀ e ∈ l, e.In) ∧ IV.R ι (.sl 5 l.length (edF l)) v := by
  unfold editT at h
  simp only [AT.Sh, AT.Shs] at h
  obtain ⟨n, f, rfl, hn, hf⟩ := h
  obtain ⟨l, h1, h2, h3⟩ := rows_ofE (f := f) (n := n) editI Edt.In (fun i hi => by
    obtain ⟨_, _, e, ⟨a, rfl, ha⟩, _, _, rfl, ⟨s, rfl, _⟩, _, _, rfl, ⟨c, rfl, hc⟩, _, _, rfl, ⟨d, rfl, hd⟩, _, _, rfl, hs, rfl⟩ := hf i hi
    obtain ⟨ls, g1, g2⟩ := sh_seals (by simp only [AT.Sh, AT.Shs]; exact hs)
    have hc := bounds_u64 hc
    have hd := bounds_u32 hd
    refine ⟨⟨a, s, c.toNat, d.toNat, ls⟩, ?_, by dsimp only; omega, by dsimp only; omega, g1⟩
    rw [e]
    show IVEs _ [IV.v (.int .i64 a), .str s, IV.v (.int .u64 (c.toNat : Int)), IV.v (.int .u32 (d.toNat : Int)), .sl 5 ls.length (slF ls)]
    rw [Int.toNat_of_nonneg (by omega), Int.toNat_of_nonneg (by omega)]
    exact ⟨IVE.refl _, IVE.refl _, IVE.refl _, IVE.refl _, g2, rfl⟩)
  exact ⟨l, h2, by rw [h1]; exact R_rowsE hr h3⟩
end Go.Proofs.YtmlhaellfpbcgaaDoor.Ax
