/-
  Chapter 26: what is handed to the laws.
-/
import Derived.Test.YtaoambbfjdijjaaMg
namespace Go.Proofs.Ytaoambbfjdijjaa.Ax
open Go.ChangeShapes Go.WideShapes Go.RowKit
theorem sh_calls {ι : Imm} {x : IV} {v : Value} (h : (AT.sl [.int .i64, .bytes, .bytes, .str, .int .u64]).Sh x) (hr : IV.R ι x v) : ∃ l : List CL, (∀ c ∈ l, c.ok) ∧ IV.R ι (.sl 5 l.length fun i => callI (l.getD i default)) v := by
  simp only [AT.Sh, AT.Shs] at h
  obtain ⟨n, f, rfl, hn, hf⟩ := h
  obtain ⟨l, h1, h2, h3⟩ := rows_of (f := f) (n := n) callI CL.ok (fun i hi => by
    obtain ⟨y, ys, e, ⟨z, rfl, hz⟩, _, _, rfl, ⟨k, rfl, _⟩, _, _, rfl, ⟨vv, rfl, _⟩, _, _, rfl, ⟨s, rfl, _⟩, _, _, rfl, ⟨u, rfl, hu⟩, rfl⟩ := hf i hi
    have hb := bounds_u64 hu
    exact ⟨⟨z, k, vv, s, u.toNat⟩, by rw [e]; show _ = [IV.v (.int .i64 z), .bs k, .bs vv, .str s, .v (.int .u64 (u.toNat : Int))]; rw [Int.toNat_of_nonneg (by omega)], by show u.toNat ≤ _; omega⟩)
  exact ⟨l, h2, by rw [h1]; exact R_rows hr h3⟩
end Go.Proofs.Ytaoambbfjdijjaa.Ax
