/-
  Chapter 06: what is handed to the laws.
-/
import Derived.Test.YteeifedpabcehaaFzc
namespace Go.Proofs.Yteeifedpabcehaa.Ax
open Go.ChangeShapes Go.WideShapes Go.RowKit
theorem sh_calls {ι : Imm} {x : IV} {v : Value} (h : (AT.sl [.int .i64, .str, .str, .int .i64]).Sh x) (hr : IV.R ι x v) : ∃ l : List Call, IV.R ι (.sl 4 l.length fun i => callI (l.getD i default)) v := by
  simp only [AT.Sh, AT.Shs] at h
  obtain ⟨n, f, rfl, hn, hf⟩ := h
  obtain ⟨l, h1, h2, h3⟩ := rows_of (f := f) (n := n) callI (fun _ => True) (fun i hi => by
    obtain ⟨y, ys, e, ⟨z, rfl, hz⟩, _, _, rfl, ⟨s, rfl, _⟩, _, _, rfl, ⟨t, rfl, _⟩, _, _, rfl, ⟨u, rfl, hu⟩, rfl⟩ := hf i hi
    exact ⟨⟨z, s, t, u⟩, e, trivial⟩)
  exact ⟨l, by rw [h1]; exact R_rows hr h3⟩
end Go.Proofs.Yteeifedpabcehaa.Ax
