/-
  Chapter 23: MstateSnaps, the walk and what is handed in.
-/
import Derived.Test.YtmlhaellfpbcgaaDoorMu
import Derived.Test.YtmlhaellfpbcgaaDoorLaws23
namespace Go.Proofs.YtmlhaellfpbcgaaDoor.Ax
open Go.ChangeShapes Go.WideShapes Go.RowKit
theorem sh_bools {ι : Imm} {x : IV} {v : Value} (h : (AT.sl [.bool]).Sh x) (hr : IV.R ι x v) : ∃ l : List Bool, IV.R ι (.sl 1 l.length fun i => [.v (.bool (l.getD i false))]) v := by
  simp only [AT.Sh, AT.Shs] at h
  obtain ⟨n, f, rfl, hn, hf⟩ := h
  obtain ⟨l, h1, h2, h3⟩ := rows_of (f := f) (n := n) (fun s : Bool => [IV.v (.bool s)]) (fun _ => True) (fun i hi => by
    obtain ⟨y, ys, e, ⟨z, rfl⟩, rfl⟩ := hf i hi
    exact ⟨z, e, trivial⟩)
  exact ⟨l, by rw [h1]; exact R_rows hr h3⟩
end Go.Proofs.YtmlhaellfpbcgaaDoor.Ax
