/-
  Chapter 19: what is handed to the laws.
-/
import Derived.Test.YtoofmkkcaoojiaaUo
namespace Go.Proofs.Ytoofmkkcaoojiaa.Ax
open Go.ChangeShapes Go.WideShapes Go.RowKit
theorem sh_acts {ι : Imm} {x : IV} {v : Value} (h : (AT.sl [.int .i64, .str, .int .u64]).Sh x) (hr : IV.R ι x v) : ∃ l : List Act, (∀ c ∈ l, c.q ≤ 18446744073709551615) ∧ IV.R ι (.sl 3 l.length fun i => actI (l.getD i default)) v := by
  simp only [AT.Sh, AT.Shs] at h
  obtain ⟨n, f, rfl, hn, hf⟩ := h
  obtain ⟨l, h1, h2, h3⟩ := rows_of (f := f) (n := n) actI (fun c => c.q ≤ 18446744073709551615) (fun i hi => by
    obtain ⟨y, ys, e, ⟨z, rfl, hz⟩, _, _, rfl, ⟨s, rfl, _⟩, _, _, rfl, ⟨u, rfl, hu⟩, rfl⟩ := hf i hi
    have hb := bounds_u64 hu
    exact ⟨⟨z, s, u.toNat⟩, by rw [e]; show _ = [IV.v (.int .i64 z), .str s, .v (.int .u64 (u.toNat : Int))]; rw [Int.toNat_of_nonneg (by omega)], by show u.toNat ≤ _; omega⟩)
  exact ⟨l, h2, by rw [h1]; exact R_rows hr h3⟩
end Go.Proofs.Ytoofmkkcaoojiaa.Ax
