/-
  Chapter 07: what is handed to the laws.
-/
import Derived.Test.YtpgdbeacmlojcaaGreatJf
import Derived.SizedLaws
namespace Go.Proofs.YtpgdbeacmlojcaaGreat.Ax
open Go.ChangeShapes Go.WideShapes Go.RowKit
theorem R_rowsE {ι : Imm} {sz n : Nat} {f f' : Nat → List IV} {v : Value} (h : IV.R ι (.sl sz n f) v) (hf : ∀ i, i < n → IVEs (f i) (f' i)) : IV.R ι (.sl sz n f') v := by
  simp only [IV.R] at h ⊢
  obtain ⟨A, c, h1, h2, h3, h4⟩ := h
  refine ⟨A, c, h1, h2, h3, fun k hk => ?_⟩
  obtain ⟨ad, vs, g1, g2, g3, g4, g5⟩ := h4 k hk
  exact ⟨ad, vs, g1, g2, IVEs.run (hf k hk) g3, g4, g5⟩
theorem IVE.of {x y : IV} (h : ∀ ι v, IV.R ι x v → IV.R ι y v) : IVE x y := ⟨h⟩
theorem rowsE_of {α : Type} [Inhabited α] {n : Nat} {f : Nat → List IV} (g : α → List IV) (Q : α → Prop) (h : ∀ i, i < n → ∃ c, IVEs (f i) (g c) ∧ Q c) : ∃ l : List α, l.length = n ∧ (∀ c ∈ l, Q c) ∧ ∀ i, i < n → IVEs (f i) (g (l.getD i default)) := by
  induction n with
  | zero => exact ⟨[], rfl, fun c hc => by (cases hc), fun i hi => by omega⟩
  | succ n ih =>
    obtain ⟨l, h1, h2, h3⟩ := ih fun i hi => h i (by omega)
    obtain ⟨c, e, q⟩ := h n (by omega)
    refine ⟨l ++ [c], by simp [h1], fun x hx => ?_, fun i hi => ?_⟩
    · rcases List.mem_append.1 hx with hx | hx
      · exact h2 x hx
      · simp only [List.mem_singleton] at hx
        subst hx
        exact q
    · by_cases hi' : i < n
      · have := h3 i hi'
        rw [List.getD_eq_getElem?_getD] at this
        rw [List.getD_eq_getElem?_getD, List.getElem?_append_left (by omega)]
        exact this
      · have : i = n := by omega
        subst this
        have e2 : (l ++ [c]).getD i default = c := by simp [List.getD, ← h1]
        rw [e2]
        exact e
/-- A row of numbers. -/
theorem sh_ints {x : IV} (h : (AT.sl [.int .i64]).Sh x) : ∃ P : List Int, P.length ≤ 9223372036854775807 ∧ IVE x (iRow P) := by
  simp only [AT.Sh, AT.Shs] at h
  obtain ⟨n, f, rfl, hn, hf⟩ := h
  obtain ⟨l, h1, _, h3⟩ := rows_of (f := f) (n := n) (fun z : Int => [IV.v (.int .i64 z)]) (fun _ => True) (fun i hi => by
    obtain ⟨y, ys, e, ⟨z, rfl, _⟩, rfl⟩ := hf i hi
    exact ⟨z, e, trivial⟩)
  refine ⟨l, by omega, ⟨fun ι v hr => ?_⟩⟩
  subst h1
  exact R_rows hr fun i hi => by rw [h3 i hi]; rfl
theorem sh_facts {ι : Imm} {x : IV} {v : Value} (h : (AT.sl [.int .i64, .str, .str, .int .i64, .int .i64, .bytes, .sl [.int .i64]]).Sh x) (hr : IV.R ι x v) : ∃ l : List FAct, (∀ a ∈ l, a.Ok) ∧ IV.R ι (.sl 7 l.length fun i => actF (l.getD i default)) v := by
  have h0 := h
  rw [AT.Sh] at h0
  obtain ⟨n, f, rfl, hn, hf⟩ := h0
  obtain ⟨l, h1, h2, h3⟩ := rowsE_of (f := f) (n := n) actF FAct.Ok (fun i hi => by
    have hfi := hf i hi
    simp only [AT.Shs] at hfi
    obtain ⟨x1, r1, e1, h1, x2, r2, e2, h2, x3, r3, e3, h3, x4, r4, e4, h4, x5, r5, e5, h5, x6, r6, e6, h6, x7, r7, e7, h7, e8⟩ := hfi
    subst e8 e7 e6 e5 e4 e3 e2
    simp only [AT.Sh] at h1 h2 h3 h4 h5 h6
    obtain ⟨z1, rfl, _⟩ := h1
    obtain ⟨s2, rfl, _⟩ := h2
    obtain ⟨s3, rfl, _⟩ := h3
    obtain ⟨z4, rfl, hz4⟩ := h4
    obtain ⟨z5, rfl, _⟩ := h5
    obtain ⟨b6, rfl, hb6⟩ := h6
    obtain ⟨P, hP, hE⟩ := sh_ints h7
    refine ⟨⟨z1, s2, s3, z4, z5, b6, P⟩, ?_, ⟨(bounds_i64 hz4).2, hb6, hP⟩⟩
    rw [e1]
    exact ⟨IVE.refl _, IVE.refl _, IVE.refl _, IVE.refl _, IVE.refl _, IVE.refl _, hE, rfl⟩)
  exact ⟨l, h2, by rw [h1]; exact R_rowsE hr h3⟩
/-- A row of numbers that is handed in is no greater than the form's reach. -/
theorem ints_reach {H : Type} {enc : TypeId × Value → H} {P : Program} {w : World} {base : Nat} {spare : Nat → Bool} {held : Bool} {ι : Imm} {t e : TypeId} {v : Value} {d : DataW H} {ps : List MemPlace} {ts : List TypeId} {ds : List (DataW H)} {L : List Int}
    (ht : P.underlying t = some (.slice e)) (hb : P.bytesOf e = 8) (hd : DataW.Trod enc P w base spare held t v d ps) (hz : (DataW.weightsEach P ts ds).all (· ≤ reachBytes) = true) (j : Nat) (hts : ts[j]? = some t) (hds : ds[j]? = some d) (hr : IV.R ι (iRow L) v) : L.length ≤ 17592186044416 := by
  simp only [IV.R] at hr
  obtain ⟨A, c, rfl, _⟩ := hr
  obtain ⟨fuel, h⟩ := hd
  have hc : (Value.slice A L.length c).cells.toList = [.slice A L.length c] := rfl
  rw [hc] at h
  rcases Go.Deep.open_slice ht h with ⟨hcs, _⟩ | ⟨a, len, cap, m, n, D, Pl, hcs, _, _, _, _, hx, _⟩
  · simp only [List.cons.injEq, Value.slice.injEq, and_true] at hcs
    omega
  · simp only [List.cons.injEq, Value.slice.injEq, and_true] at hcs
    injection hx with hx _
    subst hx
    have := sized_slice hz hts hds ht
    rw [hb] at this
    simp only [List.length_map, List.length_range, reachBytes] at this
    omega
theorem sh_ints' {ι : Imm} {x : IV} {v : Value} (h : (AT.sl [.int .i64]).Sh x) (hr : IV.R ι x v) : ∃ L : List Int, IV.R ι (iRow L) v := by
  obtain ⟨L, _, hE⟩ := sh_ints h
  exact ⟨L, hE.run _ _ hr⟩
theorem sh_bytes0 {ι : Imm} {x : IV} {v : Value} (h : AT.bytes.Sh x) (hr : IV.R ι x v) : ∃ b : List UInt8, b.length ≤ 9223372036854775807 ∧ IV.R ι (.bs b) v := by
  simp only [AT.Sh] at h
  obtain ⟨l, rfl, hl⟩ := h
  exact ⟨l, hl, hr⟩
theorem sh_u8 {ι : Imm} {x : IV} {v : Value} (h : (AT.int .u8).Sh x) (hr : IV.R ι x v) : ∃ z : Int, (0 ≤ z ∧ z ≤ 255) ∧ IV.R ι (.v (.int .u8 z)) v := by
  simp only [AT.Sh] at h
  obtain ⟨z, rfl, hz⟩ := h
  exact ⟨z, bounds_u8 hz, hr⟩
end Go.Proofs.YtpgdbeacmlojcaaGreat.Ax
