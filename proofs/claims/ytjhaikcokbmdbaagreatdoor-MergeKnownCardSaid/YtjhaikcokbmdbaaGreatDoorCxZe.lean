/-
  Closed runs: externs.
-/
import Derived.Test.YtjhaikcokbmdbaaGreatDoorCxZd
import Derived.Lib.Bytealg
import Derived.Lib.BytesEntry
import Derived.Laws.Externs
namespace Go.Proofs.YtjhaikcokbmdbaaGreatDoor.Cx
open Go.RowKit Go.Proofs.YtjhaikcokbmdbaaGreatDoor.Ax

def IsExt (P : Program) (f : Nat) (e : Array Value → Sem Value) : Prop := ∃ fn, P.funcs[f]? = some fn ∧ (fn.name == "runtime.NumGoroutine") = false ∧ fn.body.isNone = true ∧ Extern.findNext fn = none ∧ Extern.find fn = some e
theorem cmpN_eq : ∀ {a b : List Nat}, (∀ c ∈ a, c < 256) → (∀ c ∈ b, c < 256) → cmpN a b = Lib.compareBytes (u8s a) (u8s b)
  | [], [], _, _ => by simp [cmpN, lless, lbeq, u8s, Lib.compareBytes]
  | [], _ :: _, _, _ => by simp [cmpN, lless, u8s, Lib.compareBytes]
  | _ :: _, [], _, _ => by simp [cmpN, lless, lbeq, u8s, Lib.compareBytes]
  | x :: xs, y :: ys, ha, hb => by
    have hx := ha x (by simp)
    have hy := hb y (by simp)
    have ih := cmpN_eq (a := xs) (b := ys) (fun c hc => ha c (by simp [hc])) (fun c hc => hb c (by simp [hc]))
    have e1 : lless (x :: xs) (y :: ys) = (bif Nat.beq x y then lless xs ys else Nat.blt x y) := rfl
    have e2 : lbeq (x :: xs) (y :: ys) = (bif Nat.beq x y then lbeq xs ys else false) := rfl
    have lt : ∀ {p q : Nat}, p < 256 → q < 256 → (UInt8.ofNat p < UInt8.ofNat q ↔ p < q) := fun hp hq => by
      rw [UInt8.lt_iff_toNat_lt, UInt8.toNat_ofNat', UInt8.toNat_ofNat', Nat.mod_eq_of_lt hp, Nat.mod_eq_of_lt hq]
    have e3 : Lib.compareBytes (u8s (x :: xs)) (u8s (y :: ys)) = if x < y then -1 else if y < x then 1 else Lib.compareBytes (u8s xs) (u8s ys) := by
      show (if UInt8.ofNat x < UInt8.ofNat y then (-1 : Int) else if UInt8.ofNat y < UInt8.ofNat x then 1 else Lib.compareBytes (u8s xs) (u8s ys)) = _
      simp only [lt hx hy, lt hy hx]
    rw [e3]
    unfold cmpN
    rw [e1, e2]
    cases hb : Nat.beq x y with
    | true =>
      have := Nat.eq_of_beq_eq_true hb
      subst this
      rw [if_neg (Nat.lt_irrefl x), if_neg (Nat.lt_irrefl x), ← ih]
      rfl
    | false =>
      have hne : x ≠ y := fun e => by subst e; simp at hb
      simp only [cond_false]
      cases hl : Nat.blt x y with
      | true =>
        have : x < y := by rw [← Nat.blt_eq]; exact hl
        rw [if_pos this]
        rfl
      | false =>
        have h1 : ¬ x < y := fun h => by rw [← Nat.blt_eq] at h; rw [h] at hl; cases hl
        rw [if_neg h1, if_pos (by omega)]
        rfl
/-- A function that is taken for CRC-32C. -/
def X3 (C : Cf) (W : World) (f : Nat) : Prop := ∀ s x H l, crcC f s x H = .ok l → ∀ ρ w (as : List Value), SR W ρ H w → CV.Rs ρ [.int .u32 (.ofNat s), x] as → Called C W ρ l f ((callFunc f as.toArray).run C.P w)
theorem cell_lt {W : World} {g j : Nat} {u : Value} (h : W.cell? ⟨g, j, Option.none⟩ = some u) : g < W.heap.size := by
  rcases Nat.lt_or_ge g W.heap.size with h' | h'
  · exact h'
  · simp [World.cell?, Array.getElem?_eq_none h'] at h
theorem cell_later {W w : World} {g j : Nat} (hb : Base W w) (h1 : g < W.heap.size) : w.cell? ⟨g, j, Option.none⟩ = W.cell? ⟨g, j, Option.none⟩ := by
  unfold World.cell?
  rw [hb.block _ h1]
theorem GmW.later {W w : World} (h : GmW W) (hb : Base W w) : GmW w := fun i x hx =>
  let ⟨r, h1, h2, h3⟩ := h i x hx
  ⟨r, Nat.lt_of_lt_of_le h1 hb.size, (cell_later hb (cell_lt h2)).trans h2, fun ρ => Chunk.R_keep (h3 ρ) (Rho.le.refl _) (hb.block _ h1)⟩
theorem GOk.later {G : Tr (List CV)} {W w : World} (h : GOk G W) (hb : Base W w) : GOk G w := by
  refine ⟨h.1.later hb, fun g cs hg => ?_⟩
  obtain ⟨h1, vs, h2, h3⟩ := h.2 g cs hg
  refine ⟨Nat.lt_of_lt_of_le h1 hb.size, vs, fun ρ n hgm => h2 ρ (n + gmaps.length) fun i x hx => ?_, fun j u hu => (cell_later hb h1).trans (h3 j u hu)⟩
  obtain ⟨q1, r, q2, q3, q4, q5⟩ := hgm i x hx
  obtain ⟨r', p1, p2, p3⟩ := h.1 i x hx
  have e : r' = r := by
    rw [cell_later hb (cell_lt p2), p2] at q4
    injection q4 with q4
    injection q4 with q4
    injection q4
  subst e
  exact ⟨by omega, r', q2, p1, p2, p3⟩
/-- A function that takes nothing, tells 'true', and leaves what was there as it was. -/
def X5 (C : Cf) (W : World) (f : Nat) : Prop := (∃ fd, C.P.funcs[f]? = some fd ∧ (fd.name == "runtime.NumGoroutine") = false ∧ fd.body.isNone = false) ∧ ∀ w, Base W w → Calls C.P f #[] w fun e w' => e = .returned (.bool true) ∧ Below w.heap.size w w'
theorem run_bytesRow {P : Program} {ρ : Rho} {W w : World} {H : CH} (hS : SR W ρ H w) {x : CV} {v : Value} {cs : List CV} {l : List Nat} (hx : x.R ρ v) (h : rowCells H 1 x = some cs) (hl : bytesC cs = some l) : (∀ c ∈ l, c < 256) ∧ (Extern.Bytes.bytesOf v).run P w = .ok ⟨(u8s l).toArray⟩ w := by
  obtain ⟨A, n, c, vs, rfl, h1, h2, h3, h4, h5⟩ := rowCells_spec hS hx h
  obtain ⟨h6, rfl⟩ := bytesC_spec hl h2
  have hn : n = l.length := by simp [bvalsN] at h3; omega
  subst hn
  have cell : ∀ (j y : Nat), l[j]? = some y → ∃ b o, A = some ⟨b, o, Option.none⟩ ∧ w.cell? ⟨b, o + j, Option.none⟩ = some (.int .u8 (y : Int)) := fun j y hy => h5 j _ (by simp [bvalsN, hy]) (by simp)
  refine ⟨h6, ?_⟩
  cases A with
  | none =>
    cases l with
    | nil => rfl
    | cons y ys =>
      obtain ⟨b, o, e, _⟩ := cell 0 y rfl
      cases e
  | some a =>
    have h7 := Lib.run_loadBytesX (P := P) w (l.map fun n : Nat => (n : Int)) a .empty (fun j x hj => by
      rw [List.getElem?_map, Option.map_eq_some_iff] at hj
      obtain ⟨y, hy, rfl⟩ := hj
      obtain ⟨b, o, e, hc⟩ := cell j y hy
      injection e with e
      subst e
      by_cases hj0 : j = 0
      · subst hj0
        simpa [Addr.add] using hc
      · simpa [Addr.add, hj0] using hc)
    rw [List.length_map] at h7
    show (Extern.Bytes.loadBytes a l.length .empty).run P w = _
    rw [h7]
    congr 1
    apply ByteArray.ext
    simp [Lib.bytesOf, u8s, Function.comp_def]
theorem XOk.of {C : Cf} {W : World} (h : ∀ f x, C.X.get f = some x → (x = 0 ∧ IsExt C.P f Extern.MapsClone.clone) ∨ (x = 1 ∧ IsExt C.P f Extern.BytealgCompare.compare) ∨ (x = 3 ∧ X3 C W f) ∨ (x = 5 ∧ X5 C W f) ∨ (x = 4 ∧ IsExt C.P f Extern.BytealgCompare.compare)) : XOk C W := by
  intro f x args H l hx hl ρ w as hS hR
  have hne : C.X.get f ≠ Option.none := by rw [hx]; simp
  have run : ∀ e, IsExt C.P f e → ∀ u w', (e as.toArray).run C.P w = .ok u w' → (callFunc f as.toArray).run C.P w = .ok (.value u) w' := by
    rintro e ⟨fn, h1, h2, h3, h4, h5⟩ u w' hr
    rw [run_callFunc_extern h1 h2 h3 h4 h5, hr]
    rfl
  unfold extC at hl
  split at hl
  · rename_i t hh
    rcases h f _ hx with ⟨_, he⟩ | ⟨h0, _⟩ | ⟨h0, _⟩ | ⟨h0, _⟩ | ⟨h0, _⟩
    · split at hl
      · rename_i kk ver m hg
        rw [Cmd.appK_eq] at hl
        injection hl with hl
        subst hl
        simp only [CV.Rs, CV.R] at hR
        obtain ⟨u, us, rfl, ⟨z, rfl, b, q, g1, rfl⟩, rfl⟩ := hR
        obtain ⟨es, clock, g2, g3, g4⟩ := hS.p hg g1
        have hobj := run_getObj (P := C.P) g2 (fun _ _ _ => by simp)
        have hobj : (getObj b).run C.P w = .ok (.map es clock) w := hobj
        have hle := Rho.le_ext (p := (w.heap.size, 0)) (hS.fresh H.next (Nat.le_refl _))
        refine .inr ⟨hne, .iface t (.map (some w.heap.size)), w.alloc (.map es clock), run _ he _ _ ?_, .ifc t (.mp H.next), _, ρ.ext H.next (w.heap.size, 0), List.mem_singleton.2 rfl, hle, hS.fresh1 (hS.push _) (by simp) (fun _ _ _ _ h => by cases h) ⟨es, clock, alloc_new _ _, g3.mono (CV.R_mono hle), g4.1, BsR.none _ _⟩, ?_⟩
        · show (Extern.MapsClone.clone #[.iface t (.map (some b))]).run C.P w = _
          have e : Extern.MapsClone.clone #[.iface t (.map (some b))] = (getObj b >>= fun o => match o with
              | .map entries clock => (newObj (.map entries clock) >>= fun n => pure (.iface t (.map (some n))))
              | _ => stuck "maps.clone: a map expected") := rfl
          rw [e]
          simp [hobj]
        · simp only [CV.R]
          exact ⟨_, rfl, _, _, Rho.ext_same .., rfl⟩
      · cases hl
    · cases h0
    · cases h0
    · cases h0
    · cases h0
  · rename_i a b
    rcases h f _ hx with ⟨h0, _⟩ | ⟨_, he⟩ | ⟨h0, _⟩ | ⟨h0, _⟩ | ⟨h0, _⟩
    · cases h0
    · rw [CV.fK_eq] at hl
      injection hl with hl
      subst hl
      simp only [CV.Rs, CV.R] at hR
      obtain ⟨u, us, rfl, ⟨h1, rfl⟩, u2, us2, rfl, ⟨h2, rfl⟩, rfl⟩ := hR
      refine .inr ⟨hne, .int .i64 (cmpN a b), w, run _ he _ _ ?_, .int .i64 (cmpN a b), H, ρ, List.mem_singleton.2 rfl, Rho.le.refl _, hS, R_int ..⟩
      show (Extern.BytealgCompare.compare #[.string ⟨(u8s a).toArray⟩, .string ⟨(u8s b).toArray⟩]).run C.P w = _
      rw [Lib.run_compareString, cmpN_eq h1 h2]
    · cases h0
    · cases h0
    · cases h0
  · rcases h f _ hx with ⟨h0, _⟩ | ⟨h0, _⟩ | ⟨h0, _⟩ | ⟨h0, _⟩ | ⟨h0, _⟩ <;> cases h0
  · rename_i s y
    rcases h f _ hx with ⟨h0, _⟩ | ⟨h0, _⟩ | ⟨_, he⟩ | ⟨h0, _⟩ | ⟨h0, _⟩
    · cases h0
    · cases h0
    · exact he s y H l hl ρ w as hS hR
    · cases h0
    · cases h0
  · rename_i x y
    rcases h f _ hx with ⟨h0, _⟩ | ⟨h0, _⟩ | ⟨h0, _⟩ | ⟨h0, _⟩ | ⟨_, he⟩
    · cases h0
    · cases h0
    · cases h0
    · cases h0
    · unfold cmpC at hl
      split at hl
      · rename_i a b ha hb
        split at hl
        · rename_i la lb hla hlb
          rw [CV.fK_eq] at hl
          injection hl with hl
          subst hl
          simp only [CV.Rs] at hR
          obtain ⟨u, us, rfl, r1, u2, us2, rfl, r2, rfl⟩ := hR
          obtain ⟨b1, c1⟩ := run_bytesRow (P := C.P) hS r1 ha hla
          obtain ⟨b2, c2⟩ := run_bytesRow (P := C.P) hS r2 hb hlb
          refine .inr ⟨hne, .int .i64 (cmpN la lb), w, run _ he _ _ ?_, .int .i64 (cmpN la lb), H, ρ, List.mem_singleton.2 rfl, Rho.le.refl _, hS, R_int ..⟩
          show (do pure (goInt (Extern.BytealgCompare.cmp (← Extern.Bytes.bytesOf u) (← Extern.Bytes.bytesOf u2)))).run C.P w = _
          simp only [Sem.run_bind, c1, c2, Result.andThen_ok, Sem.run_pure, Lib.cmp_eq, cmpN_eq b1 b2]
          rfl
        · cases hl
      · cases hl
  · rcases h f _ hx with ⟨h0, _⟩ | ⟨h0, _⟩ | ⟨h0, _⟩ | ⟨_, ⟨fd, g1, g2, g3⟩, he⟩ | ⟨h0, _⟩
    · cases h0
    · cases h0
    · cases h0
    · injection hl with hl
      subst hl
      simp only [CV.Rs] at hR
      subst hR
      refine .inl ⟨f, #[], w, ?_, callsIn_wide.2 ((he w hS.base).mono ?_)⟩
      · simp only [callFunc, Sem.run_bind, run_program, Result.andThen_ok, g1, g2, g3, Bool.false_eq_true, if_false, Sem.run_pure]
      · rintro e w' ⟨rfl, hb⟩
        exact ⟨.bool true, H, ρ, List.mem_singleton.2 rfl, Rho.le.refl _, hS.other hb.os hb.tape hb.output hb.size (fun k hk _ => hb.block k hk), R_bool _⟩
    · cases h0
  · cases hl
end Go.Proofs.YtjhaikcokbmdbaaGreatDoor.Cx
