/-
  The frame of a law: from a walk that ends in 'true' and leaves what was there as it was, to the row's outcome; arguments opened.
-/
import Derived.Test.YtpgdbeacmlojcaaGreatChecked
import Derived.WalkKit
import Derived.ProofKit
import Derived.OpenShut
import Derived.Deep.DeepHandedRow
import Derived.Lib.LaidTab
import Derived.SizedLaws
import Derived.Carry
namespace Go.Proofs.YtpgdbeacmlojcaaGreat.Lk
open Go.ChangeShapes Go.WideShapes Go.ChangeAt Go.RowKit

theorem trodAll_below {H : Type} {enc : TypeId × Value → H} {P : Program} (hl : laidOutB P = true) {W W' : World} (hb : Below W.heap.size W W') :
    ∀ (ts : List TypeId) (vs : List Value) (ds : List (DataW H)) (ps : List MemPlace), (∀ t ∈ ts, P.readableRec t = true ∧ t < P.types.size) →
      DataW.TrodAll enc P W 0 (fun _ => true) true ts vs ds ps → (∀ x ∈ ps, x.block < W.heap.size) →
      DataW.TrodAll enc P W' 0 (fun b => decide (b < W.heap.size)) true ts vs ds ps
  | [], _, _, _, _, h, _ => by
    obtain ⟨rfl, rfl, rfl⟩ := trodAll_nil h
    exact trodAll_mk0
  | t :: ts, _, _, _, hr, h, hlt => by
    obtain ⟨v, vs1, d, ds1, a, b, rfl, rfl, rfl, h1, h2⟩ := trodAll_cons h
    have h1' := Below.trod hl (hr t (by simp)).1 (hr t (by simp)).2 h1 hb (fun x hx => hlt x (by simp [hx]))
    have h2' := trodAll_below hl hb ts vs1 ds1 b (fun t' ht' => hr t' (by simp [ht'])) h2 (fun x hx => hlt x (by simp [hx]))
    exact trodAll_cons_mk h1' h2'

/-- The outcome of a law's row. -/
theorem post_law {H : Type} {enc : TypeId × Value → H} {P : Program} {f : Func} {s : ChangeSpec} {fresh handsOn : Bool} {W W' : World} {args : Array Value} {ds gs : List (DataW H)} {before : List MemPlace} {tb : TypeId}
    (hl : laidOutB P = true) (hr : ∀ t ∈ f.params.toList, P.readableRec t = true ∧ t < P.types.size) (hres : f.resultTypes = #[tb]) (htb : P.underlying tb = some .bool) (hsv : s.vars = [])
    (hW : DataW.Whole enc P f.params.toList s.vars false W args.toList ds gs before)
    (h1 : (s.fn H (ds ++ gs)).results = [.lit (.bool true)]) (h2 : (s.fn H (ds ++ gs)).args = ds) (h3 : (s.fn H (ds ++ gs)).vars = [])
    (hb : Below W.heap.size W W') :
    s.post enc P f false fresh handsOn false W args (.bool true) W' := by
  have hW' := hW
  obtain ⟨p, q, hA, hV, rfl, hfz, hnd⟩ := hW
  have hlt : ∀ x ∈ p ++ q, x.block < W.heap.size := hW'.lt
  rw [hsv] at hV
  obtain ⟨rfl, rfl⟩ := trodVars_none hV
  refine ⟨ds, _, _, [], p, [], hW', ?_, ?_, ?_, hb.frame _, fun h => by cases h⟩
  · rw [h1, hres]
    exact trodAll_cons_mk (shut_bool htb _) trodAll_mk0
  · rw [h2]
    exact trodAll_below hl hb _ _ _ _ hr hA (fun x hx => hlt x (by simp [hx]))
  · rw [hsv, h3]
    rfl

/-- A cell that is there lies in a block that is there. -/
theorem block_lt {w : World} {a : Addr} {v : Value} (h : w.cell? a = some v) : a.block < w.heap.size := by
  rcases Nat.lt_or_ge a.block w.heap.size with h' | h'
  · exact h'
  · simp [World.cell?, Array.getElem?_eq_none h'] at h

/-- A slice of bytes that came in: its cells. -/
theorem open_bytes {H : Type} {enc : TypeId × Value → H} {P : Program} {w : World} {t e : TypeId} {v : Value} {d : DataW H} {ps : List MemPlace} {r : Reach} {b0 : Nat}
    (ht : P.underlying t = some (.slice e)) (he : P.underlying e = some (.int .u8)) (hc : P.cellsOf e = 1)
    (hval : Value.okWide P w r b0 t v) (hd : DataW.Trod enc P w 0 (fun _ => true) true t v d ps) :
    ∃ (A : Option Addr) (l : List UInt8) (cap : Nat), v = .slice A l.length cap ∧ l.length ≤ cap ∧ cap ≤ maxLen ∧
      ∀ k, k < l.length → ∃ ad, A = some ad ∧ ad.block < w.heap.size ∧ w.cell? (ad.add k) = some (.int .u8 ((l.getD k 0).toNat : Int)) := by
  obtain ⟨a0, len, cap, rfl⟩ := okWide_slice ht hval
  obtain ⟨fuel, hf⟩ := hd
  rcases open_ints ht he hc hf with ⟨hcs, _⟩ | ⟨a, len', cap', zs, hcs, _, hle, hm, hz, hx, hcell, hwz⟩
  · have h : a0 = none ∧ len = 0 ∧ cap = 0 := by simpa [Value.cells] using hcs
    obtain ⟨rfl, rfl, rfl⟩ := h
    exact ⟨none, [], 0, rfl, Nat.le_refl _, by unfold maxLen; omega, fun k hk => absurd hk (Nat.not_lt_zero k)⟩
  · have h : a0 = some a ∧ len = len' ∧ cap = cap' := by simpa [Value.cells] using hcs
    obtain ⟨rfl, rfl, rfl⟩ := h
    rw [if_pos rfl] at hz
    refine ⟨some a, (zs.take len).map (fun z => UInt8.ofNat z.toNat), cap, ?_, ?_, hm, ?_⟩
    · simp; omega
    · simp; omega
    · intro k hk
      have hk' : k < len := by simp at hk; omega
      have hkz : k < zs.length := by omega
      refine ⟨a, rfl, ?_, ?_⟩
      · have := block_lt (hcell k hkz)
        unfold Addr.add at this
        split at this <;> exact this
      · rw [hcell k hkz]
        have hw := hwz (zs.getD k 0) (by simp [List.getD, hkz])
        have hb := bounds_u8 hw
        have e1 : ((zs.take len).map (fun z => UInt8.ofNat z.toNat)).getD k 0 = UInt8.ofNat (zs.getD k 0).toNat := by
          simp [List.getD, hk', hkz]
        rw [e1, UInt8.toNat_ofNat']
        congr 2
        omega

/-- An array of integers by value. -/
theorem open_arr_ints {H : Type} {enc : TypeId × Value → H} {P : Program} {w : World} {t e : TypeId} {n : Nat} {k : IntKind} {v : Value} {d : DataW H} {ps : List MemPlace} {r : Reach} {b0 : Nat} {base : Nat} {spare : Nat → Bool} {held : Bool}
    (ht : P.underlying t = some (.array n e)) (he : P.underlying e = some (.int k)) (hc : P.cellsOf e = 1) (hct : P.cellsOf t = n)
    (hval : Value.okWide P w r b0 t v) (hd : DataW.Trod enc P w base spare held t v d ps) :
    ∃ zs : List Int, v = .agg (zs.map (Value.int k)).toArray ∧ zs.length = n ∧ ∀ i, i < n → (Lit.int k (zs.getD i 0)).wf = true := by
  have h := hval
  simp only [Value.okWide, ht] at h
  obtain ⟨cs, rfl, hsz, _⟩ := h
  rw [hct] at hsz
  obtain ⟨fuel, hf⟩ := hd
  obtain ⟨xs, m, rfl, _, _, _, hi⟩ := DataW.trod_array ht hf
  have each : ∀ i, i < n → ∃ z, cs[i]? = some (.int k z) ∧ (Lit.int k z).wf = true := by
    intro i hin
    have h1 := hi i hin
    rw [hc, Nat.mul_one] at h1
    simp only [Value.cells] at h1
    have hlen : i < cs.toList.length := by simpa [hsz] using hin
    have h2 : (cs.toList.drop i).take 1 = [cs.toList[i]] := by
      rw [List.drop_eq_getElem_cons hlen]
      rfl
    rw [h2] at h1
    cases hx : xs[i]? with
    | none =>
      exfalso
      have := List.getElem?_eq_none_iff.1 hx
      omega
    | some y =>
      rw [hx] at h1
      obtain ⟨z, hz, _, hw⟩ := DataW.trod_int he h1
      refine ⟨z, ?_, hw⟩
      have : cs.toList[i] = .int k z := by simpa using hz
      rw [← this]
      simp [hsz, hin]
  let num : Value → Int := fun v => match v with | .int _ z => z | _ => 0
  refine ⟨cs.toList.map num, ?_, by simp [hsz], ?_⟩
  · congr 1
    apply Array.ext
    · simp
    · intro i h1 h2
      obtain ⟨z, hz, _⟩ := each i (by omega)
      have : cs[i] = .int k z := by
        rw [Array.getElem?_eq_getElem h1] at hz
        injection hz
      simp [this, num]
  · intro i hin
    obtain ⟨z, hz, hw⟩ := each i hin
    have e1 : (cs.toList.map num).getD i 0 = z := by
      have : cs.toList[i]? = some (.int k z) := by simpa using hz
      simp [List.getD, List.getElem?_map, this, num]
    rw [e1]
    exact hw
end Go.Proofs.YtpgdbeacmlojcaaGreat.Lk
