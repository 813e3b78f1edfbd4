/-
  An abstract machine: values, memory, reading operations.
-/
import Derived.Below
import Derived.Maps.OwnSet
import Derived.Maps.AppendAt
import Derived.Orders
import Derived.LoopN
import Derived.WalkKit
import Derived.WalkLawsBesides
import Derived.WalkSpells
import Derived.IntWalk
import Derived.Laws.StructEq
import Derived.Lib.SlBytesConst
namespace Go.Proofs.Yteeifedpabcehaa.Bm
open Go.RowKit

/-- Values without addresses that anybody may write: data, and references into memory that is never written again. -/
inductive IV where
  | v (x : Value)
  | str (l : List UInt8)
  | bs (l : List UInt8)
  | sl (sz n : Nat) (f : Nat → List IV)
  | pp (cs : List IV)
  | agg (cs : List IV)
  | ifc (t : TypeId) (x : IV)
  | fnc (fn : Fn) (a c : List IV)
/-- Values of a walk: handles name chunks of memory. -/
inductive AV where
  | iv (x : IV)
  | ptr (h off : Nat)
  | el (h sz i fo : Nat)
  | row (h sz off len : Nat)
  | mp (h : Nat)
  | agg (cs : List AV)
  | tup (cs : List AV)
  | ifc (t : TypeId) (x : AV)
  | fnc (fn : Fn) (a c : List AV)
  | pp (cs : List AV)
  | sl (sz n : Nat) (f : Nat → List AV)
  | junk
  | anyb
@[reducible] def AV.int (k : IntKind) (n : Int) : AV := .iv (.v (.int k n))
@[reducible] def AV.bool (b : Bool) : AV := .iv (.v (.bool b))
@[reducible] def AV.str (l : List UInt8) : AV := .iv (.str l)
@[reducible] def AV.nilSl : AV := .iv (.v (.slice none 0 0))
@[reducible] def AV.nilPtr : AV := .iv (.v (.pointer none))
abbrev Imm := Nat → Nat → Option Value
def byteI (c : UInt8) : IV := .v (.int .u8 (c.toNat : Int))
mutual
/-- What an immutable value is. -/
def IV.R (ι : Imm) : IV → Value → Prop
  | .v x, y => y = x
  | .str l, y => y = .string ⟨l.toArray⟩
  | .bs l, y => ∃ A c, y = .slice A l.length c ∧ l.length ≤ c ∧ c ≤ maxLen ∧ ∀ k, k < l.length → ∃ ad, A = some ad ∧ ad.spot = none ∧ ι ad.block (ad.off + k) = some (.int .u8 ((l.getD k 0).toNat : Int))
  | .sl sz n f, y => ∃ A c, y = .slice A n c ∧ n ≤ c ∧ c ≤ maxLen ∧ ∀ k, k < n → ∃ ad vs, A = some ad ∧ ad.spot = none ∧ IV.Rs ι (f k) vs ∧ vs.length = sz ∧ ∀ j u, vs[j]? = some u → ι ad.block (ad.off + k * sz + j) = some u
  | .pp cs, y => ∃ ad vs, y = .pointer (some ad) ∧ ad.spot = none ∧ IV.Rs ι cs vs ∧ ∀ j u, vs[j]? = some u → ι ad.block (ad.off + j) = some u
  | .agg cs, y => ∃ vs, y = .agg vs.toArray ∧ IV.Rs ι cs vs
  | .ifc t x, y => ∃ u, y = .iface t u ∧ IV.R ι x u
  | .fnc fn a c, y => ∃ as cs, y = .func fn as.toArray cs.toArray ∧ IV.Rs ι a as ∧ IV.Rs ι c cs
def IV.Rs (ι : Imm) : List IV → List Value → Prop
  | [], vs => vs = []
  | x :: xs, vs => ∃ u us, vs = u :: us ∧ IV.R ι x u ∧ IV.Rs ι xs us
end
/-- What a handle stands for: its block, how many cells it has, the blocks that it owns. -/
structure HV where
  blk : Option Nat
  room : Nat
  foot : Nat → Prop
abbrev Rho := Nat → Option HV
mutual
def AV.R (ρ : Rho) (ι : Imm) : AV → Value → Prop
  | .iv x, y => x.R ι y
  | .ptr h off, y => ∃ hv b, ρ h = some hv ∧ hv.blk = some b ∧ y = .pointer (some ⟨b, off, none⟩)
  | .el h sz i fo, y => ∃ hv b, ρ h = some hv ∧ hv.blk = some b ∧ y = .pointer (some ⟨b, i * sz + fo, none⟩)
  | .row h sz off len, y => ∃ A c, y = .slice A len c ∧ len ≤ c ∧ c ≤ maxLen ∧ (c ≠ 0 → ∃ hv b, ρ h = some hv ∧ hv.blk = some b ∧ A = some ⟨b, off * sz, none⟩ ∧ (off + c) * sz ≤ hv.room)
  | .mp h, y => ∃ hv b, ρ h = some hv ∧ hv.blk = some b ∧ y = .map (some b)
  | .agg cs, y => ∃ vs, y = .agg vs.toArray ∧ AV.Rs ρ ι cs vs
  | .tup cs, y => ∃ vs, y = .tuple vs.toArray ∧ AV.Rs ρ ι cs vs
  | .ifc t x, y => ∃ u, y = .iface t u ∧ AV.R ρ ι x u
  | .fnc fn a c, y => ∃ as cs, y = .func fn as.toArray cs.toArray ∧ AV.Rs ρ ι a as ∧ AV.Rs ρ ι c cs
  | .pp cs, y => ∃ ad vs, y = .pointer (some ad) ∧ ad.spot = none ∧ AV.Rs ρ ι cs vs ∧ ∀ j u, vs[j]? = some u → ι ad.block (ad.off + j) = some u
  | .sl sz n f, y => ∃ A c, y = .slice A n c ∧ n ≤ c ∧ c ≤ maxLen ∧ ∀ k, k < n → ∃ ad vs, A = some ad ∧ ad.spot = none ∧ AV.Rs ρ ι (f k) vs ∧ vs.length = sz ∧ ∀ j u, vs[j]? = some u → ι ad.block (ad.off + k * sz + j) = some u
  | .junk, _ => True
  | .anyb, y => ∃ b, y = .bool b
def AV.Rs (ρ : Rho) (ι : Imm) : List AV → List Value → Prop
  | [], vs => vs = []
  | x :: xs, vs => ∃ u us, vs = u :: us ∧ AV.R ρ ι x u ∧ AV.Rs ρ ι xs us
end
def Imm.le (ι ι' : Imm) : Prop := ∀ b o v, ι b o = some v → ι' b o = some v
/-- A handle stands for the same block (what it owns beside may turn). -/
def Rho.le (ρ ρ' : Rho) : Prop := ∀ h hv, ρ h = some hv → ∃ hu : HV, ρ' h = some hu ∧ hu.blk = hv.blk ∧ hu.room = hv.room
theorem Imm.le.refl (ι : Imm) : Imm.le ι ι := fun _ _ _ h => h
theorem Imm.le.trans {a b c : Imm} (h : Imm.le a b) (h' : Imm.le b c) : Imm.le a c := fun _ _ _ x => h' _ _ _ (h _ _ _ x)
theorem Rho.le.refl (ρ : Rho) : Rho.le ρ ρ := fun _ hv h => ⟨hv, h, rfl, rfl⟩
theorem Rho.le.trans {a b c : Rho} (h : Rho.le a b) (h' : Rho.le b c) : Rho.le a c := fun _ _ x => by
  obtain ⟨u, h1, h2, h3⟩ := h _ _ x
  obtain ⟨v, g1, g2, g3⟩ := h' _ _ h1
  exact ⟨v, g1, g2.trans h2, g3.trans h3⟩
mutual
theorem IV.R_mono {ι ι' : Imm} (hι : Imm.le ι ι') : ∀ (x : IV) (y : Value), x.R ι y → x.R ι' y
  | .v x, y, h => by simpa [IV.R] using h
  | .str l, y, h => by simpa [IV.R] using h
  | .bs l, y, h => by
    simp only [IV.R] at h ⊢
    obtain ⟨A, c, h1, h2, h3, h4⟩ := h
    exact ⟨A, c, h1, h2, h3, fun k hk => let ⟨ad, e, s, r⟩ := h4 k hk; ⟨ad, e, s, hι _ _ _ r⟩⟩
  | .sl sz n f, y, h => by
    simp only [IV.R] at h ⊢
    obtain ⟨A, c, h1, h2, h3, h4⟩ := h
    exact ⟨A, c, h1, h2, h3, fun k hk => let ⟨ad, vs, e, s, r, l, g⟩ := h4 k hk; ⟨ad, vs, e, s, IV.Rs_mono hι (f k) vs r, l, fun j u hu => hι _ _ _ (g j u hu)⟩⟩
  | .pp cs, y, h => by
    simp only [IV.R] at h ⊢
    obtain ⟨ad, vs, e, s, r, g⟩ := h
    exact ⟨ad, vs, e, s, IV.Rs_mono hι cs vs r, fun j u hu => hι _ _ _ (g j u hu)⟩
  | .agg cs, y, h => by
    simp only [IV.R] at h ⊢
    obtain ⟨vs, e, r⟩ := h
    exact ⟨vs, e, IV.Rs_mono hι cs vs r⟩
  | .ifc t x, y, h => by
    simp only [IV.R] at h ⊢
    obtain ⟨u, e, r⟩ := h
    exact ⟨u, e, IV.R_mono hι x u r⟩
  | .fnc fn a c, y, h => by
    simp only [IV.R] at h ⊢
    obtain ⟨as, cs, e, r, r'⟩ := h
    exact ⟨as, cs, e, IV.Rs_mono hι a as r, IV.Rs_mono hι c cs r'⟩
theorem IV.Rs_mono {ι ι' : Imm} (hι : Imm.le ι ι') : ∀ (x : List IV) (y : List Value), IV.Rs ι x y → IV.Rs ι' x y
  | [], y, h => by simpa [IV.Rs] using h
  | x :: xs, y, h => by
    simp only [IV.Rs] at h ⊢
    obtain ⟨u, us, e, r, r'⟩ := h
    exact ⟨u, us, e, IV.R_mono hι x u r, IV.Rs_mono hι xs us r'⟩
end
mutual
theorem AV.R_mono {ρ ρ' : Rho} {ι ι' : Imm} (hρ : Rho.le ρ ρ') (hι : Imm.le ι ι') : ∀ (x : AV) (y : Value), x.R ρ ι y → x.R ρ' ι' y
  | .iv x, y, h => by simp only [AV.R] at h ⊢; exact x.R_mono hι y h
  | .ptr .., y, h => by simp only [AV.R] at h ⊢; obtain ⟨hv, b, h1, h2, h3⟩ := h; obtain ⟨hu, g1, g2, _⟩ := hρ _ _ h1; exact ⟨hu, b, g1, g2.trans h2, h3⟩
  | .el .., y, h => by simp only [AV.R] at h ⊢; obtain ⟨hv, b, h1, h2, h3⟩ := h; obtain ⟨hu, g1, g2, _⟩ := hρ _ _ h1; exact ⟨hu, b, g1, g2.trans h2, h3⟩
  | .row .., y, h => by
    simp only [AV.R] at h ⊢
    obtain ⟨A, c, h1, h2, h3, h4⟩ := h
    refine ⟨A, c, h1, h2, h3, fun h0 => ?_⟩
    obtain ⟨hv, b, g1, g2, g3, g4⟩ := h4 h0
    obtain ⟨hu, k1, k2, k3⟩ := hρ _ _ g1
    exact ⟨hu, b, k1, k2.trans g2, g3, by rw [k3]; exact g4⟩
  | .mp .., y, h => by simp only [AV.R] at h ⊢; obtain ⟨hv, b, h1, h2, h3⟩ := h; obtain ⟨hu, g1, g2, _⟩ := hρ _ _ h1; exact ⟨hu, b, g1, g2.trans h2, h3⟩
  | .agg cs, y, h => by simp only [AV.R] at h ⊢; obtain ⟨vs, e, r⟩ := h; exact ⟨vs, e, AV.Rs_mono hρ hι cs vs r⟩
  | .tup cs, y, h => by simp only [AV.R] at h ⊢; obtain ⟨vs, e, r⟩ := h; exact ⟨vs, e, AV.Rs_mono hρ hι cs vs r⟩
  | .ifc t x, y, h => by simp only [AV.R] at h ⊢; obtain ⟨u, e, r⟩ := h; exact ⟨u, e, AV.R_mono hρ hι x u r⟩
  | .fnc fn a c, y, h => by
    simp only [AV.R] at h ⊢
    obtain ⟨as, cs, e, r, r'⟩ := h
    exact ⟨as, cs, e, AV.Rs_mono hρ hι a as r, AV.Rs_mono hρ hι c cs r'⟩
  | .pp cs, y, h => by
    simp only [AV.R] at h ⊢
    obtain ⟨ad, vs, e, s, r, g⟩ := h
    exact ⟨ad, vs, e, s, AV.Rs_mono hρ hι cs vs r, fun j u hu => hι _ _ _ (g j u hu)⟩
  | .sl sz n f, y, h => by
    simp only [AV.R] at h ⊢
    obtain ⟨A, c, h1, h2, h3, h4⟩ := h
    exact ⟨A, c, h1, h2, h3, fun k hk => let ⟨ad, vs, e, s, r, l, g⟩ := h4 k hk; ⟨ad, vs, e, s, AV.Rs_mono hρ hι (f k) vs r, l, fun j u hu => hι _ _ _ (g j u hu)⟩⟩
  | .junk, y, h => by simp only [AV.R]
  | .anyb, y, h => by simpa only [AV.R] using h
theorem AV.Rs_mono {ρ ρ' : Rho} {ι ι' : Imm} (hρ : Rho.le ρ ρ') (hι : Imm.le ι ι') : ∀ (x : List AV) (y : List Value), AV.Rs ρ ι x y → AV.Rs ρ' ι' x y
  | [], y, h => by simpa [AV.Rs] using h
  | x :: xs, y, h => by
    simp only [AV.Rs] at h ⊢
    obtain ⟨u, us, e, r, r'⟩ := h
    exact ⟨u, us, e, AV.R_mono hρ hι x u r, AV.Rs_mono hρ hι xs us r'⟩
end

/-- Keys of maps. -/
inductive MK where
  | s (l : List UInt8)
  | i (k : IntKind) (n : Int)
  deriving DecidableEq
def MK.kind : MK → Option IntKind
  | .s _ => none
  | .i k _ => some k
def MK.val : MK → Value
  | .s l => .string ⟨l.toArray⟩
  | .i k n => .int k n
def ZipR {X : Type} (R : X → Value → Prop) : List MapEntry → List (MK × X) → Prop
  | [], m => m = []
  | e :: es, m => ∃ p ps, m = p :: ps ∧ e.key = p.1.val ∧ R p.2 e.val ∧ ZipR R es ps
/-- A map object reads as a list of keys and values. -/
structure MapR {X : Type} (R : X → Value → Prop) (kk : Option IntKind) (m : List (MK × X)) (es : Array MapEntry) (clock : Nat) : Prop where
  kind : ∀ p ∈ m, p.1.kind = kk
  zip : ∃ l : List MapEntry, l.Perm es.toList ∧ ZipR R l m
  keys : (m.map (·.1)).Nodup
  born : (es.toList.map (·.born)).Nodup
  clock : ∀ e ∈ es.toList, e.born < clock
/-- A predicate on a block and the blocks that it owns, which looks at nothing else. -/
structure SemP where
  R : Imm → HV → World → Prop
  loc : ∀ ι ι' hv w w', Imm.le ι ι' → (∀ k, hv.foot k → w'.heap[k]? = w.heap[k]?) → R ι hv w → R ι' hv w'
inductive Chunk where
  | cells (e : TypeId) (cs : List AV)
  | rowc (e : TypeId) (sz n : Nat) (f : Nat → List IV)
  | brow (e : TypeId) (l : List UInt8)
  | map (kk : Option IntKind) (m : List (MK × IV))
  | maph (kk : Option IntKind) (m : List (MK × AV))
  | icells (cs : List IV)
  | mapit (kk : Option IntKind) (m : List (MK × IV)) (left : List MK) (i : Nat)
  | sem (S : SemP)
/-- The cells that may not be written lie behind the row. -/
def FrOk (fr : Nat × Nat) (n : Nat) : Prop := fr.1 ≤ fr.2 ∧ ∀ j, j < n → (decide (fr.1 ≤ j) && decide (j < fr.2)) = false
theorem FrOk.zero (n : Nat) : FrOk (0, 0) n := ⟨Nat.le_refl _, fun j _ => by simp⟩
def RowAt (ι : Imm) (sz n : Nat) (f : Nat → List IV) (arr : Array Value) : Prop :=
  ∀ i, i < n → ∃ vs, IV.Rs ι (f i) vs ∧ vs.length = sz ∧ (∀ v ∈ vs, v.oneCell' = true) ∧ ∀ j u, vs[j]? = some u → arr[i * sz + j]? = some u
def Chunk.R (ρ : Rho) (ι : Imm) (hv : HV) (w : World) : Chunk → Prop
  | .cells e cs => ∃ b vs, hv.blk = some b ∧ (∀ k, hv.foot k ↔ k = b) ∧ w.heap[b]? = some (.cells vs.toArray e (0, 0)) ∧ AV.Rs ρ ι cs vs
  | .rowc e sz n f => (hv.blk = none ∧ n = 0 ∧ ∀ k, ¬ hv.foot k) ∨
      ∃ b arr fr, hv.blk = some b ∧ (∀ k, hv.foot k ↔ k = b) ∧ w.heap[b]? = some (.cells arr e fr) ∧ arr.size = hv.room ∧ FrOk fr arr.size ∧ n * sz ≤ arr.size ∧ RowAt ι sz n f arr
  | .brow e l => (hv.blk = none ∧ l = [] ∧ ∀ k, ¬ hv.foot k) ∨
      ∃ b arr fr, hv.blk = some b ∧ (∀ k, hv.foot k ↔ k = b) ∧ w.heap[b]? = some (.cells arr e fr) ∧ arr.size = hv.room ∧ FrOk fr arr.size ∧ l.length ≤ arr.size ∧ ∀ i, i < l.length → arr[i]? = some (.int .u8 ((l.getD i 0).toNat : Int))
  | .map kk m => ∃ b es clock, hv.blk = some b ∧ (∀ k, hv.foot k ↔ k = b) ∧ w.heap[b]? = some (.map es clock) ∧ MapR (IV.R ι) kk m es clock
  | .maph kk m => ∃ b es clock, hv.blk = some b ∧ (∀ k, hv.foot k ↔ k = b) ∧ w.heap[b]? = some (.map es clock) ∧ MapR (AV.R ρ ι) kk m es clock
  | .icells cs => (∀ k, ¬ hv.foot k) ∧ ∃ b vs, hv.blk = some b ∧ IV.Rs ι cs vs ∧ ∀ j u, vs[j]? = some u → ι b j = some u
  | .mapit kk m left i => ∃ b it hi es clock since seen last, hv.blk = some b ∧ ρ i = some hi ∧ hi.blk = some it ∧ it ≠ b ∧ (∀ k, hv.foot k ↔ k = b ∨ k = it) ∧ w.heap[b]? = some (.map es clock) ∧ w.heap[it]? = some (.mapIter (some b) since seen last) ∧ MapR (IV.R ι) kk m es clock ∧ since ≤ last ∧ (∀ e ∈ es.toList, e.born < since) ∧ ∀ e ∈ es.toList, e.born ∉ seen.toList ↔ ∃ key ∈ left, e.key = key.val
  | .sem S => S.R ι hv w
theorem ZipR.mono {X : Type} {R R' : X → Value → Prop} (h : ∀ x v, R x v → R' x v) : ∀ (l : List MapEntry) (m : List (MK × X)), ZipR R l m → ZipR R' l m
  | [], _, z => z
  | _ :: es, _, ⟨p, ps, h1, h2, h3, h4⟩ => ⟨p, ps, h1, h2, h _ _ h3, ZipR.mono h es ps h4⟩
theorem MapR.mono {X : Type} {R R' : X → Value → Prop} (h : ∀ x v, R x v → R' x v) {kk m es clock} (z : MapR R kk m es clock) : MapR R' kk m es clock :=
  ⟨z.kind, let ⟨l, a, b⟩ := z.zip; ⟨l, a, ZipR.mono h l m b⟩, z.keys, z.born, z.clock⟩
/-- A chunk stays, where its blocks stay. -/
theorem Chunk.R.keep {ρ ρ' : Rho} {ι ι' : Imm} {hv : HV} {w w' : World} {c : Chunk} (h : c.R ρ ι hv w) (hρ : Rho.le ρ ρ') (hι : Imm.le ι ι') (hw : ∀ k, hv.foot k → w'.heap[k]? = w.heap[k]?) : c.R ρ' ι' hv w' := by
  cases c with
  | cells e cs =>
    obtain ⟨b, vs, h1, h2, h3, h4⟩ := h
    exact ⟨b, vs, h1, h2, (hw b ((h2 b).2 rfl)).trans h3, AV.Rs_mono hρ hι cs vs h4⟩
  | rowc e sz n f =>
    rcases h with h | ⟨b, arr, fr, h1, h2, h3, h4, h5, h6, h7⟩
    · exact .inl h
    · exact .inr ⟨b, arr, fr, h1, h2, (hw b ((h2 b).2 rfl)).trans h3, h4, h5, h6, fun i hi => let ⟨vs, a, l, o, g⟩ := h7 i hi; ⟨vs, IV.Rs_mono hι _ _ a, l, o, g⟩⟩
  | brow e l =>
    rcases h with h | ⟨b, arr, fr, h1, h2, h3, h4⟩
    · exact .inl h
    · exact .inr ⟨b, arr, fr, h1, h2, (hw b ((h2 b).2 rfl)).trans h3, h4⟩
  | map kk m =>
    obtain ⟨b, es, clock, h1, h2, h3, h4⟩ := h
    exact ⟨b, es, clock, h1, h2, (hw b ((h2 b).2 rfl)).trans h3, h4.mono (IV.R_mono hι)⟩
  | maph kk m =>
    obtain ⟨b, es, clock, h1, h2, h3, h4⟩ := h
    exact ⟨b, es, clock, h1, h2, (hw b ((h2 b).2 rfl)).trans h3, h4.mono (AV.R_mono hρ hι)⟩
  | icells cs =>
    obtain ⟨h0, b, vs, h1, h2, h3⟩ := h
    exact ⟨h0, b, vs, h1, IV.Rs_mono hι _ _ h2, fun j u hj => hι _ _ _ (h3 j u hj)⟩
  | mapit kk m left i =>
    obtain ⟨b, it, hi, es, clock, since, seen, last, h1, h2, h3, h4, h5, h6, h7, h8, h9, h10⟩ := h
    obtain ⟨hu, g1, g2, _⟩ := hρ _ _ h2
    exact ⟨b, it, hu, es, clock, since, seen, last, h1, g1, g2.trans h3, h4, h5, (hw b ((h5 b).2 (.inl rfl))).trans h6, (hw it ((h5 it).2 (.inr rfl))).trans h7, h8.mono (IV.R_mono hι), h9, h10⟩
  | sem S => exact S.loc _ _ _ _ _ hι hw h

/-- Memory: which handles stand for what. -/
structure AH where
  next : Nat
  ch : List (Nat × Chunk)
def AH.get (H : AH) (h : Nat) : Option Chunk := go H.ch
where go : List (Nat × Chunk) → Option Chunk
  | [] => none
  | p :: ps => bif Nat.beq p.1 h then some p.2 else go ps
def AH.set (H : AH) (h : Nat) (c : Chunk) : AH := ⟨H.next, go H.ch⟩
where go : List (Nat × Chunk) → List (Nat × Chunk)
  | [] => []
  | p :: ps => bif Nat.beq p.1 h then (p.1, c) :: ps else p :: go ps
def AH.add (H : AH) (c : Chunk) : AH := ⟨H.next + 1, H.ch ++ [(H.next, c)]⟩
def AH.del (H : AH) (h : Nat) : AH := ⟨H.next, go H.ch⟩
where go : List (Nat × Chunk) → List (Nat × Chunk)
  | [] => []
  | p :: ps => bif Nat.beq p.1 h then ps else p :: go ps
def AH.foot (H : AH) (ρ : Rho) (k : Nat) : Prop := ∃ p ∈ H.ch, ∃ hv, ρ p.1 = some hv ∧ hv.foot k

/-- Blocks outside S, of those that there were, have not turned. -/
structure Touch (S : Nat → Prop) (w w' : World) : Prop where
  os : w'.os = w.os
  tape : w'.tape = w.tape
  output : w'.output = w.output
  size : w.heap.size ≤ w'.heap.size
  block : ∀ k, k < w.heap.size → ¬ S k → w'.heap[k]? = w.heap[k]?
/-- What memory's state says of a world. -/
structure SR (ρ : Rho) (ι : Imm) (H : AH) (w : World) : Prop where
  imm : ∀ b o v, ι b o = some v → w.cell? ⟨b, o, none⟩ = some v
  one : ∀ b o v, ι b o = some v → v.oneCell' = true
  rel : ∀ p ∈ H.ch, ∃ hv, ρ p.1 = some hv ∧ p.2.R ρ ι hv w
  fresh : ∀ h, H.next ≤ h → ρ h = none
  nodup : (H.ch.map (·.1)).Nodup
  apart : ∀ p ∈ H.ch, ∀ q ∈ H.ch, p.1 ≠ q.1 → ∀ hv hu, ρ p.1 = some hv → ρ q.1 = some hu → ∀ k, hv.foot k → ¬ hu.foot k
  iapart : ∀ p ∈ H.ch, ∀ hv, ρ p.1 = some hv → ∀ k o v, hv.foot k → ι k o ≠ some v
  lt : ∀ p ∈ H.ch, ∀ hv, ρ p.1 = some hv → ∀ k, hv.foot k → k < w.heap.size
/-- What a piece of code has done. -/
structure Went (ρ : Rho) (ι : Imm) (H : AH) (w : World) (ρ' : Rho) (ι' : Imm) (H' : AH) (w' : World) : Prop where
  touch : Touch (H.foot ρ) w w'
  grow : ∀ k, H'.foot ρ' k → H.foot ρ k ∨ w.heap.size ≤ k
  imm : Imm.le ι ι'
  immNew : ∀ b o v, ι' b o = some v → ι b o = some v ∨ H.foot ρ b ∨ w.heap.size ≤ b
  agree : Rho.le ρ ρ'
/-- What a piece of code has done; of handles only those below n stand for what they stood for. -/
structure WentB (n : Nat) (ρ : Rho) (ι : Imm) (H : AH) (w : World) (ρ' : Rho) (ι' : Imm) (H' : AH) (w' : World) : Prop where
  touch : Touch (H.foot ρ) w w'
  grow : ∀ k, H'.foot ρ' k → H.foot ρ k ∨ w.heap.size ≤ k
  imm : Imm.le ι ι'
  immNew : ∀ b o v, ι' b o = some v → ι b o = some v ∨ H.foot ρ b ∨ w.heap.size ≤ b
  agree : ∀ h hv, h < n → ρ h = some hv → ∃ hu : HV, ρ' h = some hu ∧ hu.blk = hv.blk ∧ hu.room = hv.room
theorem Went.weak {n ρ ι H w ρ' ι' H' w'} (h : Went ρ ι H w ρ' ι' H' w') : WentB n ρ ι H w ρ' ι' H' w' := ⟨h.touch, h.grow, h.imm, h.immNew, fun k hv _ hh => h.agree k hv hh⟩
theorem Touch.refl (S : Nat → Prop) (w : World) : Touch S w w := ⟨rfl, rfl, rfl, Nat.le_refl _, fun _ _ _ => rfl⟩
theorem Went.refl (ρ : Rho) (ι : Imm) (H : AH) (w : World) : Went ρ ι H w ρ ι H w :=
  ⟨Touch.refl _ _, fun _ h => .inl h, Imm.le.refl _, fun _ _ _ h => .inl h, Rho.le.refl _⟩
theorem Went.trans {ρ ι H w ρ' ι' H' w' ρ'' ι'' H'' w''} (h : Went ρ ι H w ρ' ι' H' w') (h' : Went ρ' ι' H' w' ρ'' ι'' H'' w'') : Went ρ ι H w ρ'' ι'' H'' w'' := by
  refine ⟨⟨h'.touch.os.trans h.touch.os, h'.touch.tape.trans h.touch.tape, h'.touch.output.trans h.touch.output, Nat.le_trans h.touch.size h'.touch.size, fun k hk hs => ?_⟩, fun k hk => ?_, h.imm.trans h'.imm, fun b o v hv => ?_, h.agree.trans h'.agree⟩
  · refine (h'.touch.block k (Nat.lt_of_lt_of_le hk h.touch.size) fun hf => ?_).trans (h.touch.block k hk hs)
    rcases h.grow k hf with h1 | h1
    · exact hs h1
    · omega
  · rcases h'.grow k hk with h1 | h1
    · exact h.grow k h1
    · exact .inr (Nat.le_trans h.touch.size h1)
  · rcases h'.immNew b o v hv with h1 | h1 | h1
    · exact h.immNew b o v h1
    · exact (h.grow b h1).elim (fun x => .inr (.inl x)) (fun x => .inr (.inr x))
    · exact .inr (.inr (Nat.le_trans h.touch.size h1))
theorem WentB.trans {n ρ ι H w ρ' ι' H' w' ρ'' ι'' H'' w''} (h : WentB n ρ ι H w ρ' ι' H' w') (h' : WentB n ρ' ι' H' w' ρ'' ι'' H'' w'') : WentB n ρ ι H w ρ'' ι'' H'' w'' := by
  refine ⟨⟨h'.touch.os.trans h.touch.os, h'.touch.tape.trans h.touch.tape, h'.touch.output.trans h.touch.output, Nat.le_trans h.touch.size h'.touch.size, fun k hk hs => ?_⟩, fun k hk => ?_, h.imm.trans h'.imm, fun b o v hv => ?_, fun k hv hk hh => by
    obtain ⟨u, h1, h2, h3⟩ := h.agree k hv hk hh
    obtain ⟨v, g1, g2, g3⟩ := h'.agree k u hk h1
    exact ⟨v, g1, g2.trans h2, g3.trans h3⟩⟩
  · refine (h'.touch.block k (Nat.lt_of_lt_of_le hk h.touch.size) fun hf => ?_).trans (h.touch.block k hk hs)
    rcases h.grow k hf with h1 | h1
    · exact hs h1
    · omega
  · rcases h'.grow k hk with h1 | h1
    · exact h.grow k h1
    · exact .inr (Nat.le_trans h.touch.size h1)
  · rcases h'.immNew b o v hv with h1 | h1 | h1
    · exact h.immNew b o v h1
    · exact (h.grow b h1).elim (fun x => .inr (.inl x)) (fun x => .inr (.inr x))
    · exact .inr (.inr (Nat.le_trans h.touch.size h1))
theorem WentB.refl (n : Nat) (ρ : Rho) (ι : Imm) (H : AH) (w : World) : WentB n ρ ι H w ρ ι H w := (Went.refl ρ ι H w).weak
theorem AH.get_mem {H : AH} {h : Nat} {c : Chunk} (e : H.get h = some c) : (h, c) ∈ H.ch := by
  unfold AH.get at e
  generalize H.ch = l at *
  induction l with
  | nil => cases e
  | cons p ps ih =>
    unfold AH.get.go at e
    cases hb : Nat.beq p.1 h with
    | true =>
      rw [hb] at e
      simp only [cond_true, Option.some.injEq] at e
      have := Nat.eq_of_beq_eq_true hb
      cases p
      simp_all
    | false =>
      rw [hb] at e
      exact List.mem_cons_of_mem _ (ih e)
theorem AH.mem_set {H : AH} {h : Nat} {c : Chunk} : ∀ p ∈ (H.set h c).ch, p ∈ H.ch ∨ p = (h, c) := by
  unfold AH.set
  generalize H.ch = l
  induction l with
  | nil => intro p hp; cases hp
  | cons q qs ih =>
    intro p hp
    simp only [AH.set.go] at hp ⊢
    cases hb : Nat.beq q.1 h with
    | true =>
      have := Nat.eq_of_beq_eq_true hb
      simp only [hb, cond_true, List.mem_cons] at hp
      rcases hp with rfl | hp
      · exact .inr (by rw [this])
      · exact .inl (List.mem_cons_of_mem _ hp)
    | false =>
      simp only [hb, cond_false, List.mem_cons] at hp
      rcases hp with rfl | hp
      · exact .inl (List.mem_cons_self ..)
      · rcases ih p hp with h1 | h1
        · exact .inl (List.mem_cons_of_mem _ h1)
        · exact .inr h1
theorem AH.keys_set (H : AH) (h : Nat) (c : Chunk) : (H.set h c).ch.map (·.1) = H.ch.map (·.1) := by
  unfold AH.set
  generalize H.ch = l
  induction l with
  | nil => rfl
  | cons q qs ih =>
    simp only [AH.set.go]
    cases Nat.beq q.1 h with
    | true => rfl
    | false => simp only [cond_false, List.map_cons]; exact congrArg _ ih
theorem AH.mem_del {H : AH} {h : Nat} : ∀ p ∈ (H.del h).ch, p ∈ H.ch := by
  unfold AH.del
  generalize H.ch = l
  induction l with
  | nil => intro p hp; cases hp
  | cons q qs ih =>
    intro p hp
    simp only [AH.del.go] at hp
    cases hb : Nat.beq q.1 h with
    | true => simp only [hb, cond_true] at hp; exact List.mem_cons_of_mem _ hp
    | false =>
      simp only [hb, cond_false, List.mem_cons] at hp
      rcases hp with rfl | hp
      · exact List.mem_cons_self ..
      · exact List.mem_cons_of_mem _ (ih p hp)
theorem AH.nodup_del {H : AH} (h : Nat) (hn : (H.ch.map (·.1)).Nodup) : ((H.del h).ch.map (·.1)).Nodup := by
  unfold AH.del
  generalize H.ch = l at *
  induction l with
  | nil => simp [AH.del.go]
  | cons q qs ih =>
    simp only [AH.del.go]
    simp only [List.map_cons, List.nodup_cons] at hn
    cases hb : Nat.beq q.1 h with
    | true => exact hn.2
    | false =>
      simp only [cond_false, List.map_cons, List.nodup_cons]
      refine ⟨fun hm => hn.1 ?_, ih hn.2⟩
      obtain ⟨p, hp, e⟩ := List.mem_map.1 hm
      exact List.mem_map.2 ⟨p, AH.mem_del (H := ⟨0, qs⟩) (h := h) p hp, e⟩
theorem AH.key_del {H : AH} {h : Nat} (hn : (H.ch.map (·.1)).Nodup) : ∀ p ∈ (H.del h).ch, p.1 ≠ h := by
  unfold AH.del
  generalize H.ch = l at *
  induction l with
  | nil => intro p hp; cases hp
  | cons q qs ih =>
    intro p hp
    simp only [List.map_cons, List.nodup_cons] at hn
    simp only [AH.del.go] at hp
    cases hb : Nat.beq q.1 h with
    | true =>
      have hq := Nat.eq_of_beq_eq_true hb
      simp only [hb, cond_true] at hp
      intro e
      exact hn.1 (by rw [hq, ← e]; exact List.mem_map_of_mem hp)
    | false =>
      simp only [hb, cond_false, List.mem_cons] at hp
      rcases hp with rfl | hp
      · intro e; rw [e] at hb; simp at hb
      · exact ih hn.2 p hp
theorem SR.hv {ρ ι H w} (h : SR ρ ι H w) {k : Nat} {c : Chunk} (hc : H.get k = some c) : ∃ hv, ρ k = some hv ∧ c.R ρ ι hv w := h.rel _ (AH.get_mem hc)
theorem AH.footI {H : AH} {ρ : Rho} {h k : Nat} {c : Chunk} {hv : HV} (hc : H.get h = some c) (hr : ρ h = some hv) (hk : hv.foot k) : H.foot ρ k := ⟨_, AH.get_mem hc, hv, hr, hk⟩
theorem SR.drew {ρ ι H w} (h : SR ρ ι H w) : SR ρ ι H w.drew :=
  ⟨fun b o v hv => (World.cell?_drew w _).trans (h.imm b o v hv), h.one, fun p hp => let ⟨hv, a, r⟩ := h.rel p hp; ⟨hv, a, r.keep (Rho.le.refl _) (Imm.le.refl _) fun _ _ => rfl⟩, h.fresh, h.nodup, h.apart, h.iapart, h.lt⟩
theorem Went.drew (ρ : Rho) (ι : Imm) (H : AH) (w : World) : Went ρ ι H w ρ ι H w.drew :=
  ⟨⟨rfl, rfl, rfl, Nat.le_refl _, fun _ _ _ => rfl⟩, fun _ h => .inl h, Imm.le.refl _, fun _ _ _ h => .inl h, Rho.le.refl _⟩
def Rho.upd (ρ : Rho) (h : Nat) (hv : HV) : Rho := fun k => if k = h then some hv else ρ k
theorem Rho.upd_old {ρ : Rho} {h k : Nat} {hv u : HV} (hf : ρ h = none) (hk : ρ k = some u) : ρ.upd h hv k = some u := by
  unfold Rho.upd
  by_cases e : k = h
  · subst e; rw [hf] at hk; cases hk
  · rw [if_neg e]; exact hk
theorem Rho.le_upd {ρ : Rho} {h : Nat} (hv : HV) (hf : ρ h = none) : Rho.le ρ (ρ.upd h hv) := fun k u hk => by
  refine ⟨u, ?_, rfl, rfl⟩
  unfold Rho.upd
  by_cases e : k = h
  · subst e; rw [hf] at hk; cases hk
  · rw [if_neg e]; exact hk
theorem Rho.upd_same (ρ : Rho) (h : Nat) (hv : HV) : ρ.upd h hv h = some hv := if_pos rfl
theorem AH.mem_add {H : AH} {c : Chunk} {p : Nat × Chunk} (h : p ∈ (H.add c).ch) : p = (H.next, c) ∨ p ∈ H.ch := by
  rcases List.mem_append.1 h with h | h
  · exact .inr h
  · exact .inl (by simpa using h)
theorem AH.nodup_add {H : AH} {c : Chunk} (hn : (H.ch.map (·.1)).Nodup) (hne : ∀ p ∈ H.ch, p.1 ≠ H.next) : ((H.add c).ch.map (·.1)).Nodup := by
  unfold AH.add
  simp only [List.map_append, List.map_cons, List.map_nil]
  rw [List.nodup_append]
  refine ⟨hn, by simp, fun a ha b hb => ?_⟩
  simp at hb
  subst hb
  obtain ⟨p, hp, rfl⟩ := List.mem_map.1 ha
  exact hne p hp
/-- A new chunk, in blocks that are new. -/
theorem SR.add {ρ ι H w w'} (h : SR ρ ι H w) (c : Chunk) (hv : HV) (ht : Touch (fun _ => False) w w') (hf : ∀ k, hv.foot k → w.heap.size ≤ k ∧ k < w'.heap.size)
    (hc : c.R (ρ.upd H.next hv) ι hv w') : SR (ρ.upd H.next hv) ι (H.add c) w' ∧ Went ρ ι H w (ρ.upd H.next hv) ι (H.add c) w' := by
  have hfr := h.fresh H.next (Nat.le_refl _)
  have hle := Rho.le_upd hv hfr
  have hne : ∀ p ∈ H.ch, p.1 ≠ H.next := fun p hp e => by
    obtain ⟨u, hu, _⟩ := h.rel p hp
    rw [e, hfr] at hu; cases hu
  have old : ∀ p ∈ H.ch, ∀ u, (ρ.upd H.next hv) p.1 = some u → ρ p.1 = some u := fun p hp u hu => by
    unfold Rho.upd at hu
    rwa [if_neg (hne p hp)] at hu
  have keepB : ∀ k, k < w.heap.size → w'.heap[k]? = w.heap[k]? := fun k hk => ht.block k hk fun f => f.elim
  refine ⟨⟨fun b o v hi => ?_, h.one, fun p hp => ?_, fun k hk => ?_, ?_, fun p hp q hq hpq a b ha hb k hk => ?_, fun p hp a ha k o v hk => ?_, fun p hp a ha k hk => ?_⟩, ⟨⟨ht.os, ht.tape, ht.output, ht.size, fun k hk _ => keepB k hk⟩, fun k hk => ?_, Imm.le.refl _, fun _ _ _ x => .inl x, hle⟩⟩
  · have h1 := h.imm b o v hi
    rw [← h1]
    exact World.cell?_of_block (keepB b (World.block_lt_of_cell? w _ h1))
  · rcases AH.mem_add hp with rfl | hp
    · exact ⟨hv, Rho.upd_same _ _ _, hc⟩
    · obtain ⟨u, hu, r⟩ := h.rel p hp
      exact ⟨u, Rho.upd_old hfr hu, r.keep hle (Imm.le.refl _) fun k hk => keepB k (h.lt p hp u hu k hk)⟩
  · have hk' : H.next + 1 ≤ k := hk
    unfold Rho.upd
    rw [if_neg (by omega)]
    exact h.fresh k (by omega)
  · exact AH.nodup_add h.nodup hne
  · rcases AH.mem_add hp with rfl | hp <;> rcases AH.mem_add hq with rfl | hq
    · exact absurd rfl hpq
    · rw [Rho.upd_same] at ha
      injection ha with ha
      subst ha
      intro hb2
      have := h.lt q hq b (old q hq b hb) k hb2
      have := (hf k hk).1
      omega
    · rw [Rho.upd_same] at hb
      injection hb with hb
      subst hb
      intro hb2
      have := h.lt p hp a (old p hp a ha) k hk
      have := (hf k hb2).1
      omega
    · exact h.apart p hp q hq hpq a b (old p hp a ha) (old q hq b hb) k hk
  · rcases AH.mem_add hp with rfl | hp
    · rw [Rho.upd_same] at ha
      injection ha with ha
      subst ha
      intro hi
      have := World.block_lt_of_cell? w _ (h.imm k o v hi)
      have h2 := (hf k hk).1
      exact absurd this (Nat.not_lt.2 h2)
    · exact h.iapart p hp a (old p hp a ha) k o v hk
  · rcases AH.mem_add hp with rfl | hp
    · rw [Rho.upd_same] at ha
      injection ha with ha
      subst ha
      exact (hf k hk).2
    · exact Nat.lt_of_lt_of_le (h.lt p hp a (old p hp a ha) k hk) ht.size
  · obtain ⟨p, hp, u, hu, hk⟩ := hk
    rcases AH.mem_add hp with rfl | hp
    · rw [Rho.upd_same] at hu
      injection hu with hu
      subst hu
      exact .inr (hf k hk).1
    · exact .inl ⟨p, hp, u, old p hp u hu, hk⟩
theorem AH.mem_set' {H : AH} {h : Nat} {c : Chunk} (hn : (H.ch.map (·.1)).Nodup) : ∀ p ∈ (H.set h c).ch, (p ∈ H.ch ∧ p.1 ≠ h) ∨ p = (h, c) := by
  unfold AH.set
  generalize H.ch = l at *
  induction l with
  | nil => intro p hp; cases hp
  | cons q qs ih =>
    intro p hp
    simp only [List.map_cons, List.nodup_cons] at hn
    simp only [AH.set.go] at hp ⊢
    cases hb : Nat.beq q.1 h with
    | true =>
      have hq := Nat.eq_of_beq_eq_true hb
      simp only [hb, cond_true, List.mem_cons] at hp
      rcases hp with rfl | hp
      · exact .inr (by rw [hq])
      · exact .inl ⟨List.mem_cons_of_mem _ hp, fun e => hn.1 (by rw [hq, ← e]; exact List.mem_map_of_mem hp)⟩
    | false =>
      simp only [hb, cond_false, List.mem_cons] at hp
      rcases hp with rfl | hp
      · exact .inl ⟨List.mem_cons_self .., fun e => by rw [e] at hb; simp at hb⟩
      · rcases ih hn.2 p hp with h1 | h1
        · exact .inl ⟨List.mem_cons_of_mem _ h1.1, h1.2⟩
        · exact .inr h1
/-- A chunk is turned in place. -/
theorem SR.turn {ρ ι H w w'} (h : SR ρ ι H w) {k : Nat} {c c' : Chunk} {hv : HV} (hc : H.get k = some c) (hr : ρ k = some hv) (ht : Touch hv.foot w w')
    (hc' : c'.R ρ ι hv w') : SR ρ ι (H.set k c') w' ∧ Went ρ ι H w ρ ι (H.set k c') w' := by
  have hm := AH.get_mem hc
  have mem := AH.mem_set' (h := k) (c := c') h.nodup
  have key : ∀ p ∈ (H.set k c').ch, ∃ q ∈ H.ch, q.1 = p.1 := fun p hp => by
    rcases mem p hp with h1 | h1
    · exact ⟨p, h1.1, rfl⟩
    · exact ⟨_, hm, by rw [h1]⟩
  have keepB : ∀ b, b < w.heap.size → ¬ hv.foot b → w'.heap[b]? = w.heap[b]? := fun b hb hs => ht.block b hb hs
  refine ⟨⟨fun b o v hi => ?_, h.one, fun p hp => ?_, h.fresh, ?_, fun p hp q hq hpq a b ha hb => ?_, fun p hp a ha => ?_, fun p hp a ha j hj => ?_⟩, ⟨⟨ht.os, ht.tape, ht.output, ht.size, fun b hb hs => keepB b hb fun hf => hs ⟨_, hm, hv, hr, hf⟩⟩, fun j hj => ?_, Imm.le.refl _, fun _ _ _ x => .inl x, Rho.le.refl _⟩⟩
  · have h1 := h.imm b o v hi
    rw [← h1]
    exact World.cell?_of_block (keepB b (World.block_lt_of_cell? w _ h1) fun hf => h.iapart _ hm hv hr b o v hf hi)
  · rcases mem p hp with h1 | h1
    · obtain ⟨u, hu, r⟩ := h.rel p h1.1
      exact ⟨u, hu, r.keep (Rho.le.refl _) (Imm.le.refl _) fun j hj => keepB j (h.lt p h1.1 u hu j hj) (h.apart p h1.1 _ hm h1.2 u hv hu hr j hj)⟩
    · subst h1
      exact ⟨hv, hr, hc'⟩
  · rw [AH.keys_set]; exact h.nodup
  · obtain ⟨p', hp', e⟩ := key p hp
    obtain ⟨q', hq', e'⟩ := key q hq
    exact h.apart p' hp' q' hq' (by rw [e, e']; exact hpq) a b (by rw [e]; exact ha) (by rw [e']; exact hb)
  · obtain ⟨p', hp', e⟩ := key p hp
    exact h.iapart p' hp' a (by rw [e]; exact ha)
  · obtain ⟨p', hp', e⟩ := key p hp
    exact Nat.lt_of_lt_of_le (h.lt p' hp' a (by rw [e]; exact ha) j hj) ht.size
  · obtain ⟨p, hp, u, hu, hk⟩ := hj
    obtain ⟨p', hp', e⟩ := key p hp
    exact .inl ⟨p', hp', u, by rw [e]; exact hu, hk⟩
/-- A chunk is let go. -/
theorem SR.drop {ρ ι H w} (h : SR ρ ι H w) (k : Nat) : SR ρ ι (H.del k) w ∧ Went ρ ι H w ρ ι (H.del k) w :=
  ⟨⟨h.imm, h.one, fun p hp => h.rel p (AH.mem_del p hp), h.fresh, AH.nodup_del k h.nodup, fun p hp q hq => h.apart p (AH.mem_del p hp) q (AH.mem_del q hq), fun p hp => h.iapart p (AH.mem_del p hp), fun p hp => h.lt p (AH.mem_del p hp)⟩,
   ⟨Touch.refl _ _, fun _ ⟨p, hp, x⟩ => .inl ⟨p, AH.mem_del p hp, x⟩, Imm.le.refl _, fun _ _ _ x => .inl x, Rho.le.refl _⟩⟩
/-- A chunk goes on under a new handle: its blocks are old ones of its own, or new ones. -/
theorem SR.move {ρ ι H w w'} (h : SR ρ ι H w) {k : Nat} {c : Chunk} {hv : HV} (hc : H.get k = some c) (hr : ρ k = some hv) (c' : Chunk) (hu : HV) (ht : Touch hv.foot w w')
    (hf : ∀ j, hu.foot j → (hv.foot j ∨ w.heap.size ≤ j) ∧ j < w'.heap.size) (hc' : c'.R (ρ.upd H.next hu) ι hu w') :
    SR (ρ.upd H.next hu) ι ((H.del k).add c') w' ∧ Went ρ ι H w (ρ.upd H.next hu) ι ((H.del k).add c') w' := by
  have hm := AH.get_mem hc
  have hfr := h.fresh H.next (Nat.le_refl _)
  have hle := Rho.le_upd hu hfr
  have hne : ∀ p ∈ H.ch, p.1 ≠ H.next := fun p hp e => by
    obtain ⟨u, hu, _⟩ := h.rel p hp
    rw [e, hfr] at hu; cases hu
  have old : ∀ p ∈ H.ch, ∀ u, (ρ.upd H.next hu) p.1 = some u → ρ p.1 = some u := fun p hp u hu => by
    unfold Rho.upd at hu
    rwa [if_neg (hne p hp)] at hu
  have keepB : ∀ b, b < w.heap.size → ¬ hv.foot b → w'.heap[b]? = w.heap[b]? := fun b hb hs => ht.block b hb hs
  have mem : ∀ p ∈ ((H.del k).add c').ch, p = (H.next, c') ∨ (p ∈ H.ch ∧ p.1 ≠ k) := fun p hp => by
    rcases AH.mem_add hp with h1 | h1
    · exact .inl h1
    · exact .inr ⟨AH.mem_del p h1, AH.key_del h.nodup p h1⟩
  have far : ∀ p ∈ H.ch, p.1 ≠ k → ∀ a, ρ p.1 = some a → ∀ j, a.foot j → ¬ hu.foot j := fun p hp hk a ha j hj hj2 => by
    have hlt := h.lt p hp a ha j hj
    rcases (hf j hj2).1 with h1 | h1
    · exact h.apart p hp _ hm hk a hv ha hr j hj h1
    · omega
  refine ⟨⟨fun b o v hi => ?_, h.one, fun p hp => ?_, fun j hj => ?_, ?_, fun p hp q hq hpq a b ha hb j hj => ?_, fun p hp a ha j o v hj => ?_, fun p hp a ha j hj => ?_⟩, ⟨⟨ht.os, ht.tape, ht.output, ht.size, fun b hb hs => keepB b hb fun hf => hs ⟨_, hm, hv, hr, hf⟩⟩, fun j hj => ?_, Imm.le.refl _, fun _ _ _ x => .inl x, hle⟩⟩
  · have h1 := h.imm b o v hi
    rw [← h1]
    exact World.cell?_of_block (keepB b (World.block_lt_of_cell? w _ h1) fun hf => h.iapart _ hm hv hr b o v hf hi)
  · rcases mem p hp with rfl | h1
    · exact ⟨hu, Rho.upd_same _ _ _, hc'⟩
    · obtain ⟨u, hu', r⟩ := h.rel p h1.1
      exact ⟨u, Rho.upd_old hfr hu', r.keep hle (Imm.le.refl _) fun j hj => keepB j (h.lt p h1.1 u hu' j hj) (h.apart p h1.1 _ hm h1.2 u hv hu' hr j hj)⟩
  · have hk' : H.next + 1 ≤ j := hj
    unfold Rho.upd
    rw [if_neg (by omega)]
    exact h.fresh j (by omega)
  · exact AH.nodup_add (AH.nodup_del k h.nodup) fun p hp => hne p (AH.mem_del p hp)
  · rcases mem p hp with rfl | h1 <;> rcases mem q hq with rfl | h2
    · exact absurd rfl hpq
    · rw [Rho.upd_same] at ha
      injection ha with ha
      subst ha
      exact fun hb2 => far q h2.1 h2.2 b (old q h2.1 b hb) j hb2 hj
    · rw [Rho.upd_same] at hb
      injection hb with hb
      subst hb
      exact far p h1.1 h1.2 a (old p h1.1 a ha) j hj
    · exact h.apart p h1.1 q h2.1 hpq a b (old p h1.1 a ha) (old q h2.1 b hb) j hj
  · rcases mem p hp with rfl | h1
    · rw [Rho.upd_same] at ha
      injection ha with ha
      subst ha
      intro hi
      rcases (hf j hj).1 with h2 | h2
      · exact h.iapart _ hm hv hr j o v h2 hi
      · have := World.block_lt_of_cell? w _ (h.imm j o v hi)
        exact absurd this (Nat.not_lt.2 h2)
    · exact h.iapart p h1.1 a (old p h1.1 a ha) j o v hj
  · rcases mem p hp with rfl | h1
    · rw [Rho.upd_same] at ha
      injection ha with ha
      subst ha
      exact (hf j hj).2
    · exact Nat.lt_of_lt_of_le (h.lt p h1.1 a (old p h1.1 a ha) j hj) ht.size
  · obtain ⟨p, hp, u, hu', hk⟩ := hj
    rcases mem p hp with rfl | h1
    · rw [Rho.upd_same] at hu'
      injection hu' with hu'
      subst hu'
      rcases (hf j hk).1 with h2 | h2
      · exact .inl ⟨_, hm, hv, hr, h2⟩
      · exact .inr h2
    · exact .inl ⟨p, h1.1, u, old p h1.1 u hu', hk⟩

end Go.Proofs.Yteeifedpabcehaa.Bm

namespace Go.Proofs.Yteeifedpabcehaa.Bm
open Go.RowKit

/-- A handle's blocks are others. -/
def Rho.refoot (ρ : Rho) (k : Nat) (hv : HV) (S : Nat → Prop) : Rho := fun j => if j = k then some ⟨hv.blk, hv.room, S⟩ else ρ j
theorem Rho.refoot_same (ρ : Rho) (k : Nat) (hv : HV) (S : Nat → Prop) : ρ.refoot k hv S k = some ⟨hv.blk, hv.room, S⟩ := if_pos rfl
theorem Rho.refoot_other {ρ : Rho} {k j : Nat} {hv : HV} {S : Nat → Prop} (h : j ≠ k) : ρ.refoot k hv S j = ρ j := if_neg h
theorem Rho.le_refoot {ρ : Rho} {k : Nat} {hv : HV} (hr : ρ k = some hv) (S : Nat → Prop) : Rho.le ρ (ρ.refoot k hv S) := fun j u hu => by
  by_cases e : j = k
  · subst e
    rw [hr] at hu
    injection hu with hu
    subst hu
    exact ⟨_, Rho.refoot_same .., rfl, rfl⟩
  · exact ⟨u, (Rho.refoot_other e).trans hu, rfl, rfl⟩
theorem SR.key_lt {ρ ι H w} (h : SR ρ ι H w) {k : Nat} {hv : HV} (hr : ρ k = some hv) : k < H.next := by
  rcases Nat.lt_or_ge k H.next with g | g
  · exact g
  · rw [h.fresh _ g] at hr; cases hr
/-- A chunk becomes another one, in some of the blocks that it had, and in some of those of chunks that go with it (D). -/
theorem SR.recast {ρ ι H H' w} (h : SR ρ ι H w) {k : Nat} {c c' : Chunk} {hv : HV} (hc : H.get k = some c) (hr : ρ k = some hv) (D : Nat → Prop) (S : Nat → Prop)
    (hS : ∀ b, S b → hv.foot b ∨ ∃ p ∈ H.ch, D p.1 ∧ ∃ u, ρ p.1 = some u ∧ u.foot b) (hn : H'.next = H.next) (hnd : (H'.ch.map (·.1)).Nodup)
    (hm : ∀ p ∈ H'.ch, (p ∈ H.ch ∧ p.1 ≠ k ∧ ¬ D p.1) ∨ p = (k, c')) (hc' : ∀ ρ', Rho.le ρ ρ' → c'.R ρ' ι ⟨hv.blk, hv.room, S⟩ w) :
    SR (ρ.refoot k hv S) ι H' w ∧ Went ρ ι H w (ρ.refoot k hv S) ι H' w := by
  have hle := Rho.le_refoot hr S
  have hk := AH.get_mem hc
  have old : ∀ p : Nat × Chunk, p.1 ≠ k → ρ.refoot k hv S p.1 = ρ p.1 := fun p e => Rho.refoot_other e
  have inF : ∀ b, S b → H.foot ρ b := fun b hb => by
    rcases hS b hb with g | ⟨p, hp, _, u, hu, g⟩
    · exact ⟨_, hk, hv, hr, g⟩
    · exact ⟨p, hp, u, hu, g⟩
  have far : ∀ p ∈ H.ch, p.1 ≠ k → ¬ D p.1 → ∀ x, ρ p.1 = some x → ∀ b, x.foot b → ¬ S b := fun p hp hpk hpd x hx b hb hsb => by
    rcases hS b hsb with g | ⟨q, hq, hqd, u, hu, g⟩
    · exact h.apart p hp _ hk hpk x hv hx hr b hb g
    · exact h.apart p hp q hq (fun e => hpd (e ▸ hqd)) x u hx hu b hb g
  refine ⟨⟨h.imm, h.one, fun p hp => ?_, fun j hj => ?_, hnd, fun p hp q hq hpq x y hx hy b hb hb2 => ?_, fun p hp x hx b o v hb => ?_, fun p hp x hx b hb => ?_⟩, ⟨Touch.refl _ _, fun b ⟨p, hp, x, hx, hb⟩ => ?_, Imm.le.refl _, fun _ _ _ h => .inl h, hle⟩⟩
  · rcases hm p hp with ⟨g1, g2, _⟩ | rfl
    · obtain ⟨u, hu, r⟩ := h.rel p g1
      exact ⟨u, (old p g2).trans hu, r.keep hle (Imm.le.refl _) fun _ _ => rfl⟩
    · exact ⟨_, Rho.refoot_same .., hc' _ hle⟩
  · rw [hn] at hj
    have : j ≠ k := fun e => by have := h.key_lt hr; omega
    exact (Rho.refoot_other this).trans (h.fresh j hj)
  · rcases hm p hp with ⟨g1, g2, g3⟩ | rfl <;> rcases hm q hq with ⟨g4, g5, g6⟩ | rfl
    · rw [old p g2] at hx
      rw [old q g5] at hy
      exact h.apart p g1 q g4 hpq x y hx hy b hb hb2
    · rw [old p g2] at hx
      rw [Rho.refoot_same] at hy
      injection hy with hy
      subst hy
      exact far p g1 g2 g3 x hx b hb hb2
    · rw [old q g5] at hy
      rw [Rho.refoot_same] at hx
      injection hx with hx
      subst hx
      exact far q g4 g5 g6 y hy b hb2 hb
    · exact hpq rfl
  · rcases hm p hp with ⟨g1, g2, _⟩ | rfl
    · rw [old p g2] at hx; exact h.iapart p g1 x hx b o v hb
    · rw [Rho.refoot_same] at hx
      injection hx with hx
      subst hx
      obtain ⟨q, hq, u, hu, g⟩ := inF b hb
      exact h.iapart q hq u hu b o v g
  · rcases hm p hp with ⟨g1, g2, _⟩ | rfl
    · rw [old p g2] at hx; exact h.lt p g1 x hx b hb
    · rw [Rho.refoot_same] at hx
      injection hx with hx
      subst hx
      obtain ⟨q, hq, u, hu, g⟩ := inF b hb
      exact h.lt q hq u hu b g
  · rcases hm p hp with ⟨g1, g2, _⟩ | rfl
    · rw [old p g2] at hx; exact .inl ⟨p, g1, x, hx, hb⟩
    · rw [Rho.refoot_same] at hx
      injection hx with hx
      subst hx
      exact .inl (inF b hb)
/-- A chunk in some of its blocks. -/
theorem SR.shrink {ρ ι H w} (h : SR ρ ι H w) {k : Nat} {c c' : Chunk} {hv : HV} (hc : H.get k = some c) (hr : ρ k = some hv) (S : Nat → Prop) (hS : ∀ b, S b → hv.foot b) (hc' : ∀ ρ', Rho.le ρ ρ' → c'.R ρ' ι ⟨hv.blk, hv.room, S⟩ w) :
    SR (ρ.refoot k hv S) ι (H.set k c') w ∧ Went ρ ι H w (ρ.refoot k hv S) ι (H.set k c') w :=
  h.recast hc hr (fun _ => False) S (fun b hb => .inl (hS b hb)) rfl (by rw [AH.keys_set]; exact h.nodup) (fun p hp => (AH.mem_set' h.nodup p hp).imp (fun g => ⟨g.1, g.2, fun f => f.elim⟩) id) hc'
/-- Two chunks become one, under the handle of the first. -/
theorem SR.join {ρ ι H w} (h : SR ρ ι H w) {k i : Nat} {c d c' : Chunk} {hv hu : HV} (_ : k ≠ i) (hc : H.get k = some c) (hd : H.get i = some d) (hr : ρ k = some hv) (hri : ρ i = some hu) (hc' : ∀ ρ', Rho.le ρ ρ' → c'.R ρ' ι ⟨hv.blk, hv.room, fun b => hv.foot b ∨ hu.foot b⟩ w) :
    SR (ρ.refoot k hv fun b => hv.foot b ∨ hu.foot b) ι ((H.del i).set k c') w ∧ Went ρ ι H w (ρ.refoot k hv fun b => hv.foot b ∨ hu.foot b) ι ((H.del i).set k c') w := by
  have hdi := AH.get_mem hd
  have hnd := AH.nodup_del i h.nodup
  refine h.recast hc hr (fun j => j = i) _ (fun b hb => hb.imp id fun g => ⟨_, hdi, rfl, hu, hri, g⟩) rfl (by rw [AH.keys_set]; exact hnd) (fun p hp => ?_) hc'
  rcases AH.mem_set' (H := H.del i) hnd p hp with ⟨g1, g2⟩ | g
  · exact .inl ⟨AH.mem_del p g1, g2, AH.key_del h.nodup p g1⟩
  · exact .inr g
end Go.Proofs.Yteeifedpabcehaa.Bm

namespace Go.Proofs.Yteeifedpabcehaa.Bm
def globs : List (Nat × List IV) := []
end Go.Proofs.Yteeifedpabcehaa.Bm

namespace Go.Proofs.Yteeifedpabcehaa.Bm
open Go.RowKit

/-! Types, as a table. -/
inductive TK where
  | sl (e : Nat) | st (fs : List (Nat × Nat)) | str | int (k : IntKind) | mp (k e : Nat) | arr (n e : Nat) | ptr (e : Nat) | ifc | bool | other
structure TD where
  k : TK
  size : Nat
  bytes : Nat
  zero : Option Value
  eq : Bool := false
def TK.of : TypeDesc → TK
  | .slice e => .sl e
  | .struct fs => .st (fs.toList.map fun f => (f.offset, f.type))
  | .string => .str
  | .int k => .int k
  | .map k e => .mp k e
  | .array n e => .arr n e
  | .pointer e => .ptr e
  | .interface _ => .ifc
  | .bool => .bool
  | _ => .other
/-- Can values of a struct type be compared field by field? -/
def eqB (P : Program) (t : Nat) : Bool :=
  match P.underlying t with
  | some (.struct fs) => !P.eqGuardType P.depth t && !P.stoodInHeld t && fs.toList.all fun f => !(f.name == "_")
  | _ => false
def mkTD (P : Program) (t : Nat) : Option TD :=
  match P.underlying t, P.info? t with
  | some u, some i => some ⟨TK.of u, i.size, i.bytes, i.zero, eqB P t⟩
  | _, _ => none
abbrev TT := List (Nat × TD)
def TT.get : TT → Nat → Option TD
  | [], _ => none
  | p :: ps, t => bif Nat.beq p.1 t then some p.2 else TT.get ps t
def TOk (P : Program) (T : TT) : Prop := ∀ p ∈ T, mkTD P p.1 = some p.2
theorem TOk.of_eq {P : Program} {T : TT} (h : T.map (fun p => mkTD P p.1) = T.map (fun p => some p.2)) : TOk P T := by
  intro p hp
  induction T with
  | nil => cases hp
  | cons q qs ih =>
    simp only [List.map_cons, List.cons.injEq] at h
    rcases List.mem_cons.1 hp with rfl | hp
    · exact h.1
    · exact ih h.2 hp
theorem TOk.get {P : Program} {T : TT} (h : TOk P T) {t : Nat} {d : TD} (e : T.get t = some d) : mkTD P t = some d := by
  induction T with
  | nil => cases e
  | cons q qs ih =>
    unfold TT.get at e
    cases hb : Nat.beq q.1 t with
    | true =>
      rw [hb] at e
      simp only [cond_true, Option.some.injEq] at e
      rw [← Nat.eq_of_beq_eq_true hb, ← e]
      exact h q (List.mem_cons_self ..)
    | false =>
      rw [hb] at e
      exact ih (fun p hp => h p (List.mem_cons_of_mem _ hp)) e
theorem mkTD_spec {P : Program} {t : Nat} {d : TD} (e : mkTD P t = some d) : ∃ u i, P.underlying t = some u ∧ P.info? t = some i ∧ d = ⟨TK.of u, i.size, i.bytes, i.zero, eqB P t⟩ := by
  unfold mkTD at e
  cases hu : P.underlying t with
  | none => rw [hu] at e; cases e
  | some u =>
    cases hi : P.info? t with
    | none => rw [hu, hi] at e; cases e
    | some i =>
      rw [hu, hi] at e
      injection e with e
      exact ⟨u, i, rfl, rfl, e.symm⟩
def TD.isAgg (d : TD) : Bool := match d.k with | .st _ | .arr .. => true | _ => false

/-! The frame. -/
abbrev Env := List (Nat × AV)
def Env.get : Env → Nat → AV
  | [], _ => .junk
  | p :: ps, t => bif Nat.beq p.1 t then p.2 else Env.get ps t
def Env.put : Env → Nat → AV → Env
  | [], d, v => [(d, v)]
  | p :: ps, d, v => if d < p.1 then (d, v) :: p :: ps else if d = p.1 then (d, v) :: ps else p :: Env.put ps d v
theorem Env.put_comm (e : Env) (d d' : Nat) (v v' : AV) (h : d ≠ d') : (e.put d v).put d' v' = (e.put d' v').put d v := by
  induction e with
  | nil =>
    simp only [Env.put]
    rcases Nat.lt_or_ge d d' with h3 | h3
    · rw [if_neg (by omega), if_neg (by omega), if_pos h3]
    · rw [if_pos (by omega), if_neg (by omega), if_neg (by omega)]
  | cons p ps ih =>
    simp only [Env.put]
    by_cases a : d < p.1
    · by_cases b : d' < p.1
      · rw [if_pos a, if_pos b]
        simp only [Env.put]
        rcases Nat.lt_or_ge d d' with c | c
        · rw [if_neg (by omega : ¬ d' < d), if_neg (by omega : ¬ d' = d), if_pos b, if_pos c]
        · rw [if_pos (by omega : d' < d), if_neg (by omega : ¬ d < d'), if_neg h, if_pos a]
      · rw [if_pos a, if_neg b]
        simp only [Env.put]
        rw [if_neg (by omega : ¬ d' < d), if_neg (by omega : ¬ d' = d), if_neg b]
        by_cases c : d' = p.1
        · rw [if_pos c]; simp only [Env.put]; rw [if_pos (by omega)]
        · rw [if_neg c]; simp only [Env.put]; rw [if_pos a]
    · rw [if_neg a]
      by_cases a2 : d = p.1
      · rw [if_pos a2]
        by_cases b : d' < p.1
        · rw [if_pos b]
          simp only [Env.put]
          rw [if_pos (by omega : d' < d), if_neg (by omega : ¬ d < d'), if_neg h, if_neg a, if_pos a2]
        · rw [if_neg b, if_neg (by omega : ¬ d' = p.1)]
          simp only [Env.put]
          rw [if_neg (by omega : ¬ d' < d), if_neg (by omega : ¬ d' = d), if_neg a, if_pos a2]
      · rw [if_neg a2]
        by_cases b : d' < p.1
        · rw [if_pos b]
          simp only [Env.put]
          rw [if_pos b, if_neg (by omega : ¬ d < d'), if_neg h, if_neg a, if_neg a2]
        · rw [if_neg b]
          by_cases b2 : d' = p.1
          · rw [if_pos b2]
            simp only [Env.put]
            rw [if_neg b, if_pos b2, if_neg (by omega : ¬ d < d'), if_neg h]
          · rw [if_neg b2]
            simp only [Env.put]
            rw [if_neg b, if_neg b2, if_neg a, if_neg a2, ih]
theorem Env.get_put_same (e : Env) (d : Nat) (v : AV) : (e.put d v).get d = v := by
  induction e with
  | nil => simp [Env.put, Env.get]
  | cons p ps ih =>
    simp only [Env.put]
    by_cases a : d < p.1
    · rw [if_pos a]; simp [Env.get]
    · rw [if_neg a]
      by_cases b : d = p.1
      · rw [if_pos b]; simp [Env.get]
      · rw [if_neg b]
        have : Nat.beq p.1 d = false := by rw [Bool.eq_false_iff]; simp; omega
        simp only [Env.get, this, cond_false]
        exact ih
theorem Env.get_put_other (e : Env) (d t : Nat) (v : AV) (h : t ≠ d) : (e.put d v).get t = e.get t := by
  induction e with
  | nil =>
    have : Nat.beq d t = false := by rw [Bool.eq_false_iff]; simp; omega
    simp [Env.put, Env.get, this]
  | cons p ps ih =>
    have e1 : Nat.beq d t = false := by rw [Bool.eq_false_iff]; simp; omega
    simp only [Env.put]
    by_cases a : d < p.1
    · rw [if_pos a]; simp only [Env.get, e1, cond_false]
    · rw [if_neg a]
      by_cases b : d = p.1
      · rw [if_pos b]
        have : Nat.beq p.1 t = false := by rw [← b]; exact e1
        simp only [Env.get, e1, this, cond_false]
      · rw [if_neg b]
        simp only [Env.get, ih]
/-- Globals that nobody writes. -/
def gfind : List (Nat × List IV) → Nat → Option (List IV)
  | [], _ => none
  | p :: ps, g => bif Nat.beq p.1 g then some p.2 else gfind ps g
theorem gfind_mem {l : List (Nat × List IV)} {g : Nat} {cs : List IV} (h : gfind l g = some cs) : (g, cs) ∈ l := by
  induction l with
  | nil => cases h
  | cons p ps ih =>
    unfold gfind at h
    cases hb : Nat.beq p.1 g with
    | true =>
      rw [hb] at h
      have := Nat.eq_of_beq_eq_true hb
      simp only [cond_true, Option.some.injEq] at h
      rw [← this, ← h]
      exact List.mem_cons_self ..
    | false => rw [hb] at h; exact List.mem_cons_of_mem _ (ih h)
def GOk (ι : Imm) : Prop := ∀ p ∈ globs, IV.R ι (.pp p.2) (.pointer (some ⟨p.1, 0, none⟩))
theorem GOk.mono {ι ι' : Imm} (h : GOk ι) (hi : Imm.le ι ι') : GOk ι' := fun p hp => IV.R_mono hi _ _ (h p hp)
/-- The frame's slots, of which there are N. -/
structure ER (ρ : Rho) (ι : Imm) (N : Nat) (e : Env) (a : Act) : Prop where
  glob : GOk ι
  defers : a.defers = []
  size : a.tmps.size = N
  slot : ∀ t, (e.get t).R ρ ι (a.tmps.getD t undef)
theorem ER.mono {ρ ρ' ι ι' N e a} (h : ER ρ ι N e a) (hρ : Rho.le ρ ρ') (hι : Imm.le ι ι') : ER ρ' ι' N e a := ⟨h.glob.mono hι, h.defers, h.size, fun t => AV.R_mono hρ hι _ _ (h.slot t)⟩
def Env.putd (e : Env) (N : Nat) (dst : Option Tmp) (v : AV) : Env :=
  match dst with
  | none => e
  | some d => if d < N then e.put d v else e
theorem ER.putd {ρ ι N e a} (h : ER ρ ι N e a) (dst : Option Tmp) {v : AV} {u : Value} (hv : v.R ρ ι u) : ER ρ ι N (e.putd N dst v) (a.put dst u) := by
  cases dst with
  | none => exact h
  | some d =>
    unfold Env.putd Act.put
    by_cases hd : d < N
    · simp only [if_pos hd]
      refine ⟨h.glob, h.defers, by simp [h.size], fun t => ?_⟩
      by_cases e1 : t = d
      · subst e1
        rw [Env.get_put_same]
        have : t < a.tmps.size := by rw [h.size]; exact hd
        simpa [this] using hv
      · rw [Env.get_put_other _ _ _ _ e1]
        have := h.slot t
        simpa [Array.getElem?_setIfInBounds_ne (Ne.symm e1)] using this
    · simp only [if_neg hd]
      refine ⟨h.glob, h.defers, by simp [h.size], fun t => ?_⟩
      have hs : a.tmps.setIfInBounds d u = a.tmps := Array.setIfInBounds_eq_of_size_le (by rw [h.size]; exact Nat.le_of_not_lt hd)
      simp only [hs]
      exact h.slot t
theorem AV.R_junk (ρ : Rho) (ι : Imm) (u : Value) : AV.junk.R ρ ι u := by simp [AV.R]

end Go.Proofs.Yteeifedpabcehaa.Bm

namespace Go.Proofs.Yteeifedpabcehaa.Bm
open Go.RowKit

def opd (e : Env) : Operand → AV
  | .tmp t => e.get t
  | .const (.string s) => .iv (.str s.data.toList)
  | .const v => .iv (.v v)
  | .global g => match gfind globs g with
    | some cs => .iv (.pp cs)
    | none => .iv (.v (.pointer (some ⟨g, 0, none⟩)))
  | .func f => .iv (.v (.func (.func f) #[] #[]))
/-- Conditions, as data: so that they can be shown, or reckoned. -/
inductive Cnd where
  | le (a b : Int)
  | lt (a b : Int)
  | nle (a b : Nat)
  | nlt (a b : Nat)
@[reducible] def Cnd.P : Cnd → Prop
  | .le a b => a ≤ b
  | .lt a b => a < b
  | .nle a b => a ≤ b
  | .nlt a b => a < b
/-- What a reading operation comes to: no rule; a value, under conditions; what a map has, or not. -/
inductive ROut where
  | no
  | one (cs : List Cnd) (v : AV)
  | opt (o : Option AV) (s : AV → AV) (n : AV)
noncomputable def ands (cs : List Cnd) (q : Prop) : Prop := List.rec q (fun c _ ih => match c with
  | .le a b => a ≤ b ∧ ih
  | .lt a b => a < b ∧ ih
  | .nle a b => a ≤ b ∧ ih
  | .nlt a b => a < b ∧ ih) cs
theorem ands_nil (q : Prop) : ands [] q = q := rfl
theorem ands_cons (c : Cnd) (cs : List Cnd) (q : Prop) : ands (c :: cs) q = (c.P ∧ ands cs q) := by cases c <;> rfl
def ROut.K : ROut → (AV → Prop) → Prop
  | .no, _ => False
  | .one cs v, K => ands cs (K v)
  | .opt o s n, K => (∀ x, o = some x → K (s x)) ∧ (o = none → K n)
def inK : IntKind → Int → List Cnd
  | .i8, n => [.le (-128) n, .le n 127]
  | .i16, n => [.le (-32768) n, .le n 32767]
  | .i32, n => [.le (-2147483648) n, .le n 2147483647]
  | .i64, n => [.le (-9223372036854775808) n, .le n 9223372036854775807]
  | .u8, n => [.le 0 n, .le n 255]
  | .u16, n => [.le 0 n, .le n 65535]
  | .u32, n => [.le 0 n, .le n 4294967295]
  | .u64, n => [.le 0 n, .le n 18446744073709551615]
def wrK : IntKind → Int → Int
  | .u8, n => n % 256
  | .u16, n => n % 65536
  | .u32, n => n % 4294967296
  | .u64, n => n % 18446744073709551616
  | k, n => k.wrap n
def arK (wr : Bool) (k : IntKind) (n : Int) : ROut := bif wr then .one [] (.int k (wrK k n)) else .one (inK k n) (.int k n)
def bitK (op : BinOp) (k : IntKind) (x y : Int) : Int :=
  k.wrap (match op with
    | .and => (BitVec.ofInt k.bits x &&& BitVec.ofInt k.bits y).toNat
    | .or => (BitVec.ofInt k.bits x ||| BitVec.ofInt k.bits y).toNat
    | .xor => (BitVec.ofInt k.bits x ^^^ BitVec.ofInt k.bits y).toNat
    | _ => (BitVec.ofInt k.bits x &&& ~~~ BitVec.ofInt k.bits y).toNat : Nat)
def bInt (wr : Bool) (op : BinOp) (k : IntKind) (a b : Int) : ROut :=
  match op with
  | .add => arK wr k (a + b)
  | .sub => arK wr k (a - b)
  | .mul => arK wr k (a * b)
  | .quo => .one (.le 0 a :: .lt 0 b :: inK k (a / b)) (.int k (a / b))
  | .rem => .one [.le 0 a, .lt 0 b] (.int k (a % b))
  | .and => .one [] (.int k (bitK .and k a b))
  | .or => .one [] (.int k (bitK .or k a b))
  | .xor => .one [] (.int k (bitK .xor k a b))
  | .andNot => .one [] (.int k (bitK .andNot k a b))
  | .eql => .one [] (.bool (decide (a = b)))
  | .neq => .one [] (.bool (decide (a ≠ b)))
  | .lss => .one [] (.bool (decide (a < b)))
  | .leq => .one [] (.bool (decide (a ≤ b)))
  | .gtr => .one [] (.bool (decide (a > b)))
  | .geq => .one [] (.bool (decide (a ≥ b)))
  | .shl | .shr => .no
def bShift (op : BinOp) (k : IntKind) (a y : Int) : ROut :=
  match op with
  | .shl => .one [.le 0 y] (.int k (wrK k (a * 2 ^ (min y.toNat k.bits))))
  | .shr => .one [.le 0 y] (.int k (a / 2 ^ (min y.toNat k.bits)))
  | _ => .no
def bStr (op : BinOp) (a b : List UInt8) : ROut :=
  match op with
  | .add => .one [.le ((a.length + b.length : Nat) : Int) 9223372036854775807] (.str (a ++ b))
  | .eql => .one [] (.bool (decide (a = b)))
  | .neq => .one [] (.bool (decide (a ≠ b)))
  | .lss => .one [] (.bool (Op.bytesLess a b))
  | .leq => .one [] (.bool (Op.bytesLess a b || decide (a = b)))
  | .gtr => .one [] (.bool (!(Op.bytesLess a b || decide (a = b))))
  | .geq => .one [] (.bool (!Op.bytesLess a b))
  | _ => .no
/-- Is it surely nil (true), surely not (false)? -/
def nilness : AV → Option Bool
  | .iv (.v (.pointer none)) | .iv (.v (.slice none _ _)) | .iv (.v (.map none)) | .iv (.v .nilIface) | .iv (.v .nilFunc) => some true
  | .ptr .. | .el .. | .mp .. | .iv (.pp _) | .pp _ | .ifc .. | .iv (.ifc ..) | .fnc .. | .iv (.fnc ..) => some false
  | .iv (.v (.func ..)) => some false
  | _ => none
def TK.hasNil : TK → AV → Bool
  | .ptr _, .ptr .. | .ptr _, .el .. | .ptr _, .iv (.pp _) | .ptr _, .pp _ | .ptr _, .iv (.v (.pointer none)) | .mp .., .mp .. | .mp .., .iv (.v (.map none)) | .sl _, .iv (.v (.slice none _ _)) => true
  | .ifc, .iv (.v .nilIface) | .ifc, .ifc .. | .ifc, .iv (.ifc ..) => true
  | _, _ => false
def isNilC : AV → Bool
  | .iv (.v (.pointer none)) | .iv (.v (.slice none _ _)) | .iv (.v (.map none)) => true
  | _ => false
/-- A slice of which it is not known whether it is nil. -/
def isSlU : AV → Bool
  | .iv (.bs _) | .iv (.sl ..) | .sl .. | .row .. => true
  | _ => false
/-- Whether it is nil is known where it has elements. -/
def nilU (x : AV) (b : Bool) : AV := match x with
  | .iv (.bs l) => match l with
    | [] => .anyb
    | _ :: _ => .bool b
  | .iv (.sl _ n _) => match n with
    | 0 => .anyb
    | _ + 1 => .bool b
  | .row _ _ _ n => match n with
    | 0 => .anyb
    | _ + 1 => .bool b
  | .sl _ n _ => match n with
    | 0 => .anyb
    | _ + 1 => .bool b
  | _ => .anyb
def isNilS : AV → Bool
  | .iv (.v (.slice none _ _)) => true
  | _ => false
def TK.isSl : TK → Bool
  | .sl _ => true
  | _ => false
def pick1 : List AV → Option AV
  | x :: _ => some x
  | [] => none
/-- A part of cells, as a value of a type. -/
def partA (T : TT) (t : TypeId) (cs : List AV) (off : Nat) : Option AV :=
  match T.get t with
  | some d => bif d.isAgg then (bif Nat.ble (off + d.size) cs.length then some (.agg ((cs.drop off).take d.size)) else none) else pick1 (cs.drop off)
  | none => none
/-- Structs, field by field. -/
def aggCells : AV → Option (List AV)
  | .agg cs => some cs
  | .iv (.agg cs) => some (cs.map .iv)
  | .iv (.v (.agg vs)) => some (vs.toList.map fun x => .iv (.v x))
  | _ => none
def eqOne (T : TT) (t : Nat) (x y : AV) : Option Bool :=
  match T.get t with
  | some d => match d.k, x, y with
    | .int _, .iv (.v (.int k a)), .iv (.v (.int k' b)) => if k = k' then some (decide (a = b)) else none
    | .str, .iv (.str a), .iv (.str b) => some (decide (a = b))
    | .bool, .iv (.v (.bool a)), .iv (.v (.bool b)) => some (decide (a = b))
    | _, _, _ => none
  | none => none
def eqFs (T : TT) (xs ys : List AV) : List (Nat × Nat) → Option Bool
  | [] => some true
  | f :: fs => match partA T f.2 xs f.1, partA T f.2 ys f.1 with
    | some a, some b => match eqOne T f.2 a b, eqFs T xs ys fs with
      | some p, some q => some (p && q)
      | _, _ => none
    | _, _ => none
def bAgg (T : TT) (op : BinOp) (t : TypeId) (xs ys : List AV) : ROut :=
  match T.get t with
  | some d => match d.k with
    | .st fs => bif d.eq then
        match eqFs T xs ys fs with
        | some b => match op with
          | .eql => .one [] (.bool b)
          | .neq => .one [] (.bool (!b))
          | _ => .no
        | none => .no
      else .no
    | _ => .no
  | none => .no
def bNil (T : TT) (op : BinOp) (t : TypeId) (x y : AV) : ROut :=
  match T.get t, nilness x, nilness y with
  | some d, some a, some b =>
    bif d.k.hasNil x && d.k.hasNil y && (isNilC x || isNilC y) then
      match op with
      | .eql => .one [] (.bool (a && b))
      | .neq => .one [] (.bool (!(a && b)))
      | _ => .no
    else .no
  | some d, none, some _ => bif d.k.isSl && (isSlU x && isNilS y) then
      match op with
      | .eql => .one [] (nilU x false)
      | .neq => .one [] (nilU x true)
      | _ => .no
    else .no
  | _, _, _ => .no
def bop (T : TT) (wr : Bool) (op : BinOp) (t : TypeId) (x y : AV) : ROut :=
  match x, y with
  | .iv (.v (.int k a)), .iv (.v (.int k' b)) =>
    match op with
    | .shl => bShift .shl k a b
    | .shr => bShift .shr k a b
    | op => if k = k' then bInt wr op k a b else .no
  | .iv (.str a), .iv (.str b) => bStr op a b
  | .iv (.v (.bool a)), .iv (.v (.bool b)) => match T.get t with
    | some d => match d.k, op with
      | .bool, .eql => .one [] (.bool (decide (a = b)))
      | .bool, .neq => .one [] (.bool (decide (a ≠ b)))
      | _, _ => .no
    | none => .no
  | x, y => match aggCells x, aggCells y with
    | some xs, some ys => bAgg T op t xs ys
    | _, _ => bNil T op t x y
/-- Conversions into these are taken by their remainders. -/
def narrow : IntKind → Bool
  | .u8 | .u16 | .u32 => true
  | _ => false
def cvInt (wr : Bool) (k : IntKind) (n : Int) : ROut := bif narrow k then .one [] (.int k (wrK k n)) else arK wr k n
/-- What is read off a handle. -/
def AH.bytes (H : AH) : AV → Option (List UInt8)
  | .iv (.bs l) => some l
  | .iv (.v (.slice none 0 0)) => some []
  | .row h 1 off len => match H.get h with
    | some (.brow _ l) => some ((l.drop off).take len)
    | _ => none
  | _ => none
def AH.bytesOk (H : AH) : AV → List Cnd
  | .row h 1 off len => match H.get h with
    | some (.brow _ l) => [.nle (off + len) l.length]
    | _ => []
  | _ => []
def isU8 (T : TT) (ts : TD) : Bool :=
  match ts.k with
  | .sl e => match T.get e with
    | some te => match te.k with
      | .int .u8 => true
      | _ => false
    | none => false
  | _ => false
def copB (T : TT) (H : AH) (ts : TD) (x : AV) : ROut :=
  bif isU8 T ts then
    match H.bytes x with
    | some l => .one (H.bytesOk x) (.str l)
    | none => .no
  else .no
def cop (T : TT) (wr : Bool) (H : AH) (s d : TypeId) (x : AV) : ROut :=
  match T.get s, T.get d with
  | some ts, some td =>
    match td.k, x with
    | .int k, .iv (.v (.int _ n)) => cvInt wr k n
    | .str, .iv (.str l) => .one [] (.str l)
    | .str, x => copB T H ts x
    | _, _ => .no
  | _, _ => .no
/-- The cells of a value of more than one, or of one. -/
def AV.cells : AV → Option (List AV)
  | .agg cs => some cs
  | .iv (.agg cs) => some (cs.map .iv)
  | .iv (.v (.agg vs)) => some (vs.toList.map fun x => .iv (.v x))
  | .tup _ | .junk => none
  | .iv (.v (.tuple _)) => none
  | x => some [x]
def IV.one : IV → Bool
  | .v x => x.oneCell'
  | .agg _ => false
  | _ => true
def AV.one : AV → Bool
  | .iv x => x.one
  | .agg _ | .tup _ | .junk => false
  | _ => true
def oneOf (v : Option AV) : ROut := match v with | some x => .one [] x | none => .no
def fieldOf (T : TT) (t : TypeId) (f : Nat) : Option (Nat × Nat) :=
  match T.get t with
  | some d => match d.k with
    | .st fs => fs[f]?
    | _ => none
  | none => none
def fieldA (T : TT) (t : TypeId) (f : Nat) (x : AV) : ROut :=
  match fieldOf T t f with
  | some (off, ft) => match T.get ft with
    | some d => bif Nat.beq d.size 0 then .no else
      match x with
      | .ptr h o => .one [] (.ptr h (o + off))
      | .el h sz i fo => .one [] (.el h sz i (fo + off))
      | .iv (.pp cs) => .one [] (.iv (.pp (cs.drop off)))
      | .pp cs => .one [] (.pp (cs.drop off))
      | _ => .no
    | none => .no
  | none => .no
def elemOfT (T : TT) (t : TypeId) : Option (Nat × TD) :=
  match T.get t with
  | some d => match d.k with
    | .sl e => (T.get e).map fun d => (e, d)
    | _ => none
  | none => none
def indexA (T : TT) (t : TypeId) (x i : AV) : ROut :=
  match elemOfT T t, i with
  | some (_, d), .iv (.v (.int _ n)) =>
    match x with
    | .row h sz off len => bif Nat.beq sz d.size then .one [.le 0 n, .lt n len] (.el h sz (off + n.toNat) 0) else .no
    | .iv (.sl sz len f) => bif Nat.beq sz d.size then .one [.le 0 n, .lt n len] (.iv (.pp (f n.toNat))) else .no
    | .sl sz len f => bif Nat.beq sz d.size then .one [.le 0 n, .lt n len] (.pp (f n.toNat)) else .no
    | .iv (.bs l) => bif Nat.beq d.size 1 then .one [.le 0 n, .lt n l.length] (.iv (.pp [byteI (l.getD n.toNat 0)])) else .no
    | _ => .no
  | _, _ => .no
def indexV (T : TT) (t : TypeId) (x i : AV) : ROut :=
  match T.get t, x, i with
  | some d, .iv (.str l), .iv (.v (.int _ n)) => match d.k with
    | .str => .one [.le 0 n, .lt n l.length] (.int .u8 ((l.getD n.toNat 0).toNat : Int))
    | _ => .no
  | _, _, _ => .no
def optInt (g : Operand → AV) (d : Int) : Option Operand → Option Int
  | none => some d
  | some x => match g x with
    | .iv (.v (.int _ n)) => some n
    | _ => none
def sliceA (T : TT) (g : Operand → AV) (t : TypeId) (x : AV) (lo hi mx : Option Operand) : ROut :=
  match T.get t with
  | some d =>
    match d.k, x with
    | .str, .iv (.str l) => match optInt g 0 lo, optInt g l.length hi, mx with
      | some a, some b, none => .one [.le 0 a, .le a b, .le b l.length] (.str ((l.drop a.toNat).take (b.toNat - a.toNat)))
      | _, _, _ => .no
    | .sl e, x => match (T.get e).map (·.size) with
      | some s =>
        match x with
        | .row h sz off len => match optInt g 0 lo, optInt g len hi, optInt g len mx with
          | some a, some b, some c => bif Nat.beq sz s then .one [.le 0 a, .le a b, .le b c, .le c len] (.row h sz (off + a.toNat) (b.toNat - a.toNat)) else .no
          | _, _, _ => .no
        | .iv (.sl sz len f) => match optInt g 0 lo, optInt g len hi, optInt g len mx with
          | some a, some b, some c => bif Nat.beq sz s then .one [.le 0 a, .le a b, .le b c, .le c len] (.iv (.sl sz (b.toNat - a.toNat) (fun i => f (a.toNat + i)))) else .no
          | _, _, _ => .no
        | .sl sz len f => match optInt g 0 lo, optInt g len hi, optInt g len mx with
          | some a, some b, some c => bif Nat.beq sz s then .one [.le 0 a, .le a b, .le b c, .le c len] (.sl sz (b.toNat - a.toNat) (fun i => f (a.toNat + i))) else .no
          | _, _, _ => .no
        | .iv (.bs l) => match optInt g 0 lo, optInt g l.length hi, optInt g l.length mx with
          | some a, some b, some c => bif Nat.beq 1 s then .one [.le 0 a, .le a b, .le b c, .le c l.length] (.iv (.bs ((l.drop a.toNat).take (b.toNat - a.toNat)))) else .no
          | _, _, _ => .no
        | _ => .no
      | none => .no
    | _, _ => .no
  | none => .no
/-- Parts laid into cells. -/
def layA (cs : List AV) (off : Nat) : List AV → List AV
  | [] => cs
  | x :: xs => layA (cs.set off x) (off + 1) xs
def fillA (place : Nat → Option (Nat × Nat)) (cs : List AV) : List (Nat × AV) → Option (List AV)
  | [] => some cs
  | (i, v) :: rest => match place i, v.cells with
    | some (off, size), some vs => bif Nat.beq vs.length size && Nat.ble (off + vs.length) cs.length then fillA place (layA cs off vs) rest else none
    | _, _ => none
def zeroA (d : TD) : Option (List AV) :=
  match d.zero with
  | some z => some (z.cells.toList.map fun x => .iv (.v x))
  | none => none
def placesA (T : TT) : List (Nat × Nat) → Option (List (Nat × Nat))
  | [] => some []
  | f :: fs => match T.get f.2, placesA T fs with
    | some d, some r => some ((f.1, d.size) :: r)
    | _, _ => none
def buildA (T : TT) (t : TypeId) (parts : List (Nat × AV)) : ROut :=
  match T.get t with
  | some d => match d.k, zeroA d with
    | .st fs, some z => match placesA T fs with
      | some pl => match fillA (fun i => pl[i]?) z parts with
        | some cs => .one [] (.agg cs)
        | none => .no
      | none => .no
    | _, _ => .no
  | none => .no
def ptrCells (H : AH) : AV → Option (List Cnd × List AV)
  | .ptr h off => match H.get h with
    | some (.cells _ cs) => some ([], cs.drop off)
    | some (.icells cs) => some ([], (cs.drop off).map AV.iv)
    | _ => none
  | .el h sz i fo => match H.get h with
    | some (.rowc _ sz' n f) => bif Nat.beq sz sz' then some ([.nlt i n], ((f i).map AV.iv).drop fo) else none
    | some (.brow _ l) => bif Nat.beq sz 1 && Nat.beq fo 0 then some ([.nlt i l.length], [.iv (byteI (l.getD i 0))]) else none
    | _ => none
  | .iv (.pp cs) => some ([], cs.map AV.iv)
  | .pp cs => some ([], cs)
  | _ => none
def loadA (T : TT) (H : AH) (t : TypeId) (x : AV) : ROut :=
  match ptrCells H x with
  | some (c, cs) => match partA T t cs 0 with
    | some v => .one c v
    | none => .no
  | none => .no
def keyA : AV → Option MK
  | .iv (.str l) => some (.s l)
  | .iv (.v (.int k n)) => some (.i k n)
  | _ => none
def mfind {X : Type} (m : List (MK × X)) (k : MK) : Option X := (m.find? fun p => decide (p.1 = k)).map (·.2)
def TK.key : TK → Option (Option IntKind)
  | .str => some none
  | .int k => some (some k)
  | _ => none
def lookA (T : TT) (H : AH) (t : TypeId) (x k : AV) (ok : Bool) : ROut :=
  match T.get t with
  | some d => match d.k with
    | .mp kt et => match keyA k, (T.get kt).bind (·.k.key), (T.get et).bind (·.zero) with
      | some key, some kk, some z =>
        if key.kind = kk then
          match x with
          | .mp h => match H.get h with
            | some (.map kk' m) => if kk' = kk then (bif ok then .opt ((mfind m key).map AV.iv) (fun v => .tup [v, .bool true]) (.tup [.iv (.v z), .bool false]) else .opt ((mfind m key).map AV.iv) (fun v => v) (.iv (.v z))) else .no
            | some (.mapit kk' m _ _) => if kk' = kk then (bif ok then .opt ((mfind m key).map AV.iv) (fun v => .tup [v, .bool true]) (.tup [.iv (.v z), .bool false]) else .opt ((mfind m key).map AV.iv) (fun v => v) (.iv (.v z))) else .no
            | some (.maph kk' m) => if kk' = kk then (bif ok then .opt (mfind m key) (fun v => .tup [v, .bool true]) (.tup [.iv (.v z), .bool false]) else .opt (mfind m key) (fun v => v) (.iv (.v z))) else .no
            | _ => .no
          | .iv (.v (.map none)) => bif ok then .one [] (.tup [.iv (.v z), .bool false]) else .one [] (.iv (.v z))
          | _ => .no
        else .no
      | _, _, _ => .no
    | _ => .no
  | none => .no
def lenA (T : TT) (H : AH) (t : TypeId) (x : AV) : ROut :=
  match T.get t with
  | some d => match d.k, x with
    | .str, .iv (.str l) => .one [] (.int .i64 l.length)
    | .sl _, .iv (.bs l) => .one [] (.int .i64 l.length)
    | .sl _, .iv (.sl _ n _) => .one [] (.int .i64 n)
    | .sl _, .sl _ n _ => .one [] (.int .i64 n)
    | .sl _, .row _ _ _ n => .one [] (.int .i64 n)
    | .sl _, .iv (.v (.slice _ n _)) => .one [] (.int .i64 n)
    | .mp .., .mp h => match H.get h with
      | some (.map _ m) => .one [] (.int .i64 m.length)
      | some (.mapit _ m _ _) => .one [] (.int .i64 m.length)
      | some (.maph _ m) => .one [] (.int .i64 m.length)
      | _ => .no
    | .mp .., .iv (.v (.map none)) => .one [] (.int .i64 0)
    | _, _ => .no
  | none => .no
def minA : AV → AV → ROut
  | .iv (.v (.int k a)), .iv (.v (.int k' b)) => if k = k' then .one [] (.int k (min a b)) else .no
  | _, _ => .no
def maxA : AV → AV → ROut
  | .iv (.v (.int k a)), .iv (.v (.int k' b)) => if k = k' then .one [] (.int k (max a b)) else .no
  | _, _ => .no
def builtinA (T : TT) (g : Operand → AV) (H : AH) (b : Builtin) (ts : List TypeId) (args : List Operand) : ROut :=
  match b, ts, args with
  | .len, t :: _, x :: _ => lenA T H t (g x)
  | .min, _, [x, y] => minA (g x) (g y)
  | .max, _, [x, y] => maxA (g x) (g y)
  | _, _, _ => .no
def ifcA (T : TT) (t : TypeId) (x : AV) : ROut :=
  match T.get t with
  | some d => match d.k, x with
    | .ifc, _ => .no
    | _, .iv x => .one [] (.iv (.ifc t x))
    | _, x => .one [] (.ifc t x)
  | none => .no
def assertA (T : TT) (t : TypeId) (ok : Bool) (x : AV) : ROut :=
  match T.get t with
  | some d => match d.k with
    | .ifc => .no
    | _ =>
      match x with
      | .ifc u y => bif Nat.beq u t then (bif ok then .one [] (.tup [y, .bool true]) else .one [] y) else (bif ok then (match d.zero with | some z => .one [] (.tup [.iv (.v z), .bool false]) | none => .no) else .no)
      | .iv (.ifc u y) => bif Nat.beq u t then (bif ok then .one [] (.tup [.iv y, .bool true]) else .one [] (.iv y)) else (bif ok then (match d.zero with | some z => .one [] (.tup [.iv (.v z), .bool false]) | none => .no) else .no)
      | .iv (.v .nilIface) => bif ok then (match d.zero with | some z => .one [] (.tup [.iv (.v z), .bool false]) | none => .no) else .no
      | _ => .no
  | none => .no
def nilA (x : AV) : ROut :=
  match x with
  | .ptr .. | .el .. | .iv (.pp _) | .pp _ | .fnc (.func _) .. | .iv (.fnc (.func _) ..) | .iv (.v (.func (.func _) ..)) | .iv (.v (.pointer (some _))) => .one [] x
  | _ => .no
def AV.toIV : AV → Option IV
  | .iv x => some x
  | _ => none
def toIVs : List AV → Option (List IV)
  | [] => some []
  | x :: xs => match x.toIV, toIVs xs with
    | some y, some ys => some (y :: ys)
    | _, _ => none
/-- A value as data, also a struct of data. -/
def AV.toIV2 : AV → Option IV
  | .iv x => some x
  | .agg cs => (toIVs cs).map IV.agg
  | _ => none
def fncA (fn : Fn) (a c : List AV) : AV := match toIVs a, toIVs c with
  | some a, some c => .iv (.fnc fn a c)
  | _, _ => .fnc fn a c
def rop (T : TT) (wr : Bool) (g : Operand → AV) (H : AH) : Op → ROut
  | .move x | .assign x => .one [] (g x)
  | .pick c x y => match g c with
    | .iv (.v (.bool b)) => .one [] (bif b then g x else g y)
    | _ => .no
  | .nilCheck x => nilA (g x)
  | .unOp .not _ x => match g x with
    | .iv (.v (.bool b)) => .one [] (.bool (!b))
    | .anyb => .one [] .anyb
    | _ => .no
  | .unOp .neg _ x => match g x with
    | .iv (.v (.int k n)) => arK wr k (0 - n)
    | _ => .no
  | .unOp .xor _ x => match g x with
    | .iv (.v (.int k n)) => .one [] (.int k (bitK .xor k (if k.signed then -1 else k.max) n))
    | _ => .no
  | .binOp op t x y _ => bop T wr op t (g x) (g y)
  | .convert s d x => cop T wr H s d (g x)
  | .makeInterface t x => ifcA T t (g x)
  | .makeFunc fn f c => .one [] (fncA fn (f.toList.map g) (c.toList.map g))
  | .extract t i => match g t with
    | .tup l => oneOf l[i]?
    | _ => .no
  | .field t x f => match fieldOf T t f, (g x).cells with
    | some (off, ft), some cs => match g x with
      | .agg _ | .iv (.agg _) | .iv (.v (.agg _)) => oneOf (partA T ft cs off)
      | _ => .no
    | _, _ => .no
  | .fieldAddr t x f => fieldA T t f (g x)
  | .indexAddr t x i => indexA T t (g x) (g i)
  | .index t x i => indexV T t (g x) (g i)
  | .slice t x lo hi mx => bif mx.isSome && !hi.isSome then .no else sliceA T g t (g x) lo hi mx
  | .build t ps => buildA T t (ps.toList.map fun p => (p.1, g p.2))
  | .load t a => loadA T H t (g a)
  | .lookup t m k ok => lookA T H t (g m) (g k) ok
  | .typeAssert x _ t ok => assertA T t ok (g x)
  | .call c => match c.callee with
    | .builtin b => builtinA T g H b c.argTypes.toList c.args.toList
    | _ => .no
  | _ => .no
end Go.Proofs.Yteeifedpabcehaa.Bm

namespace Go.Proofs.Yteeifedpabcehaa.Bm
open Go.RowKit

def ROut.ok (ρ : Rho) (ι : Imm) (P : Program) (s : Sem Value) (w : World) : ROut → Prop
  | .no => True
  | .one cs v => ands cs True → ∃ u, s.run P w = .ok u w ∧ v.R ρ ι u
  | .opt o sf n => ∃ u, s.run P w = .ok u w ∧ ((∃ x, o = some x ∧ (sf x).R ρ ι u) ∨ (o = none ∧ n.R ρ ι u))
theorem ands_iff (cs : List Cnd) (q : Prop) : ands cs q ↔ ands cs True ∧ q := by
  induction cs with
  | nil => simp [ands_nil]
  | cons c cs ih =>
    simp only [ands_cons]
    rw [ih]
    exact ⟨fun h => ⟨⟨h.1, h.2.1⟩, h.2.2⟩, fun h => ⟨h.1.1, h.1.2, h.2⟩⟩
theorem ROut.use {ρ : Rho} {ι : Imm} {P : Program} {s : Sem Value} {w : World} {r : ROut} {K : AV → Prop} (h : r.ok ρ ι P s w) (hk : r.K K) : ∃ u x, s.run P w = .ok u w ∧ x.R ρ ι u ∧ K x := by
  cases r with
  | no => exact hk.elim
  | one cs v =>
    have hk' := (ands_iff cs (K v)).1 hk
    obtain ⟨u, h1, h2⟩ := h hk'.1
    exact ⟨u, v, h1, h2, hk'.2⟩
  | opt o sf n =>
    obtain ⟨u, h1, h2⟩ := h
    rcases h2 with ⟨x, e, hx⟩ | ⟨e, hx⟩
    · exact ⟨u, _, h1, hx, hk.1 x e⟩
    · exact ⟨u, _, h1, hx, hk.2 e⟩
section
variable {ρ : Rho} {ι : Imm} {P : Program} {w : World}
theorem toIVs_spec : ∀ (l : List AV) (r : List IV) (vs : List Value), toIVs l = some r → AV.Rs ρ ι l vs → IV.Rs ι r vs
  | [], r, vs, h, hr => by simp only [toIVs, Option.some.injEq] at h; subst h; simpa [AV.Rs, IV.Rs] using hr
  | x :: xs, r, vs, h, hr => by
    unfold toIVs at h
    split at h
    · rename_i y ys hy hys
      simp only [Option.some.injEq] at h
      subst h
      simp only [AV.Rs] at hr
      obtain ⟨u, us, rfl, r1, r2⟩ := hr
      simp only [IV.Rs]
      refine ⟨u, us, rfl, ?_, toIVs_spec xs ys us hys r2⟩
      cases x <;> simp only [AV.toIV] at hy <;> cases hy
      simpa [AV.R] using r1
    · cases h
theorem toIV2_spec {x : AV} {y : IV} {v : Value} (h : x.toIV2 = some y) (hx : x.R ρ ι v) : y.R ι v := by
  unfold AV.toIV2 at h
  split at h
  · injection h with h; subst h; simpa only [AV.R] using hx
  · obtain ⟨l, hl, rfl⟩ := Option.map_eq_some_iff.1 h
    simp only [AV.R] at hx
    obtain ⟨vs, e, r⟩ := hx
    simp only [IV.R]
    exact ⟨vs, e, toIVs_spec _ _ _ hl r⟩
  · cases h
theorem wrK_eq (k : IntKind) (n : Int) : wrK k n = k.wrap n := by cases k <;> simp [wrK, IntKind.wrap, IntKind.signed, IntKind.bits]
theorem inK_wrap {k : IntKind} {n : Int} (h : ands (inK k n) True) : k.wrap n = n := by
  cases k <;> simp only [inK, ands_cons, ands_nil, Cnd.P] at h
  · exact IntWalk.i8_in n ⟨h.1, h.2.1⟩
  · exact IntWalk.i16_in n ⟨h.1, h.2.1⟩
  · exact IntWalk.i32_in n ⟨h.1, h.2.1⟩
  · exact IntWalk.i64_in n ⟨h.1, h.2.1⟩
  · exact IntWalk.u8_in n ⟨h.1, h.2.1⟩
  · exact IntWalk.u16_in n ⟨h.1, h.2.1⟩
  · exact IntWalk.u32_in n ⟨h.1, h.2.1⟩
  · exact IntWalk.u64_in n ⟨h.1, h.2.1⟩
theorem beq_dec {α : Type} [BEq α] [LawfulBEq α] [DecidableEq α] (a b : α) : (a == b) = decide (a = b) := by rw [Bool.eq_iff_iff]; simp
theorem R_v (x : Value) : (AV.iv (.v x)).R ρ ι x := by simp [AV.R, IV.R]
theorem arK_ok (wr : Bool) (k : IntKind) (n : Int) {s : Sem Value} (h : s.run P w = .ok (.int k (k.wrap n)) w) : (arK wr k n).ok ρ ι P s w := by
  unfold arK
  cases wr with
  | true => exact fun _ => ⟨_, h, by rw [← wrK_eq]; exact R_v _⟩
  | false => exact fun hc => ⟨_, h, by rw [inK_wrap hc]; exact R_v _⟩
theorem bInt_ok (wr : Bool) (op : BinOp) (k : IntKind) (a b : Int) (t : TypeId) (h1 : op ≠ .shl) (h2 : op ≠ .shr) : (bInt wr op k a b).ok ρ ι P (binOp op t (.int k a) (.int k b)) w := by
  cases op <;> simp only [bInt]
  case add => exact arK_ok _ _ _ (by simp [binOp, Op.intArith])
  case sub => exact arK_ok _ _ _ (by simp [binOp, Op.intArith])
  case mul => exact arK_ok _ _ _ (by simp [binOp, Op.intArith])
  case quo =>
    intro hc
    obtain ⟨c1, c2, c3⟩ := hc
    refine ⟨_, ?_, R_v _⟩
    have hb : b ≠ 0 := by omega
    simp [binOp, Op.intDiv, hb, Int.tdiv_eq_ediv_of_nonneg c1, inK_wrap c3]
  case rem =>
    intro hc
    obtain ⟨c1, c2, _⟩ := hc
    refine ⟨_, ?_, R_v _⟩
    have hb : b ≠ 0 := by omega
    simp [binOp, Op.intDiv, hb, Int.tmod_eq_emod_of_nonneg c1]
  case and => exact fun _ => ⟨_, by simp [binOp, Op.intBits, bitK], R_v _⟩
  case or => exact fun _ => ⟨_, by simp [binOp, Op.intBits, bitK], R_v _⟩
  case xor => exact fun _ => ⟨_, by simp [binOp, Op.intBits, bitK], R_v _⟩
  case andNot => exact fun _ => ⟨_, by simp [binOp, Op.intBits, bitK], R_v _⟩
  case eql => exact fun _ => ⟨_, by simp [binOp, Op.intCmp, beq_dec], R_v _⟩
  case neq => exact fun _ => ⟨_, by simp [binOp, Op.intCmp, bne, beq_dec], R_v _⟩
  case lss => exact fun _ => ⟨_, by simp [binOp, Op.intCmp], R_v _⟩
  case leq => exact fun _ => ⟨_, by simp [binOp, Op.intCmp], R_v _⟩
  case gtr => exact fun _ => ⟨_, by simp [binOp, Op.intCmp], R_v _⟩
  case geq => exact fun _ => ⟨_, by simp [binOp, Op.intCmp], R_v _⟩
  case shl => exact absurd rfl h1
  case shr => exact absurd rfl h2
theorem bShift_ok (op : BinOp) (k k' : IntKind) (a b : Int) (t : TypeId) : (bShift op k a b).ok ρ ι P (binOp op t (.int k a) (.int k' b)) w := by
  cases op <;> simp only [bShift] <;> try exact trivial
  case shl =>
    intro hc
    obtain ⟨c1, _⟩ := hc
    refine ⟨_, ?_, R_v _⟩
    have hb : ¬ b < 0 := by omega
    simp [binOp, Op.shift, hb, wrK_eq]
  case shr =>
    intro hc
    obtain ⟨c1, _⟩ := hc
    refine ⟨_, ?_, R_v _⟩
    have hb : ¬ b < 0 := by omega
    simp only [binOp, Op.shift, hb, if_false, Sem.run_pure]
    rw [Int.fdiv_eq_ediv_of_nonneg _ (Int.pow_nonneg (by decide))]
theorem data_toList (l : List UInt8) : (⟨l.toArray⟩ : ByteArray).toList = l := by
  simp
theorem bStr_ok (op : BinOp) (a b : List UInt8) (t : TypeId) : (bStr op a b).ok ρ ι P (binOp op t (.string ⟨a.toArray⟩) (.string ⟨b.toArray⟩)) w := by
  have ha := data_toList a
  have hb := data_toList b
  cases op <;> simp only [bStr] <;> try exact trivial
  case add =>
    intro hc
    obtain ⟨c1, _⟩ := hc
    refine ⟨.string ⟨(a ++ b).toArray⟩, ?_, by simp [AV.R, IV.R]⟩
    have h1 : ¬ ((((⟨a.toArray⟩ : ByteArray).size + (⟨b.toArray⟩ : ByteArray).size : Nat) : Int) > IntKind.i64.max) := by
      have e : IntKind.i64.max = 9223372036854775807 := by decide
      have e1 : (⟨a.toArray⟩ : ByteArray).size = a.length := by simp [ByteArray.size]
      have e2 : (⟨b.toArray⟩ : ByteArray).size = b.length := by simp [ByteArray.size]
      rw [e, e1, e2]; omega
    have h2 : (⟨a.toArray⟩ ++ ⟨b.toArray⟩ : ByteArray) = ⟨(a ++ b).toArray⟩ := by
      apply ByteArray.ext
      simp
    simp only [binOp, Op.stringOp, if_neg h1, Sem.run_pure, h2]
  all_goals exact fun _ => ⟨_, by simp [binOp, Op.stringOp, ha, hb, beq_dec], R_v _⟩

/-! Types. -/
theorem td {T : TT} (hT : TOk P T) {t : Nat} {d : TD} (e : T.get t = some d) : ∃ u i, P.underlying t = some u ∧ P.info? t = some i ∧ d = ⟨TK.of u, i.size, i.bytes, i.zero, eqB P t⟩ := mkTD_spec (hT.get e)
theorem TK.of_sl {u : TypeDesc} {e : Nat} (h : TK.of u = .sl e) : u = .slice e := by cases u <;> simp_all [TK.of]
theorem TK.of_str {u : TypeDesc} (h : TK.of u = .str) : u = .string := by cases u <;> simp_all [TK.of]
theorem TK.of_bool {u : TypeDesc} (h : TK.of u = .bool) : u = .bool := by cases u <;> simp_all [TK.of]
theorem TK.of_int {u : TypeDesc} {k : IntKind} (h : TK.of u = .int k) : u = .int k := by cases u <;> simp_all [TK.of]
theorem TK.of_mp {u : TypeDesc} {k e : Nat} (h : TK.of u = .mp k e) : u = .map k e := by cases u <;> simp_all [TK.of]
theorem TK.of_ptr {u : TypeDesc} {e : Nat} (h : TK.of u = .ptr e) : u = .pointer e := by cases u <;> simp_all [TK.of]
theorem TK.of_st {u : TypeDesc} {fs : List (Nat × Nat)} (h : TK.of u = .st fs) : ∃ f : Array Field, u = .struct f ∧ fs = f.toList.map fun f => (f.offset, f.type) := by cases u <;> simp_all [TK.of]
theorem TK.of_ifc {u : TypeDesc} (h : TK.of u = .ifc) : ∃ ms, u = .interface ms := by cases u <;> simp_all [TK.of]
theorem td_sl {T : TT} (hT : TOk P T) {t e : Nat} {d : TD} (h : T.get t = some d) (hk : d.k = .sl e) : P.underlying t = some (.slice e) := by
  obtain ⟨u, i, h1, _, rfl⟩ := td hT h
  rw [h1, TK.of_sl hk]
theorem td_str {T : TT} (hT : TOk P T) {t : Nat} {d : TD} (h : T.get t = some d) (hk : d.k = .str) : P.underlying t = some .string := by
  obtain ⟨u, i, h1, _, rfl⟩ := td hT h
  rw [h1, TK.of_str hk]
theorem td_bool {T : TT} (hT : TOk P T) {t : Nat} {d : TD} (h : T.get t = some d) (hk : d.k = .bool) : P.underlying t = some .bool := by
  obtain ⟨u, i, h1, _, rfl⟩ := td hT h
  rw [h1, TK.of_bool hk]
theorem td_int {T : TT} (hT : TOk P T) {t : Nat} {k : IntKind} {d : TD} (h : T.get t = some d) (hk : d.k = .int k) : P.underlying t = some (.int k) := by
  obtain ⟨u, i, h1, _, rfl⟩ := td hT h
  rw [h1, TK.of_int hk]
theorem td_mp {T : TT} (hT : TOk P T) {t k e : Nat} {d : TD} (h : T.get t = some d) (hk : d.k = .mp k e) : P.underlying t = some (.map k e) := by
  obtain ⟨u, i, h1, _, rfl⟩ := td hT h
  rw [h1, TK.of_mp hk]
theorem td_ptr {T : TT} (hT : TOk P T) {t e : Nat} {d : TD} (h : T.get t = some d) (hk : d.k = .ptr e) : P.underlying t = some (.pointer e) := by
  obtain ⟨u, i, h1, _, rfl⟩ := td hT h
  rw [h1, TK.of_ptr hk]
theorem td_info {T : TT} (hT : TOk P T) {t : Nat} {d : TD} (h : T.get t = some d) : ∃ i, P.info? t = some i ∧ i.size = d.size ∧ i.bytes = d.bytes ∧ i.zero = d.zero := by
  obtain ⟨u, i, _, h1, rfl⟩ := td hT h
  exact ⟨i, h1, rfl, rfl, rfl⟩
theorem run_sizeOf' {T : TT} (hT : TOk P T) {t : Nat} {d : TD} (h : T.get t = some d) (w : World) : (sizeOf t).run P w = .ok d.size w := by
  obtain ⟨i, h1, h2, _⟩ := td_info hT h
  simp [sizeOf, typeInfo, h1, h2]
theorem run_isAgg' {T : TT} (hT : TOk P T) {t : Nat} {d : TD} (h : T.get t = some d) (w : World) : (isAgg t).run P w = .ok d.isAgg w := by
  obtain ⟨u, i, h1, _, rfl⟩ := td hT h
  cases u <;> simp [isAgg, run_underlying h1, TD.isAgg, TK.of]
theorem run_zero' {T : TT} (hT : TOk P T) {t : Nat} {d : TD} {z : Value} (h : T.get t = some d) (hz : d.zero = some z) (w : World) : (zeroValue t).run P w = .ok z w := by
  obtain ⟨i, h1, _, _, h2⟩ := td_info hT h
  simp [zeroValue, typeInfo, h1, h2, hz]

/-! Comparisons with nil; booleans. -/
theorem nil_R {x : AV} {v : Value} (h : isNilC x = true) (hx : x.R ρ ι v) : v = .pointer none ∨ (∃ n c, v = .slice none n c) ∨ v = .map none := by
  unfold isNilC at h
  split at h <;> simp_all [AV.R, IV.R]
theorem ptr_R {x : AV} {v : Value} {e : Nat} {a : Bool} (h : TK.hasNil (.ptr e) x = true) (hn : nilness x = some a) (hx : x.R ρ ι v) : ∃ p, v = .pointer p ∧ p.isNone = a := by
  unfold TK.hasNil at h
  split at h <;> first | (simp at h; done) | skip
  all_goals try (rename_i h0; cases h0; done)
  all_goals simp only [nilness, Option.some.injEq] at hn
  all_goals subst hn
  all_goals simp only [AV.R, IV.R] at hx
  all_goals (first | (obtain ⟨_, _, _, _, h⟩ := hx; exact ⟨_, h, rfl⟩) | (obtain ⟨_, _, h, _⟩ := hx; exact ⟨_, h, rfl⟩) | (exact ⟨_, hx, rfl⟩) | (obtain ⟨_, h, _⟩ := hx; cases h; done))
theorem map_R {x : AV} {v : Value} {k e : Nat} {a : Bool} (h : TK.hasNil (.mp k e) x = true) (hn : nilness x = some a) (hx : x.R ρ ι v) : ∃ p, v = .map p ∧ p.isNone = a := by
  unfold TK.hasNil at h
  split at h <;> simp_all [AV.R, IV.R, nilness]
  all_goals (first | (subst hn; exact ⟨_, rfl, rfl⟩) | (obtain ⟨_, _, _, _, h⟩ := hx; exact ⟨_, h, rfl⟩))
theorem sl_R {x : AV} {v : Value} {e : Nat} {a : Bool} (h : TK.hasNil (.sl e) x = true) (hn : nilness x = some a) (hx : x.R ρ ι v) : a = true ∧ ∃ n c, v = .slice none n c := by
  unfold TK.hasNil at h
  split at h <;> simp_all [AV.R, IV.R, nilness]
theorem eqIn_bool (d : Nat) {t : TypeId} (hu : P.underlying t = some .bool) (a b : Bool) : (Op.equalIn (d + 1) t (.bool a) (.bool b)).run P w = .ok (a == b) w := by simp [Op.equalIn, run_underlying hu]
theorem eqIn_ptr1 (d : Nat) {t e : TypeId} (hu : P.underlying t = some (.pointer e)) (b : Option Addr) : (Op.equalIn (d + 1) t (.pointer none) (.pointer b)).run P w = .ok b.isNone w := by simp [Op.equalIn, run_underlying hu]
theorem eqIn_ptr2 (d : Nat) {t e : TypeId} (hu : P.underlying t = some (.pointer e)) (a : Addr) : (Op.equalIn (d + 1) t (.pointer (some a)) (.pointer none)).run P w = .ok false w := by simp [Op.equalIn, run_underlying hu]
theorem eqIn_map1 (d : Nat) {t k e : TypeId} (hu : P.underlying t = some (.map k e)) (b : Option Nat) : (Op.equalIn (d + 1) t (.map none) (.map b)).run P w = .ok b.isNone w := by simp [Op.equalIn, run_underlying hu]
theorem eqIn_map2 (d : Nat) {t k e : TypeId} (hu : P.underlying t = some (.map k e)) (a : Nat) : (Op.equalIn (d + 1) t (.map (some a)) (.map none)).run P w = .ok false w := by simp [Op.equalIn, run_underlying hu]
theorem eqIn_sl (d : Nat) {t e : TypeId} (hu : P.underlying t = some (.slice e)) (n c n' c' : Nat) : (Op.equalIn (d + 1) t (.slice none n c) (.slice none n' c')).run P w = .ok true w := by simp [Op.equalIn, run_underlying hu]
theorem eqIn_slA (d : Nat) {t e : TypeId} (hu : P.underlying t = some (.slice e)) (A : Option Addr) (n c n' c' : Nat) : (Op.equalIn (d + 1) t (.slice A n c) (.slice none n' c')).run P w = .ok A.isNone w := by cases A <;> simp [Op.equalIn, run_underlying hu]
theorem equal_in (t : TypeId) (x y : Value) : Op.equal t x y = Op.equalIn (9999 + 1) t x y := rfl
theorem eql_bin (t : TypeId) (x y : Value) (b : Bool) (h : (Op.equal t x y).run P w = .ok b w) (hb : binOp .eql t x y = (do pure (.bool (← Op.equal t x y)))) : (binOp .eql t x y).run P w = .ok (.bool b) w := by
  rw [hb, Sem.run_bind, h]; rfl
theorem neq_bin (t : TypeId) (x y : Value) (b : Bool) (h : (Op.equal t x y).run P w = .ok b w) (hb : binOp .neq t x y = (do pure (.bool (!(← Op.equal t x y))))) : (binOp .neq t x y).run P w = .ok (.bool !b) w := by
  rw [hb, Sem.run_bind, h]; rfl
theorem run_seq (s : Sem Unit) (r : Sem Value) (h : s.run P w = .ok () w) : (do s; r).run P w = r.run P w := by
  rw [Sem.run_bind, h]; rfl
theorem bNil_ok {T : TT} (hT : TOk P T) (op : BinOp) (t : TypeId) (x y : AV) {a b : Value} (hx : x.R ρ ι a) (hy : y.R ρ ι b) (px py : Operand) :
    (bNil T op t x y).ok ρ ι P (do eqGuard op t px py a b; binOp op t a b) w := by
  unfold bNil
  split
  · rename_i d ax ay hd hnx hny
    by_cases hc : (d.k.hasNil x && d.k.hasNil y && (isNilC x || isNilC y)) = true
    · rw [hc]
      simp only [cond_true]
      simp only [Bool.and_eq_true] at hc
      obtain ⟨⟨c1, c2⟩, c3⟩ := hc
      have key : (eqGuard op t px py a b).run P w = .ok () w ∧ (Op.equal t a b).run P w = .ok (ax && ay) w ∧ (op = .eql → (binOp op t a b) = (do pure (.bool (← Op.equal t a b)))) ∧ (op = .neq → (binOp op t a b) = (do pure (.bool (!(← Op.equal t a b))))) := by
        cases hk : d.k with
        | ptr e =>
          rw [hk] at c1 c2
          obtain ⟨p, rfl, rfl⟩ := ptr_R c1 hnx hx
          obtain ⟨q, rfl, rfl⟩ := ptr_R c2 hny hy
          have hu := td_ptr hT hd hk
          refine ⟨by cases op <;> simp [eqGuard], ?_, fun e => by subst e; rfl, fun e => by subst e; rfl⟩
          cases p with
          | none => rw [equal_in, eqIn_ptr1 _ hu]; simp
          | some p =>
            cases q with
            | none => rw [equal_in, eqIn_ptr2 _ hu]; simp
            | some q =>
              exfalso
              rcases Bool.or_eq_true _ _ ▸ c3 with h | h
              · rcases nil_R h hx with h | ⟨_, _, h⟩ | h <;> cases h
              · rcases nil_R h hy with h | ⟨_, _, h⟩ | h <;> cases h
        | mp k e =>
          rw [hk] at c1 c2
          obtain ⟨p, rfl, rfl⟩ := map_R c1 hnx hx
          obtain ⟨q, rfl, rfl⟩ := map_R c2 hny hy
          have hu := td_mp hT hd hk
          refine ⟨by cases op <;> simp [eqGuard], ?_, fun e => by subst e; rfl, fun e => by subst e; rfl⟩
          cases p with
          | none => rw [equal_in, eqIn_map1 _ hu]; simp
          | some p =>
            cases q with
            | none => rw [equal_in, eqIn_map2 _ hu]; simp
            | some q =>
              exfalso
              rcases Bool.or_eq_true _ _ ▸ c3 with h | h
              · rcases nil_R h hx with h | ⟨_, _, h⟩ | h <;> cases h
              · rcases nil_R h hy with h | ⟨_, _, h⟩ | h <;> cases h
        | sl e =>
          rw [hk] at c1 c2
          obtain ⟨rfl, n, c, rfl⟩ := sl_R c1 hnx hx
          obtain ⟨rfl, n', c', rfl⟩ := sl_R c2 hny hy
          have hu := td_sl hT hd hk
          exact ⟨by cases op <;> simp [eqGuard], by rw [equal_in, eqIn_sl _ hu]; simp, fun e => by subst e; rfl, fun e => by subst e; rfl⟩
        | ifc =>
          exfalso
          rw [hk] at c1 c2
          rcases Bool.or_eq_true _ _ ▸ c3 with h | h
          · unfold isNilC at h; split at h <;> simp_all [TK.hasNil]
          · unfold isNilC at h; split at h <;> simp_all [TK.hasNil]
        | _ => rw [hk] at c1; simp [TK.hasNil] at c1
      obtain ⟨k1, k2, k3, k4⟩ := key
      cases op <;> try exact trivial
      · exact fun _ => ⟨_, (run_seq _ _ k1).trans (eql_bin t a b _ k2 (k3 rfl)), R_v _⟩
      · exact fun _ => ⟨_, (run_seq _ _ k1).trans (neq_bin t a b _ k2 (k4 rfl)), R_v _⟩
    · rw [Bool.eq_false_iff.2 hc]; exact trivial
  · rename_i d _ hd _ _
    by_cases hc : (d.k.isSl && (isSlU x && isNilS y)) = true
    · rw [hc]
      simp only [cond_true]
      simp only [Bool.and_eq_true] at hc
      obtain ⟨c1, c2, c3⟩ := hc
      cases hk : d.k with
      | sl e =>
        have hu := td_sl hT hd hk
        obtain ⟨A, n, c, rfl, hU⟩ : ∃ A n c, a = .slice A n c ∧ ∀ z : Bool, (nilU x z).R ρ ι (.bool (bif z then !A.isNone else A.isNone)) := by
          have ab : ∀ z : Bool, AV.anyb.R ρ ι (.bool z) := fun z => by simp only [AV.R]; exact ⟨z, rfl⟩
          have sm : ∀ (ad : Addr) (z : Bool), (AV.bool z).R ρ ι (.bool (bif z then !(some ad).isNone else (some ad).isNone)) := fun ad z => by cases z <;> simp [AV.R, IV.R]
          unfold isSlU at c2
          split at c2
          · rename_i l _
            simp only [AV.R, IV.R] at hx
            obtain ⟨A, c, e, _, _, h4⟩ := hx
            refine ⟨A, _, c, e, fun z => ?_⟩
            cases l with
            | nil => exact ab _
            | cons y ys =>
              obtain ⟨ad, rfl, _⟩ := h4 0 (by simp)
              exact sm ad z
          · rename_i sz n f _
            simp only [AV.R, IV.R] at hx
            obtain ⟨A, c, e, _, _, h4⟩ := hx
            refine ⟨A, _, c, e, fun z => ?_⟩
            cases n with
            | zero => exact ab _
            | succ n =>
              obtain ⟨ad, _, rfl, _⟩ := h4 0 (by omega)
              exact sm ad z
          · rename_i sz n f _
            simp only [AV.R] at hx
            obtain ⟨A, c, e, _, _, h4⟩ := hx
            refine ⟨A, _, c, e, fun z => ?_⟩
            cases n with
            | zero => exact ab _
            | succ n =>
              obtain ⟨ad, _, rfl, _⟩ := h4 0 (by omega)
              exact sm ad z
          · rename_i h sz off n _
            simp only [AV.R] at hx
            obtain ⟨A, c, e, h2, h3, h4⟩ := hx
            refine ⟨A, _, c, e, fun z => ?_⟩
            cases n with
            | zero => exact ab _
            | succ n =>
              obtain ⟨_, _, _, _, rfl, _⟩ := h4 (by omega)
              exact sm _ z
          · cases c2
        obtain ⟨n', c', rfl⟩ : ∃ n c, b = .slice none n c := by
          unfold isNilS at c3
          split at c3
          · simp only [AV.R, IV.R] at hy; exact ⟨_, _, hy⟩
          · cases c3
        have key : (eqGuard op t px py (.slice A n c) (.slice none n' c')).run P w = .ok () w ∧ (Op.equal t (.slice A n c) (.slice none n' c')).run P w = .ok A.isNone w ∧ (op = .eql → (binOp op t (.slice A n c) (.slice none n' c')) = (do pure (.bool (← Op.equal t (.slice A n c) (.slice none n' c'))))) ∧ (op = .neq → (binOp op t (.slice A n c) (.slice none n' c')) = (do pure (.bool (!(← Op.equal t (.slice A n c) (.slice none n' c')))))) := by
          refine ⟨by cases op <;> simp [eqGuard], ?_, fun e => by subst e; rfl, fun e => by subst e; rfl⟩
          rw [equal_in, eqIn_slA _ hu]
        obtain ⟨k1, k2, k3, k4⟩ := key
        cases op <;> try exact trivial
        · exact fun _ => ⟨_, (run_seq _ _ k1).trans (eql_bin t _ _ _ k2 (k3 rfl)), hU false⟩
        · exact fun _ => ⟨_, (run_seq _ _ k1).trans (neq_bin t _ _ _ k2 (k4 rfl)), hU true⟩
      | _ => rw [hk] at c1; simp [TK.isSl] at c1
    · rw [Bool.eq_false_iff.2 hc]; exact trivial
  · exact trivial
theorem Rs_iv (cs : List IV) : ∀ vs : List Value, AV.Rs ρ ι (cs.map AV.iv) vs ↔ IV.Rs ι cs vs := by
  induction cs with
  | nil => intro vs; simp [AV.Rs, IV.Rs]
  | cons c cs ih => intro vs; simp only [List.map_cons, AV.Rs, IV.Rs, ih, AV.R]
theorem Rs_dropA (cs : List AV) : ∀ (n : Nat) (vs : List Value), AV.Rs ρ ι cs vs → AV.Rs ρ ι (cs.drop n) (vs.drop n) := by
  induction cs with
  | nil => intro n vs h; simp only [AV.Rs] at h; subst h; simp [AV.Rs]
  | cons c cs ih =>
    intro n vs h
    simp only [AV.Rs] at h
    obtain ⟨u, us, rfl, r, rs⟩ := h
    cases n with
    | zero => simp only [List.drop_zero, AV.Rs]; exact ⟨u, us, rfl, r, rs⟩
    | succ n => simpa using ih n us rs
theorem Rs_takeA (cs : List AV) : ∀ (n : Nat) (vs : List Value), AV.Rs ρ ι cs vs → AV.Rs ρ ι (cs.take n) (vs.take n) := by
  induction cs with
  | nil => intro n vs h; simp only [AV.Rs] at h; subst h; simp [AV.Rs]
  | cons c cs ih =>
    intro n vs h
    simp only [AV.Rs] at h
    obtain ⟨u, us, rfl, r, rs⟩ := h
    cases n with
    | zero => simp [AV.Rs]
    | succ n =>
      simp only [List.take_succ_cons, AV.Rs]
      exact ⟨u, _, rfl, r, ih n us rs⟩
theorem Rs_lenA (cs : List AV) : ∀ (vs : List Value), AV.Rs ρ ι cs vs → vs.length = cs.length := by
  induction cs with
  | nil => intro vs h; simp only [AV.Rs] at h; subst h; rfl
  | cons c cs ih =>
    intro vs h
    simp only [AV.Rs] at h
    obtain ⟨u, us, rfl, r, rs⟩ := h
    simp [ih us rs]
theorem Rs_getA (cs : List AV) : ∀ (vs : List Value) (i : Nat) (x : AV), AV.Rs ρ ι cs vs → cs[i]? = some x → ∃ u, vs[i]? = some u ∧ x.R ρ ι u := by
  induction cs with
  | nil => intro vs i x h hx; simp at hx
  | cons c cs ih =>
    intro vs i x h hx
    simp only [AV.Rs] at h
    obtain ⟨u, us, rfl, r, rs⟩ := h
    cases i with
    | zero => simp only [List.getElem?_cons_zero, Option.some.injEq] at hx; subst hx; exact ⟨u, by simp, r⟩
    | succ i => simpa using ih us i x rs (by simpa using hx)
theorem part_run {T : TT} (hT : TOk P T) {t : Nat} {cs : List AV} {vs : List Value} {off : Nat} {x : AV} (hr : AV.Rs ρ ι cs vs) (hx : partA T t cs off = some x) : ∃ u, (part t vs.toArray off).run P w = .ok u w ∧ x.R ρ ι u := by
  unfold partA at hx
  split at hx
  · rename_i d hd
    have ha := run_isAgg' hT hd w
    have hz := run_sizeOf' hT hd w
    cases hag : d.isAgg with
    | true =>
      rw [hag] at hx ha
      simp only [cond_true] at hx
      cases hb : Nat.ble (off + d.size) cs.length with
      | false => rw [hb] at hx; cases hx
      | true =>
        rw [hb] at hx
        simp only [cond_true, Option.some.injEq] at hx
        subst hx
        have e : vs.toArray.extract off (off + d.size) = ((vs.drop off).take d.size).toArray := by
          apply Array.ext'
          simp [List.extract_eq_take_drop]
        refine ⟨.agg ((vs.drop off).take d.size).toArray, by simp [part, ha, hz], ?_⟩
        simp only [AV.R]
        exact ⟨_, rfl, Rs_takeA _ _ _ (Rs_dropA _ _ _ hr)⟩
    | false =>
      rw [hag] at hx ha
      simp only [cond_false] at hx
      cases hcs : cs.drop off with
      | nil => rw [hcs] at hx; cases hx
      | cons c cs' =>
        rw [hcs] at hx
        simp only [pick1, Option.some.injEq] at hx
        subst hx
        have h1 := Rs_dropA cs off vs hr
        rw [hcs] at h1
        simp only [AV.Rs] at h1
        obtain ⟨u, us, e, r, _⟩ := h1
        have e2 : vs[off]? = some u := by
          have : (vs.drop off)[0]? = some u := by rw [e]; rfl
          rwa [List.getElem?_drop, Nat.add_zero] at this
        exact ⟨u, by simp [part, ha, e2], r⟩
  · cases hx
/-! Structs. -/
theorem aggCells_spec {x : AV} {xs : List AV} {u : Value} (h : aggCells x = some xs) (hx : x.R ρ ι u) : ∃ vs, u = .agg vs.toArray ∧ AV.Rs ρ ι xs vs := by
  unfold aggCells at h
  split at h
  · injection h with h; subst h; simpa only [AV.R] using hx
  · injection h with h; subst h
    simp only [AV.R, IV.R] at hx
    obtain ⟨vs, e, r⟩ := hx
    exact ⟨vs, e, (Rs_iv _ _).2 r⟩
  · rename_i vs
    injection h with h; subst h
    simp only [AV.R, IV.R] at hx
    refine ⟨vs.toList, by simpa using hx, ?_⟩
    generalize vs.toList = l
    induction l with
    | nil => simp [AV.Rs]
    | cons c cs ih => simp only [List.map_cons, AV.Rs, AV.R, IV.R]; exact ⟨c, cs, rfl, rfl, ih⟩
  · cases h
theorem eqOne_run {T : TT} (hT : TOk P T) (d : Nat) {t : Nat} {x y : AV} {a b : Value} {r : Bool} (hx : x.R ρ ι a) (hy : y.R ρ ι b) (h : eqOne T t x y = some r) : (Op.equalIn (d + 1) t a b).run P w = .ok r w := by
  unfold eqOne at h
  split at h
  · rename_i td' hd
    split at h
    · rename_i k0 k p k' q hk
      split at h
      · rename_i he
        subst he
        injection h with h
        simp only [AV.R, IV.R] at hx hy
        subst hx hy h
        rw [run_equalIn_int _ _ _ _ _ _ _ (td_int hT hd hk), beq_dec]
      · cases h
    · rename_i p q hk
      injection h with h
      simp only [AV.R, IV.R] at hx hy
      subst hx hy h
      rw [run_equalIn_string _ _ _ _ _ (td_str hT hd hk), data_toList, data_toList, beq_dec]
    · rename_i p q hk
      injection h with h
      simp only [AV.R, IV.R] at hx hy
      subst hx hy h
      rw [run_equalIn_bool' _ _ _ _ _ (td_bool hT hd hk), beq_dec]
    · cases h
  · cases h
theorem eqFs_run {T : TT} (hT : TOk P T) (d : Nat) {xs ys : List AV} {as bs : List Value} (hx : AV.Rs ρ ι xs as) (hy : AV.Rs ρ ι ys bs) :
    ∀ (fs : List Field) (r : Bool), fs.all (fun f => !(f.name == "_")) = true → eqFs T xs ys (fs.map fun f => (f.offset, f.type)) = some r → (Op.eqFields (d + 1) as.toArray bs.toArray fs).run P w = .ok r w
  | [], r, _, h => by simp only [List.map_nil, eqFs, Option.some.injEq] at h; subst h; rfl
  | f :: fs, r, hn, h => by
    simp only [List.all_cons, Bool.and_eq_true, Bool.not_eq_true', beq_eq_false_iff_ne] at hn
    simp only [List.map_cons, eqFs] at h
    split at h
    · rename_i a b ha hb
      split at h
      · rename_i p q hp hq
        injection h with h
        subst h
        obtain ⟨u, e1, r1⟩ := part_run (P := P) (w := w) hT hx ha
        obtain ⟨v, e2, r2⟩ := part_run (P := P) (w := w) hT hy hb
        simp only [Op.eqFields]
        rw [if_pos hn.1]
        have e3 := eqOne_run (P := P) (w := w) hT d r1 r2 hp
        simp only [Sem.run_bind]
        rw [e1]
        simp only [Result.andThen_ok]
        rw [e2]
        simp only [Result.andThen_ok]
        rw [e3]
        simp only [Result.andThen_ok]
        cases p with
        | false => simp
        | true =>
          simp only [Bool.not_true, Bool.false_eq_true, if_false, Bool.true_and]
          exact eqFs_run hT d hx hy fs q hn.2 hq
      · cases h
    · cases h
theorem bAgg_ok {T : TT} (hT : TOk P T) (op : BinOp) (t : TypeId) {xs ys : List AV} {as bs : List Value} (hx : AV.Rs ρ ι xs as) (hy : AV.Rs ρ ι ys bs) (px py : Operand) :
    (bAgg T op t xs ys).ok ρ ι P (do eqGuard op t px py (.agg as.toArray) (.agg bs.toArray); binOp op t (.agg as.toArray) (.agg bs.toArray)) w := by
  unfold bAgg
  split
  · rename_i d hd
    split
    · rename_i fs hk
      cases he : d.eq with
      | false => exact trivial
      | true =>
        simp only [cond_true]
        split
        · rename_i r hr
          obtain ⟨u, i, h1, _, h3⟩ := td hT hd
          have h4 : eqB P t = true := by rw [← he, h3]
          have h5 : TK.of u = .st fs := by rw [← hk, h3]
          obtain ⟨fa, rfl, rfl⟩ := TK.of_st h5
          unfold eqB at h4
          rw [h1] at h4
          simp only [Bool.and_eq_true, Bool.not_eq_true'] at h4
          obtain ⟨⟨g1, g2⟩, g3⟩ := h4
          have hf : P.fieldsOf t = fa := by simp only [Program.fieldsOf, h1]
          have key : (Op.equalIn 10000 t (.agg as.toArray) (.agg bs.toArray)).run P w = .ok r w := by
            rw [run_equalIn_agg w 9999 t _ _ (by rw [hf]; exact h1) g2, hf]
            exact eqFs_run hT 9998 hx hy _ r g3 hr
          cases op <;> try exact trivial
          · refine fun _ => ⟨_, (run_seq _ _ (run_eqGuard_agg w _ _ _ _ _ _ g1)).trans ?_, R_v _⟩
            rw [run_eql_struct, key]; rfl
          · refine fun _ => ⟨_, (run_seq _ _ (run_eqGuard_agg w _ _ _ _ _ _ g1)).trans ?_, R_v _⟩
            rw [run_neq_struct, key]; rfl
        · exact trivial
    · exact trivial
  · exact trivial
theorem bop_ok {T : TT} (hT : TOk P T) (wr : Bool) (op : BinOp) (t : TypeId) (x y : AV) {a b : Value} (hx : x.R ρ ι a) (hy : y.R ρ ι b) (px py : Operand) :
    (bop T wr op t x y).ok ρ ι P (do eqGuard op t px py a b; binOp op t a b) w := by
  unfold bop
  split
  · rename_i k n k' m
    simp only [AV.R, IV.R] at hx hy
    subst hx hy
    have hg : (eqGuard op t px py (.int k n) (.int k' m)).run P w = .ok () w := by cases op <;> simp [eqGuard]
    have pass : ∀ r : ROut, r.ok ρ ι P (binOp op t (.int k n) (.int k' m)) w → r.ok ρ ι P (do eqGuard op t px py (.int k n) (.int k' m); binOp op t (.int k n) (.int k' m)) w := by
      intro r hr
      cases r <;> first | exact trivial | simpa [ROut.ok, Sem.run_bind, hg] using hr
    split
    · exact pass _ (bShift_ok ..)
    · exact pass _ (bShift_ok ..)
    · rename_i h1 h2
      split
      · rename_i hk; subst hk; exact pass _ (bInt_ok wr op k n m t (fun e => h1 e) (fun e => h2 e))
      · exact trivial
  · rename_i l m
    simp only [AV.R, IV.R] at hx hy
    subst hx hy
    have hg : (eqGuard op t px py (.string ⟨l.toArray⟩) (.string ⟨m.toArray⟩)).run P w = .ok () w := by cases op <;> simp [eqGuard]
    have hr := bStr_ok (ρ := ρ) (ι := ι) (P := P) (w := w) op l m t
    generalize bStr op l m = r at hr ⊢
    cases r <;> first | exact trivial | simpa [ROut.ok, Sem.run_bind, hg] using hr
  · rename_i p q
    simp only [AV.R, IV.R] at hx hy
    subst hx hy
    split
    · rename_i d hd
      split
      · rename_i hk
        have hu := td_bool hT hd hk
        exact fun _ => ⟨_, (run_seq _ _ (by simp [eqGuard])).trans (eql_bin t _ _ _ (by rw [equal_in, eqIn_bool _ hu, beq_dec]) rfl), R_v _⟩
      · rename_i hk
        have hu := td_bool hT hd hk
        refine fun _ => ⟨_, (run_seq _ _ (by simp [eqGuard])).trans (neq_bin t _ _ _ (by rw [equal_in, eqIn_bool _ hu, beq_dec]) rfl), ?_⟩
        simp [AV.R, IV.R]
      · exact trivial
    · exact trivial
  · split
    · rename_i xs ys h1 h2
      obtain ⟨as, rfl, ra⟩ := aggCells_spec h1 hx
      obtain ⟨bs, rfl, rb⟩ := aggCells_spec h2 hy
      exact bAgg_ok hT op t ra rb px py
    · exact bNil_ok hT op t x y hx hy px py
end
end Go.Proofs.Yteeifedpabcehaa.Bm

namespace Go.Proofs.Yteeifedpabcehaa.Bm
open Go.RowKit

section
variable {ρ : Rho} {ι : Imm} {P : Program} {w : World} {T : TT} {H : AH}
theorem add_none (b o n : Nat) : (⟨b, o, none⟩ : Addr).add n = ⟨b, o + n, none⟩ := by
  unfold Addr.add
  by_cases h : n = 0
  · subst h; rfl
  · rw [if_neg h]
theorem addr_none {ad : Addr} (h : ad.spot = none) : ad = ⟨ad.block, ad.off, none⟩ := by cases ad; simp at h; subst h; rfl
theorem add_none' {ad : Addr} (h : ad.spot = none) (n : Nat) : ad.add n = ⟨ad.block, ad.off + n, none⟩ := by
  rw [addr_none h, add_none]
theorem heap_cell {b o : Nat} {arr : Array Value} {e : TypeId} {fr : Nat × Nat} (h : w.heap[b]? = some (.cells arr e fr)) : w.cell? ⟨b, o, none⟩ = arr[o]? := by simp [World.cell?, h]
/-- Bytes as they lie in memory. -/
def BytesAt (w : World) (A : Option Addr) (l : List UInt8) : Prop := ∀ k, k < l.length → ∃ ad, A = some ad ∧ ad.spot = none ∧ w.cell? ⟨ad.block, ad.off + k, none⟩ = some (.int .u8 ((l.getD k 0).toNat : Int))
theorem bytes_read (hS : SR ρ ι H w) {x : AV} {v : Value} {l : List UInt8} (hx : x.R ρ ι v) (hl : H.bytes x = some l) (hc : ands (H.bytesOk x) True) : ∃ A c, v = .slice A l.length c ∧ l.length ≤ c ∧ c ≤ maxLen ∧ BytesAt w A l := by
  unfold AH.bytes at hl
  split at hl
  · injection hl with hl
    subst hl
    simp only [AV.R, IV.R] at hx
    obtain ⟨A, c, h1, h2, h3, h4⟩ := hx
    exact ⟨A, c, h1, h2, h3, fun k hk => let ⟨ad, e, s, r⟩ := h4 k hk; ⟨ad, e, s, hS.imm _ _ _ r⟩⟩
  · injection hl with hl
    subst hl
    simp only [AV.R, IV.R] at hx
    exact ⟨none, 0, hx, Nat.le_refl _, Nat.zero_le _, fun k hk => absurd hk (Nat.not_lt_zero k)⟩
  · rename_i h off len
    split at hl
    · rename_i e l0 hg
      injection hl with hl
      have hok : off + len ≤ l0.length := by
        unfold AH.bytesOk at hc
        simp only [hg, ands_cons, ands_nil, Cnd.P] at hc
        exact hc.1
      have hlen : l.length = len := by rw [← hl, List.length_take, List.length_drop]; omega
      simp only [AV.R] at hx
      obtain ⟨A, c, h1, h2, h3, h4⟩ := hx
      rw [hlen]
      refine ⟨A, c, h1, h2, h3, fun k hk => ?_⟩
      rw [hlen] at hk
      obtain ⟨hv, b, g1, g2, g3, g4⟩ := h4 (by omega)
      obtain ⟨hv', g5, g6⟩ := hS.hv hg
      rw [g1] at g5
      injection g5 with g5
      subst g5
      rcases g6 with ⟨g6, _⟩ | ⟨b', arr, fr, q1, q2, q3, q4, q5, q6, q7⟩
      · rw [g2] at g6; cases g6
      · rw [g2] at q1
        injection q1 with q1
        subst q1
        refine ⟨_, g3, rfl, ?_⟩
        rw [heap_cell q3]
        have := q7 (off + k) (by omega)
        rw [← hl]
        simp only [Nat.mul_one]
        rw [this]
        simp [List.getD, hk, List.getElem?_drop]
    · cases hl
  · cases hl
theorem foldl_push' (l : List UInt8) : ∀ s : ByteArray, (l.map fun c => (c.toNat : Int)).foldl (fun r n => r.push (UInt8.ofNat n.toNat)) s = ⟨s.data ++ l.toArray⟩ := by
  induction l with
  | nil => intro s; simp
  | cons c l ih =>
    intro s
    simp only [List.map_cons, List.foldl_cons, ih]
    simp [ByteArray.push]
theorem conv_bytes {src dst e : TypeId} (hs : P.underlying src = some (.slice e)) (he : P.underlying e = some (.int .u8)) (hd : P.underlying dst = some .string) (A : Option Addr) (l : List UInt8) (c : Nat) (h : BytesAt w A l) :
    (convert src dst (.slice A l.length c)).run P w = .ok (.string ⟨l.toArray⟩) w := by
  rw [run_convert_bytes_string w src dst e A l.length c hs he hd]
  cases A with
  | none =>
    have : l = [] := by
      cases l with
      | nil => rfl
      | cons c l =>
        obtain ⟨_, he, _⟩ := h 0 (by simp)
        cases he
    subst this
    rfl
  | some a =>
    have h2 := run_bytesToString (P := P) w a l.length c (l.map fun c => (c.toNat : Int)) (by
      have h3 := run_loadCells_list (P := P) (w := w) a (l.map fun c => Value.int .u8 (c.toNat : Int)) (by
        intro j v hj
        rw [List.getElem?_map] at hj
        cases hl : l[j]? with
        | none => rw [hl] at hj; cases hj
        | some x =>
          rw [hl] at hj
          simp only [Option.map_some, Option.some.injEq] at hj
          have hk : j < l.length := by
            rcases Nat.lt_or_ge j l.length with h' | h'
            · exact h'
            · rw [List.getElem?_eq_none h'] at hl; cases hl
          obtain ⟨ad, e1, s1, hc⟩ := h j hk
          injection e1 with e1
          subst e1
          rw [add_none' s1, hc, ← hj]
          simp [List.getD, hl])
      rw [List.length_map] at h3
      rw [h3, List.map_map]
      rfl)
    rw [h2, foldl_push']
    simp
theorem cvInt_ok (wr : Bool) (k k0 : IntKind) (n : Int) {s d : TypeId} {us : TypeDesc} (hs : P.underlying s = some us) (hd : P.underlying d = some (.int k)) : (cvInt wr k n).ok ρ ι P (convert s d (.int k0 n)) w := by
  have hr : (convert s d (.int k0 n)).run P w = .ok (.int k (k.wrap n)) w := by
    simp [convert, run_underlying hs, run_underlying hd, Conv.intToInt]
  unfold cvInt
  cases narrow k with
  | true => exact fun _ => ⟨_, hr, by rw [← wrK_eq]; exact R_v _⟩
  | false => exact arK_ok _ _ _ hr
theorem isU8_spec (hT : TOk P T) {s : Nat} {ts : TD} (hs : T.get s = some ts) (h : isU8 T ts = true) : ∃ e, P.underlying s = some (.slice e) ∧ P.underlying e = some (.int .u8) := by
  unfold isU8 at h
  split at h
  · rename_i e hk
    split at h
    · rename_i te hte
      split at h
      · rename_i hki
        exact ⟨e, td_sl hT hs hk, td_int hT hte hki⟩
      · cases h
    · cases h
  · cases h
theorem cop_ok (hT : TOk P T) (hS : SR ρ ι H w) (wr : Bool) (s d : TypeId) (x : AV) {v : Value} (hx : x.R ρ ι v) : (cop T wr H s d x).ok ρ ι P (convert s d v) w := by
  unfold cop
  split
  · rename_i ts td hs hd
    obtain ⟨us, _, hus, _, _⟩ := Bm.td hT hs
    split
    · rename_i k _ n hk
      simp only [AV.R, IV.R] at hx
      subst hx
      exact cvInt_ok wr k _ n hus (td_int hT hd hk)
    · rename_i l hk
      simp only [AV.R, IV.R] at hx
      subst hx
      exact fun _ => ⟨.string ⟨l.toArray⟩, by cases us <;> simp [convert, run_underlying hus, run_underlying (td_str hT hd hk)], by simp [AV.R, IV.R]⟩
    · rename_i hk _
      unfold copB
      cases hu : isU8 T ts with
      | false => exact trivial
      | true =>
        simp only [cond_true]
        split
        · rename_i l hl
          intro hc
          obtain ⟨A, c, rfl, _, _, h4⟩ := bytes_read hS hx hl hc
          obtain ⟨e, h1, h2⟩ := isU8_spec hT hs hu
          exact ⟨_, conv_bytes h1 h2 (td_str hT hd hk) A l c h4, by simp [AV.R, IV.R]⟩
        · exact trivial
    · exact trivial
  · exact trivial
theorem fieldOf_spec (hT : TOk P T) {t f off ft : Nat} (h : fieldOf T t f = some (off, ft)) : ∃ (fs : Array Field) (fld : Field), P.underlying t = some (.struct fs) ∧ fs[f]? = some fld ∧ fld.offset = off ∧ fld.type = ft := by
  unfold fieldOf at h
  split at h
  · rename_i d hd
    split at h
    · rename_i fs hk
      obtain ⟨u, i, h1, _, rfl⟩ := td hT hd
      obtain ⟨arr, rfl, rfl⟩ := TK.of_st hk
      rw [List.getElem?_map] at h
      cases hf : arr[f]? with
      | none => rw [Array.getElem?_toList, hf] at h; cases h
      | some fld =>
        rw [Array.getElem?_toList, hf] at h
        simp only [Option.map_some, Option.some.injEq, Prod.mk.injEq] at h
        exact ⟨arr, fld, h1, hf, h.1, h.2⟩
    · cases h
  · cases h
theorem run_fieldAt (hT : TOk P T) {t f off ft : Nat} {d : TD} (h : fieldOf T t f = some (off, ft)) (hd : T.get ft = some d) (hz : d.size ≠ 0) (a : Addr) : (Instr.fieldAt t (.pointer (some a)) f).run P w = .ok (.pointer (some (a.add off))) w := by
  obtain ⟨fs, fld, h1, h2, rfl, rfl⟩ := fieldOf_spec hT h
  have h3 := run_sizeOf' hT hd w
  simp [Instr.fieldAt, run_underlying h1, h2, Instr.sureAddr, fieldPlace, h3, hz]
theorem Rs_drop (cs : List IV) : ∀ (n : Nat) (vs : List Value), IV.Rs ι cs vs → IV.Rs ι (cs.drop n) (vs.drop n) := by
  induction cs with
  | nil => intro n vs h; simp only [IV.Rs] at h; subst h; simp [IV.Rs]
  | cons c cs ih =>
    intro n vs h
    simp only [IV.Rs] at h
    obtain ⟨u, us, rfl, r, rs⟩ := h
    cases n with
    | zero => simp only [List.drop_zero, IV.Rs]; exact ⟨u, us, rfl, r, rs⟩
    | succ n => simpa using ih n us rs
theorem fieldA_ok (hT : TOk P T) (t f : Nat) (x : AV) {v : Value} (hx : x.R ρ ι v) : (fieldA T t f x).ok ρ ι P (Instr.fieldAt t v f) w := by
  unfold fieldA
  split
  · rename_i off ft hf
    split
    · rename_i d hd
      cases hz : Nat.beq d.size 0 with
      | true => exact trivial
      | false =>
        have hz' : d.size ≠ 0 := fun e => by rw [e] at hz; simp at hz
        simp only [cond_false]
        split
        · simp only [AV.R] at hx
          obtain ⟨hv, b, h1, h2, rfl⟩ := hx
          refine fun _ => ⟨_, run_fieldAt hT hf hd hz' _, ?_⟩
          rw [add_none]
          simp only [AV.R]
          exact ⟨hv, b, h1, h2, rfl⟩
        · simp only [AV.R] at hx
          obtain ⟨hv, b, h1, h2, rfl⟩ := hx
          refine fun _ => ⟨_, run_fieldAt hT hf hd hz' _, ?_⟩
          rw [add_none]
          simp only [AV.R]
          exact ⟨hv, b, h1, h2, by rw [Nat.add_assoc]⟩
        · simp only [AV.R, IV.R] at hx
          obtain ⟨ad, vs, rfl, hs, hr, hc⟩ := hx
          refine fun _ => ⟨_, run_fieldAt hT hf hd hz' _, ?_⟩
          rw [add_none' hs]
          simp only [AV.R, IV.R]
          refine ⟨_, vs.drop off, rfl, rfl, Rs_drop _ _ _ hr, fun j u hu => ?_⟩
          rw [List.getElem?_drop] at hu
          have := hc (off + j) u hu
          rwa [← Nat.add_assoc] at this
        · simp only [AV.R] at hx
          obtain ⟨ad, vs, rfl, hs, hr, hc⟩ := hx
          refine fun _ => ⟨_, run_fieldAt hT hf hd hz' _, ?_⟩
          rw [add_none' hs]
          simp only [AV.R]
          refine ⟨_, vs.drop off, rfl, rfl, Rs_dropA _ _ _ hr, fun j u hu => ?_⟩
          rw [List.getElem?_drop] at hu
          have := hc (off + j) u hu
          rwa [← Nat.add_assoc] at this
        · exact trivial
    · exact trivial
  · exact trivial
theorem elemOfT_spec (hT : TOk P T) {t e : Nat} {d : TD} (h : elemOfT T t = some (e, d)) : P.underlying t = some (.slice e) ∧ T.get e = some d := by
  unfold elemOfT at h
  split at h
  · rename_i d0 h0
    split at h
    · rename_i e' hk
      cases he : T.get e' with
      | none => rw [he] at h; cases h
      | some d' =>
        rw [he] at h
        simp only [Option.map_some, Option.some.injEq, Prod.mk.injEq] at h
        obtain ⟨rfl, rfl⟩ := h
        exact ⟨td_sl hT h0 hk, he⟩
    · cases h
  · cases h
theorem run_indexAt (hT : TOk P T) {t e : Nat} {d : TD} (h : elemOfT T t = some (e, d)) (k : IntKind) (n : Int) (a : Addr) (len c : Nat) (h0 : 0 ≤ n) (h1 : n < len) : (Instr.indexAt t (.slice (some a) len c) (.int k n)).run P w = .ok (.pointer (some (a.add (n.toNat * d.size)))) w := by
  obtain ⟨h2, h3⟩ := elemOfT_spec hT h
  have h4 := run_sizeOf' hT h3 w
  simp [Instr.indexAt, asIntOf, run_underlying h2, h0, h1, h4]
theorem indexA_ok (hT : TOk P T) (t : Nat) (x i : AV) {v u : Value} (hx : x.R ρ ι v) (hi : i.R ρ ι u) : (indexA T t x i).ok ρ ι P (Instr.indexAt t v u) w := by
  unfold indexA
  split
  · rename_i e d k n he
    simp only [AV.R, IV.R] at hi
    subst hi
    split
    · rename_i h sz off len
      cases hb : Nat.beq sz d.size with
      | false => exact trivial
      | true =>
        have hsz := Nat.eq_of_beq_eq_true hb
        simp only [cond_true]
        rintro ⟨c0, c1, _⟩
        simp only [AV.R] at hx
        obtain ⟨A, c, rfl, h2, h3, h4⟩ := hx
        obtain ⟨hv, b, g1, g2, rfl, g4⟩ := h4 (by omega)
        refine ⟨_, run_indexAt hT he k n _ _ _ c0 c1, ?_⟩
        rw [add_none]
        simp only [AV.R]
        exact ⟨hv, b, g1, g2, by rw [← hsz, Nat.add_mul]; rfl⟩
    · rename_i sz len f
      cases hb : Nat.beq sz d.size with
      | false => exact trivial
      | true =>
        have hsz := Nat.eq_of_beq_eq_true hb
        simp only [cond_true]
        rintro ⟨c0, c1, _⟩
        simp only [AV.R, IV.R] at hx
        obtain ⟨A, c, rfl, h2, h3, h4⟩ := hx
        obtain ⟨ad, vs, rfl, s, r, l, g⟩ := h4 n.toNat (by omega)
        refine ⟨_, run_indexAt hT he k n _ _ _ c0 c1, ?_⟩
        rw [add_none' s]
        simp only [AV.R, IV.R]
        exact ⟨_, vs, rfl, rfl, r, fun j u hu => by rw [← hsz]; exact g j u hu⟩
    · rename_i sz len f
      cases hb : Nat.beq sz d.size with
      | false => exact trivial
      | true =>
        have hsz := Nat.eq_of_beq_eq_true hb
        simp only [cond_true]
        rintro ⟨c0, c1, _⟩
        simp only [AV.R] at hx
        obtain ⟨A, c, rfl, h2, h3, h4⟩ := hx
        obtain ⟨ad, vs, rfl, s, r, l, g⟩ := h4 n.toNat (by omega)
        refine ⟨_, run_indexAt hT he k n _ _ _ c0 c1, ?_⟩
        rw [add_none' s]
        simp only [AV.R]
        exact ⟨_, vs, rfl, rfl, r, fun j u hu => by rw [← hsz]; exact g j u hu⟩
    · rename_i l
      cases hb : Nat.beq d.size 1 with
      | false => exact trivial
      | true =>
        have hsz := Nat.eq_of_beq_eq_true hb
        simp only [cond_true]
        rintro ⟨c0, c1, _⟩
        simp only [AV.R, IV.R] at hx
        obtain ⟨A, c, rfl, h2, h3, h4⟩ := hx
        obtain ⟨ad, rfl, s, r⟩ := h4 n.toNat (by omega)
        refine ⟨_, run_indexAt hT he k n _ _ _ c0 c1, ?_⟩
        rw [add_none' s, hsz, Nat.mul_one]
        simp only [AV.R, IV.R, IV.Rs, byteI]
        refine ⟨_, [_], rfl, rfl, ⟨_, [], rfl, rfl, rfl⟩, fun j u hu => ?_⟩
        cases j with
        | zero => simp at hu; subst hu; simpa using r
        | succ j => simp at hu
    · exact trivial
  · exact trivial
theorem indexV_ok (hT : TOk P T) (t : Nat) (x i : AV) {v u : Value} (hx : x.R ρ ι v) (hi : i.R ρ ι u) : (indexV T t x i).ok ρ ι P (Instr.index t v u) w := by
  unfold indexV
  split
  · rename_i d l k n hd
    simp only [AV.R, IV.R] at hx hi
    subst hx hi
    split
    · rename_i hk
      rintro ⟨c0, c1, _⟩
      refine ⟨.int .u8 ((l.getD n.toNat 0).toNat : Int), ?_, R_v _⟩
      have hlt : n.toNat < l.length := by omega
      have e1 : (⟨l.toArray⟩ : ByteArray)[n.toNat]? = some (l.getD n.toNat 0) := by
        have : (⟨l.toArray⟩ : ByteArray)[n.toNat]? = l[n.toNat]? := by
          have hsz : (⟨l.toArray⟩ : ByteArray).size = l.length := by simp [ByteArray.size]
          rw [getElem?_pos (⟨l.toArray⟩ : ByteArray) n.toNat (by rw [hsz]; exact hlt), List.getElem?_eq_getElem hlt]
          rfl
        rw [this]
        simp [List.getD, hlt]
      simp [Instr.index, asIntOf, run_underlying (td_str hT hd hk), c0, e1]
    · exact trivial
  · exact trivial
end
end Go.Proofs.Yteeifedpabcehaa.Bm

namespace Go.Proofs.Yteeifedpabcehaa.Bm
open Go.RowKit

section
variable {ρ : Rho} {ι : Imm} {P : Program} {w : World} {T : TT} {H : AH}
theorem run_bound (k : IntKind) (n : Int) (y : Nat) (code : BoundsCode) (h0 : 0 ≤ n) (h1 : n ≤ y) : (Instr.sliceBound (.int k n) y code).run P w = .ok n.toNat w := by
  simp [Instr.sliceBound, asIntOf, h0, h1]
theorem optInt_spec {g : Operand → AV} {ev : Operand → Value} (hg : ∀ x, (g x).R ρ ι (ev x)) {d a : Int} {o : Option Operand} (h : optInt g d o = some a) : (o = none ∧ a = d) ∨ ∃ x k, o = some x ∧ ev x = .int k a := by
  cases o with
  | none => simp only [optInt, Option.some.injEq] at h; exact .inl ⟨rfl, h.symm⟩
  | some x =>
    simp only [optInt] at h
    split at h
    · rename_i k n hx
      injection h with h
      subst h
      have := hg x
      rw [hx] at this
      simp only [AV.R, IV.R] at this
      exact .inr ⟨x, k, rfl, this⟩
    · cases h
theorem run_bounds {g : Operand → AV} {ev : Operand → Value} (hg : ∀ x, (g x).R ρ ι (ev x)) (isS : Bool) (len cap : Nat) {lo hi mx : Option Operand} {a b : Int} {c : Int} (ha : optInt g 0 lo = some a) (hb : optInt g len hi = some b) (hc : optInt g len mx = some c)
    (h0 : 0 ≤ a) (h1 : a ≤ b) (h2 : b ≤ c) (h3 : c ≤ len) (hcap : len ≤ cap) (hm : mx.isSome = true → hi.isSome = true) :
    ∃ m, (Instr.sliceBounds isS len cap (lo.map ev) (hi.map ev) (mx.map ev)).run P w = .ok (a.toNat, b.toNat, m) w ∧ b.toNat ≤ m ∧ m ≤ cap := by
  have bound : ∀ (k : IntKind) (n : Int) (y : Nat) (code : BoundsCode), 0 ≤ n → n ≤ y → (Instr.sliceBound (.int k n) y code).run P w = .ok n.toNat w := fun k n y code => run_bound k n y code
  rcases optInt_spec hg ha with ⟨rfl, ea⟩ | ⟨xa, ka, rfl, ea⟩ <;> rcases optInt_spec hg hb with ⟨rfl, eb⟩ | ⟨xb, kb, rfl, eb⟩ <;> rcases optInt_spec hg hc with ⟨rfl, ec⟩ | ⟨xc, kc, rfl, ec⟩
  · refine ⟨cap, ?_, by omega, Nat.le_refl _⟩
    subst ea eb
    simp [Instr.sliceBounds]
  · exact absurd (hm rfl) (by simp)
  · refine ⟨cap, ?_, by omega, Nat.le_refl _⟩
    subst ea
    have e1 := fun code => bound kb b cap code (by omega) (by omega)
    simp [Instr.sliceBounds, eb, e1]
  · refine ⟨c.toNat, ?_, by omega, by omega⟩
    subst ea
    have e1 := fun code => bound kb b c.toNat code (by omega) (by omega)
    have e2 := fun code => bound kc c cap code (by omega) (by omega)
    simp [Instr.sliceBounds, eb, ec, e1, e2]
  · refine ⟨cap, ?_, by omega, Nat.le_refl _⟩
    have e3 := fun code => bound ka a len code (by omega) (by omega)
    have : b.toNat = len := by omega
    simp [Instr.sliceBounds, ea, e3, this]
  · exact absurd (hm rfl) (by simp)
  · refine ⟨cap, ?_, by omega, Nat.le_refl _⟩
    have e1 := fun code => bound kb b cap code (by omega) (by omega)
    have e3 := fun code => bound ka a b.toNat code (by omega) (by omega)
    simp [Instr.sliceBounds, ea, eb, e1, e3]
  · refine ⟨c.toNat, ?_, by omega, by omega⟩
    have e1 := fun code => bound kb b c.toNat code (by omega) (by omega)
    have e2 := fun code => bound kc c cap code (by omega) (by omega)
    have e3 := fun code => bound ka a b.toNat code (by omega) (by omega)
    simp [Instr.sliceBounds, ea, eb, ec, e1, e2, e3]
theorem run_slice_sl (hT : TOk P T) {t e : Nat} {d de : TD} (hd : T.get t = some d) (hk : d.k = .sl e) (he : T.get e = some de) (A : Option Addr) (len cap : Nat) (lo hi mx : Option Value) (l h m : Nat)
    (hb : (Instr.sliceBounds true len cap lo hi mx).run P w = .ok (l, h, m) w) :
    (Instr.sliceAt t (.slice A len cap) lo hi mx).run P w = .ok (.slice (if m = l then A else A.map (·.add (l * de.size))) (h - l) (m - l)) w := by
  have h1 := td_sl hT hd hk
  have h2 := run_sizeOf' hT he w
  simp [Instr.sliceAt, run_underlying h1, Instr.slice, hb, h2]
theorem sliceA_ok (hT : TOk P T) {g : Operand → AV} {ev : Operand → Value} (hg : ∀ x, (g x).R ρ ι (ev x)) (t : Nat) (x : AV) (lo hi mx : Option Operand) {v : Value} (hx : x.R ρ ι v) (hm : mx.isSome = true → hi.isSome = true) :
    (sliceA T g t x lo hi mx).ok ρ ι P (Instr.sliceAt t v (lo.map ev) (hi.map ev) (mx.map ev)) w := by
  unfold sliceA
  split
  · rename_i d hd
    split
    · rename_i l hk
      simp only [AV.R, IV.R] at hx
      subst hx
      split
      · rename_i a b ha hb
        rintro ⟨c0, c1, c2, _⟩
        have hsz : (⟨l.toArray⟩ : ByteArray).size = l.length := by simp [ByteArray.size]
        obtain ⟨m, hr, _⟩ := run_bounds (P := P) (w := w) hg false l.length l.length ha hb (mx := none) rfl c0 c1 c2 (Int.le_refl _) (Nat.le_refl _) (fun h => by cases h)
        simp only [Option.map_none] at hr
        refine ⟨.string ⟨((l.drop a.toNat).take (b.toNat - a.toNat)).toArray⟩, ?_, by simp [AV.R, IV.R]⟩
        have e : (⟨l.toArray⟩ : ByteArray).extract a.toNat b.toNat = ⟨((l.drop a.toNat).take (b.toNat - a.toNat)).toArray⟩ := by
          apply ByteArray.ext
          apply Array.ext'
          rw [ByteArray.data_extract]
          simp [List.extract_eq_take_drop]
        simp [Instr.sliceAt, run_underlying (td_str hT hd hk), Instr.slice, hsz, hr, e]
      · exact trivial
    · rename_i e y _ hk
      split
      · rename_i s hs
        obtain ⟨de, hde, rfl⟩ := Option.map_eq_some_iff.1 hs
        split
        · rename_i h sz off len
          split
          · rename_i a b c ha hb hc
            cases hbq : Nat.beq sz de.size with
            | false => exact trivial
            | true =>
              have hsz := Nat.eq_of_beq_eq_true hbq
              simp only [cond_true]
              rintro ⟨c0, c1, c2, c3, _⟩
              simp only [AV.R] at hx
              obtain ⟨A, cap, rfl, h2, h3, h4⟩ := hx
              obtain ⟨m, hr, hm1, hm2⟩ := run_bounds (P := P) (w := w) hg true len cap ha hb hc c0 c1 c2 c3 h2 hm
              refine ⟨_, run_slice_sl hT hd hk hde A len cap _ _ _ _ _ _ hr, ?_⟩
              simp only [AV.R]
              refine ⟨_, m - a.toNat, rfl, by omega, by omega, fun hne => ?_⟩
              have hc0 : cap ≠ 0 := fun e => hne (Nat.sub_eq_zero_of_le (Nat.le_trans (Nat.le_trans hm2 (Nat.le_of_eq e)) (Nat.zero_le _)))
              obtain ⟨hv, b', g1, g2, rfl, g4⟩ := h4 hc0
              refine ⟨hv, b', g1, g2, ?_, ?_⟩
              · have hma : ¬ m = a.toNat := fun e => hne (by rw [e]; exact Nat.sub_self _)
                rw [if_neg hma]
                simp only [Option.map_some, add_none]
                rw [← hsz, Nat.add_mul]
              · refine Nat.le_trans (Nat.mul_le_mul_right _ ?_) g4
                omega
          · exact trivial
        · rename_i sz len f
          split
          · rename_i a b c ha hb hc
            cases hbq : Nat.beq sz de.size with
            | false => exact trivial
            | true =>
              have hsz := Nat.eq_of_beq_eq_true hbq
              simp only [cond_true]
              rintro ⟨c0, c1, c2, c3, _⟩
              simp only [AV.R, IV.R] at hx
              obtain ⟨A, cap, rfl, h2, h3, h4⟩ := hx
              obtain ⟨m, hr, hm1, hm2⟩ := run_bounds (P := P) (w := w) hg true len cap ha hb hc c0 c1 c2 c3 h2 hm
              refine ⟨_, run_slice_sl hT hd hk hde A len cap _ _ _ _ _ _ hr, ?_⟩
              simp only [AV.R, IV.R]
              refine ⟨_, m - a.toNat, rfl, by omega, by omega, fun k hk => ?_⟩
              obtain ⟨ad, vs, rfl, s, r, l, q⟩ := h4 (a.toNat + k) (by omega)
              rw [if_neg (by omega)]
              refine ⟨_, vs, rfl, by simp [add_none' s], r, l, fun j u hu => ?_⟩
              dsimp only
              rw [add_none' s]
              have := q j u hu
              rw [Nat.add_mul, ← Nat.add_assoc, hsz] at this
              rw [hsz]
              exact this
          · exact trivial
        · rename_i sz len f
          split
          · rename_i a b c ha hb hc
            cases hbq : Nat.beq sz de.size with
            | false => exact trivial
            | true =>
              have hsz := Nat.eq_of_beq_eq_true hbq
              simp only [cond_true]
              rintro ⟨c0, c1, c2, c3, _⟩
              simp only [AV.R] at hx
              obtain ⟨A, cap, rfl, h2, h3, h4⟩ := hx
              obtain ⟨m, hr, hm1, hm2⟩ := run_bounds (P := P) (w := w) hg true len cap ha hb hc c0 c1 c2 c3 h2 hm
              refine ⟨_, run_slice_sl hT hd hk hde A len cap _ _ _ _ _ _ hr, ?_⟩
              simp only [AV.R]
              refine ⟨_, m - a.toNat, rfl, by omega, by omega, fun k hk => ?_⟩
              obtain ⟨ad, vs, rfl, s, r, l, q⟩ := h4 (a.toNat + k) (by omega)
              rw [if_neg (by omega)]
              refine ⟨_, vs, rfl, by simp [add_none' s], r, l, fun j u hu => ?_⟩
              dsimp only
              rw [add_none' s]
              have := q j u hu
              rw [Nat.add_mul, ← Nat.add_assoc, hsz] at this
              rw [hsz]
              exact this
          · exact trivial
        · rename_i l
          split
          · rename_i a b c ha hb hc
            cases hbq : Nat.beq 1 de.size with
            | false => exact trivial
            | true =>
              have hsz := Nat.eq_of_beq_eq_true hbq
              simp only [cond_true]
              rintro ⟨c0, c1, c2, c3, _⟩
              simp only [AV.R, IV.R] at hx
              obtain ⟨A, cap, rfl, h2, h3, h4⟩ := hx
              obtain ⟨m, hr, hm1, hm2⟩ := run_bounds (P := P) (w := w) hg true l.length cap ha hb hc c0 c1 c2 c3 h2 hm
              refine ⟨_, run_slice_sl hT hd hk hde A l.length cap _ _ _ _ _ _ hr, ?_⟩
              have hlen : ((l.drop a.toNat).take (b.toNat - a.toNat)).length = b.toNat - a.toNat := by rw [List.length_take, List.length_drop]; omega
              simp only [AV.R, IV.R]
              refine ⟨_, m - a.toNat, by rw [hlen], by rw [hlen]; omega, by omega, fun k hk => ?_⟩
              rw [hlen] at hk
              obtain ⟨ad, rfl, s, r⟩ := h4 (a.toNat + k) (by omega)
              rw [if_neg (by omega)]
              refine ⟨_, rfl, by simp [add_none' s], ?_⟩
              dsimp only
              rw [add_none' s, ← hsz, Nat.mul_one]
              simp only [Nat.add_assoc]
              rw [r]
              simp [List.getD, hk, List.getElem?_drop]
          · exact trivial
        · exact trivial
      · exact trivial
    · exact trivial
  · exact trivial
end
end Go.Proofs.Yteeifedpabcehaa.Bm

namespace Go.Proofs.Yteeifedpabcehaa.Bm
open Go.RowKit

section
variable {ρ : Rho} {ι : Imm} {P : Program} {w : World} {T : TT} {H : AH}
theorem Rs_mapA (g : Operand → AV) (ev : Operand → Value) (hg : ∀ x, (g x).R ρ ι (ev x)) : ∀ l : List Operand, AV.Rs ρ ι (l.map g) (l.map ev) := by
  intro l
  induction l with
  | nil => simp [AV.Rs]
  | cons x xs ih => simp only [List.map_cons, AV.Rs]; exact ⟨_, _, rfl, hg x, ih⟩
/-- What a pointer leads to. -/
theorem ptrCells_spec (hS : SR ρ ι H w) {x : AV} {v : Value} {c : List Cnd} {cs : List AV} (hx : x.R ρ ι v) (h : ptrCells H x = some (c, cs)) (hc : ands c True) :
    ∃ ad vs, v = .pointer (some ad) ∧ ad.spot = none ∧ AV.Rs ρ ι cs vs ∧ ∀ j u, vs[j]? = some u → w.cell? ⟨ad.block, ad.off + j, none⟩ = some u := by
  unfold ptrCells at h
  split at h
  · rename_i h' off
    split at h
    · rename_i e cs0 hg
      simp only [Option.some.injEq, Prod.mk.injEq] at h
      obtain ⟨rfl, rfl⟩ := h
      simp only [AV.R] at hx
      obtain ⟨hv, b, h1, h2, rfl⟩ := hx
      obtain ⟨hv', h3, b', vs, h4, h5, h6, h7⟩ := hS.hv hg
      rw [h1] at h3
      injection h3 with h3
      subst h3
      rw [h2] at h4
      injection h4 with h4
      subst h4
      refine ⟨_, vs.drop off, rfl, rfl, Rs_dropA _ _ _ h7, fun j u hu => ?_⟩
      rw [heap_cell h6]
      rw [List.getElem?_drop] at hu
      simpa using hu
    · rename_i cs0 hg
      simp only [Option.some.injEq, Prod.mk.injEq] at h
      obtain ⟨rfl, rfl⟩ := h
      simp only [AV.R] at hx
      obtain ⟨hv, b, h1, h2, rfl⟩ := hx
      obtain ⟨hv', h3, _, b', vs, h4, h6, h7⟩ := hS.hv hg
      rw [h1] at h3
      injection h3 with h3
      subst h3
      rw [h2] at h4
      injection h4 with h4
      subst h4
      refine ⟨_, vs.drop off, rfl, rfl, by rw [List.map_drop]; exact Rs_dropA _ _ _ ((Rs_iv _ _).2 h6), fun j u hu => ?_⟩
      rw [List.getElem?_drop] at hu
      exact hS.imm _ _ _ (h7 _ u hu)
    · cases h
  · rename_i h' sz i fo
    split at h
    · rename_i e sz' n f hg
      cases hb : Nat.beq sz sz' with
      | false => rw [hb] at h; cases h
      | true =>
        have hsz := Nat.eq_of_beq_eq_true hb
        subst hsz
        rw [hb] at h
        simp only [cond_true, Option.some.injEq, Prod.mk.injEq] at h
        obtain ⟨rfl, rfl⟩ := h
        simp only [AV.R] at hx
        obtain ⟨hv, b, h1, h2, rfl⟩ := hx
        obtain ⟨hv', h3, h4⟩ := hS.hv hg
        rw [h1] at h3
        injection h3 with h3
        subst h3
        rcases h4 with ⟨h4, _⟩ | ⟨b', arr, fr, q1, q2, q3, q4, q5, q6, q7⟩
        · rw [h2] at h4; cases h4
        · rw [h2] at q1
          injection q1 with q1
          subst q1
          obtain ⟨vs, r1, r2, _, r3⟩ := q7 i hc.1
          refine ⟨_, vs.drop fo, rfl, rfl, Rs_dropA _ _ _ ((Rs_iv _ _).2 r1), fun j u hu => ?_⟩
          rw [heap_cell q3]
          rw [List.getElem?_drop] at hu
          have := r3 (fo + j) u hu
          rwa [← Nat.add_assoc] at this
    · rename_i e l hg
      cases hb : (Nat.beq sz 1 && Nat.beq fo 0) with
      | false => rw [hb] at h; cases h
      | true =>
        rw [hb] at h
        rw [Bool.and_eq_true] at hb
        have hsz := Nat.eq_of_beq_eq_true hb.1
        have hfo := Nat.eq_of_beq_eq_true hb.2
        subst hsz hfo
        simp only [cond_true, Option.some.injEq, Prod.mk.injEq] at h
        obtain ⟨rfl, rfl⟩ := h
        simp only [AV.R] at hx
        obtain ⟨hv, b, h1, h2, rfl⟩ := hx
        obtain ⟨hv', h3, h4⟩ := hS.hv hg
        rw [h1] at h3
        injection h3 with h3
        subst h3
        rcases h4 with ⟨h4, _⟩ | ⟨b', arr, fr, q1, q2, q3, q4, q5, q6, q7⟩
        · rw [h2] at h4; cases h4
        · rw [h2] at q1
          injection q1 with q1
          subst q1
          refine ⟨_, [.int .u8 ((l.getD i 0).toNat : Int)], rfl, rfl, ?_, fun j u hu => ?_⟩
          · simp only [AV.Rs, AV.R, byteI, IV.R]
            exact ⟨_, [], rfl, rfl, rfl⟩
          · cases j with
            | zero =>
              simp at hu
              subst hu
              rw [heap_cell q3]
              simpa using q7 i hc.1
            | succ j => simp at hu
    · cases h
  · rename_i cs0
    simp only [Option.some.injEq, Prod.mk.injEq] at h
    obtain ⟨rfl, rfl⟩ := h
    simp only [AV.R, IV.R] at hx
    obtain ⟨ad, vs, rfl, h1, h2, h3⟩ := hx
    exact ⟨ad, vs, rfl, h1, (Rs_iv _ _).2 h2, fun j u hu => hS.imm _ _ _ (h3 j u hu)⟩
  · rename_i cs0
    simp only [Option.some.injEq, Prod.mk.injEq] at h
    obtain ⟨rfl, rfl⟩ := h
    simp only [AV.R] at hx
    obtain ⟨ad, vs, rfl, h1, h2, h3⟩ := hx
    exact ⟨ad, vs, rfl, h1, h2, fun j u hu => hS.imm _ _ _ (h3 j u hu)⟩
  · cases h
theorem run_loadVar (hT : TOk P T) {t : Nat} {d : TD} (hd : T.get t = some d) {ad : Addr} (hs : ad.spot = none) {cs : List AV} {vs : List Value} (hr : AV.Rs ρ ι cs vs) (hc : ∀ j u, vs[j]? = some u → w.cell? ⟨ad.block, ad.off + j, none⟩ = some u) {x : AV} (hx : partA T t cs 0 = some x) :
    ∃ u, (loadVar t ad).run P w = .ok u w ∧ x.R ρ ι u := by
  have ha := run_isAgg' hT hd w
  have hz := run_sizeOf' hT hd w
  unfold partA at hx
  simp only [hd] at hx
  cases hag : d.isAgg with
  | true =>
    rw [hag] at hx ha
    simp only [cond_true] at hx
    cases hb : Nat.ble (0 + d.size) cs.length with
    | false => rw [hb] at hx; cases hx
    | true =>
      rw [hb] at hx
      simp only [cond_true, Option.some.injEq, List.drop_zero] at hx
      subst hx
      have hle := Nat.le_of_ble_eq_true hb
      have hlen := Rs_lenA _ _ hr
      have hl : (vs.take d.size).length = d.size := by rw [List.length_take]; omega
      have h3 := run_loadCells_list (P := P) (w := w) ad (vs.take d.size) (fun j v hj => by
        rw [add_none' hs]
        refine hc j v ?_
        rw [List.getElem?_take] at hj
        split at hj
        · exact hj
        · cases hj)
      rw [hl] at h3
      refine ⟨.agg (vs.take d.size).toArray, by simp [loadVar, ha, hz, h3], ?_⟩
      simp only [AV.R]
      exact ⟨_, rfl, Rs_takeA _ _ _ hr⟩
  | false =>
    rw [hag] at hx ha
    simp only [cond_false, List.drop_zero] at hx
    cases cs with
    | nil => cases hx
    | cons c cs =>
      simp only [pick1, Option.some.injEq] at hx
      subst hx
      simp only [AV.Rs] at hr
      obtain ⟨u, us, rfl, r, _⟩ := hr
      have h3 := hc 0 u (by simp)
      rw [Nat.add_zero, ← addr_none hs] at h3
      exact ⟨u, by simp [loadVar, ha, h3], r⟩
theorem loadA_ok (hT : TOk P T) (hS : SR ρ ι H w) (t : Nat) (x : AV) {v : Value} (hx : x.R ρ ι v) : (loadA T H t x).ok ρ ι P (Instr.loadAt t v) w := by
  unfold loadA
  split
  · rename_i c cs hp
    split
    · rename_i y hy
      intro hc
      obtain ⟨ad, vs, rfl, hs, hr, hcell⟩ := ptrCells_spec hS hx hp hc
      have hd : ∃ d, T.get t = some d := by
        unfold partA at hy
        split at hy
        · exact ⟨_, by assumption⟩
        · cases hy
      obtain ⟨d, hd⟩ := hd
      obtain ⟨u, h1, h2⟩ := run_loadVar hT hd hs hr hcell hy
      exact ⟨u, by simp [Instr.loadAt, Instr.sureAddr, h1], h2⟩
    · exact trivial
  · exact trivial
theorem cells_spec {x : AV} {v : Value} {cs : List AV} (hx : x.R ρ ι v) (h : x.cells = some cs) : ∃ vs, v.cells = vs.toArray ∧ AV.Rs ρ ι cs vs := by
  unfold AV.cells at h
  split at h
  · simp only [Option.some.injEq] at h
    subst h
    simp only [AV.R] at hx
    obtain ⟨vs, rfl, hr⟩ := hx
    exact ⟨vs, rfl, hr⟩
  · simp only [Option.some.injEq] at h
    subst h
    simp only [AV.R, IV.R] at hx
    obtain ⟨vs, rfl, hr⟩ := hx
    exact ⟨vs, rfl, (Rs_iv _ _).2 hr⟩
  · rename_i vs
    simp only [Option.some.injEq] at h
    subst h
    simp only [AV.R, IV.R] at hx
    subst hx
    refine ⟨vs.toList, by simp [Value.cells], ?_⟩
    generalize vs.toList = l
    induction l with
    | nil => simp [AV.Rs]
    | cons y ys ih => simp only [List.map_cons, AV.Rs, AV.R, IV.R]; exact ⟨_, _, rfl, rfl, ih⟩
  · cases h
  · cases h
  · cases h
  · rename_i h1 h2 h3 h4 h5 h6
    simp only [Option.some.injEq] at h
    subst h
    refine ⟨[v], ?_, by simp only [AV.Rs]; exact ⟨v, [], rfl, hx, rfl⟩⟩
    have : ∀ cs, v ≠ .agg cs := by
      intro cs e
      subst e
      cases x with
      | iv y =>
        cases y with
        | v z => simp only [AV.R, IV.R] at hx; subst hx; exact h3 cs rfl
        | agg l => exact h2 l rfl
        | _ => simp [AV.R, IV.R] at hx
      | agg l => exact h1 l rfl
      | tup l => exact h4 l rfl
      | junk => exact h5 rfl
      | _ => simp [AV.R] at hx
    cases v <;> first | rfl | exact absurd rfl (this _)
end
end Go.Proofs.Yteeifedpabcehaa.Bm

namespace Go.Proofs.Yteeifedpabcehaa.Bm
open Go.RowKit

section
variable {ρ : Rho} {ι : Imm} {P : Program} {w : World} {T : TT} {H : AH}
def keyDesc : Option IntKind → TypeDesc
  | none => .string
  | some k => .int k
theorem MK.val_inj {a b : MK} (h : a.val = b.val) : a = b := by
  cases a <;> cases b <;> simp_all [MK.val]
theorem same_val {a b : MK} {kk : Option IntKind} (ha : a.kind = kk) (hb : b.kind = kk) : Instr.sameNow (keyDesc kk) a.val b.val = some (decide (b = a)) := by
  cases a with
  | s l =>
    cases b with
    | s l' =>
      simp only [MK.kind] at ha
      subst ha
      simp only [keyDesc, MK.val, Instr.sameNow]
      congr 1
      have e : ((⟨l.toArray⟩ : ByteArray) == ⟨l'.toArray⟩) = (l.toArray == l'.toArray) := rfl
      rw [e, Bool.eq_iff_iff, beq_iff_eq, decide_eq_true_eq]
      exact ⟨fun h => by have : l = l' := by simpa using h
                         rw [this], fun h => by injection h with h; rw [h]⟩
    | i k' n' => simp only [MK.kind] at ha hb; subst ha; cases hb
  | i k n =>
    cases b with
    | s l' => simp only [MK.kind] at ha hb; subst ha; cases hb
    | i k' n' =>
      simp only [MK.kind] at ha hb
      subst ha
      injection hb with hb
      subst hb
      simp only [keyDesc, MK.val, Instr.sameNow, if_true]
      congr 1
      rw [Bool.eq_iff_iff, beq_iff_eq, decide_eq_true_eq]
      exact ⟨fun h => by rw [h], fun h => by injection h with _ h; exact h.symm⟩
def findHit (hit : MapEntry → Bool) : List MapEntry → Nat → Option (Nat × Value)
  | [], _ => none
  | e :: es, i => if hit e then some (i, e.val) else findHit hit es (i + 1)
theorem findNow_hit (kind : TypeDesc) (kv : Value) (hit : MapEntry → Bool) : ∀ (es : List MapEntry) (i : Nat), (∀ e ∈ es, Instr.sameNow kind kv e.key = some (hit e)) → Instr.findNow kind kv es i = some (findHit hit es i)
  | [], _, _ => rfl
  | e :: es, i, h => by
    have h1 := h e (List.mem_cons_self ..)
    have ih := findNow_hit kind kv hit es (i + 1) (fun e he => h e (List.mem_cons_of_mem _ he))
    simp only [Instr.findNow, h1, findHit]
    cases hit e <;> simp [ih]
theorem findHit_some (hit : MapEntry → Bool) : ∀ (es : List MapEntry) (i j : Nat) (v : Value), findHit hit es i = some (j, v) → ∃ e, i ≤ j ∧ es[j - i]? = some e ∧ hit e = true ∧ v = e.val
  | [], _, _, _, h => by cases h
  | e :: es, i, j, v, h => by
    unfold findHit at h
    split at h
    · rename_i he
      simp only [Option.some.injEq, Prod.mk.injEq] at h
      obtain ⟨rfl, rfl⟩ := h
      exact ⟨e, Nat.le_refl _, by simp, he, rfl⟩
    · obtain ⟨e', h1, h2, h3⟩ := findHit_some hit es (i + 1) j v h
      refine ⟨e', by omega, ?_, h3⟩
      have : j - i = (j - (i + 1)) + 1 := by omega
      rw [this, List.getElem?_cons_succ]
      exact h2
theorem findHit_none (hit : MapEntry → Bool) : ∀ (es : List MapEntry) (i : Nat), findHit hit es i = none → ∀ e ∈ es, hit e = false
  | [], _, _, _, he => by cases he
  | e :: es, i, h, e', he => by
    unfold findHit at h
    split at h
    · cases h
    · rename_i hn
      rcases List.mem_cons.1 he with rfl | he
      · simpa using hn
      · exact findHit_none hit es (i + 1) h e' he
section
variable {X : Type} {R : X → Value → Prop}
theorem ZipR.mem {l : List MapEntry} {m : List (MK × X)} (h : ZipR R l m) : ∀ e ∈ l, ∃ p ∈ m, e.key = p.1.val ∧ R p.2 e.val := by
  induction l generalizing m with
  | nil => intro e he; cases he
  | cons x xs ih =>
    obtain ⟨p, ps, rfl, h1, h2, h3⟩ := h
    intro e he
    rcases List.mem_cons.1 he with rfl | he
    · exact ⟨p, List.mem_cons_self .., h1, h2⟩
    · obtain ⟨q, hq, r⟩ := ih h3 e he
      exact ⟨q, List.mem_cons_of_mem _ hq, r⟩
theorem ZipR.mem' {l : List MapEntry} {m : List (MK × X)} (h : ZipR R l m) : ∀ p ∈ m, ∃ e ∈ l, e.key = p.1.val ∧ R p.2 e.val := by
  induction l generalizing m with
  | nil => intro p hp; simp only [ZipR] at h; subst h; cases hp
  | cons x xs ih =>
    obtain ⟨p, ps, rfl, h1, h2, h3⟩ := h
    intro q hq
    rcases List.mem_cons.1 hq with rfl | hq
    · exact ⟨x, List.mem_cons_self .., h1, h2⟩
    · obtain ⟨e, he, r⟩ := ih h3 q hq
      exact ⟨e, List.mem_cons_of_mem _ he, r⟩
theorem ZipR.len {l : List MapEntry} {m : List (MK × X)} (h : ZipR R l m) : l.length = m.length := by
  induction l generalizing m with
  | nil => simp only [ZipR] at h; subst h; rfl
  | cons x xs ih => obtain ⟨p, ps, rfl, h1, h2, h3⟩ := h; simp [ih h3]
theorem mfind_some {m : List (MK × X)} {k : MK} {x : X} (h : mfind m k = some x) : (k, x) ∈ m := by
  unfold mfind at h
  obtain ⟨p, hp, rfl⟩ := Option.map_eq_some_iff.1 h
  have h1 := List.mem_of_find?_eq_some hp
  have h2 := List.find?_some hp
  simp only [decide_eq_true_eq] at h2
  rw [← h2]
  exact h1
theorem mfind_none {m : List (MK × X)} {k : MK} (h : mfind m k = none) : ∀ p ∈ m, p.1 ≠ k := by
  intro p hp e
  unfold mfind at h
  have h1 := Option.map_eq_none_iff.1 h
  have := List.find?_eq_none.1 h1 p hp
  simp [e] at this
theorem nodup_key {m : List (MK × X)} (h : (m.map (·.1)).Nodup) {p q : MK × X} (hp : p ∈ m) (hq : q ∈ m) (e : p.1 = q.1) : p = q := by
  induction m with
  | nil => cases hp
  | cons x xs ih =>
    simp only [List.map_cons, List.nodup_cons] at h
    rcases List.mem_cons.1 hp with hp1 | hp1 <;> rcases List.mem_cons.1 hq with hq1 | hq1
    · rw [hp1, hq1]
    · exact absurd (by rw [← hp1, e]; exact List.mem_map_of_mem hq1) h.1
    · exact absurd (by rw [← hq1, ← e]; exact List.mem_map_of_mem hp1) h.1
    · exact ih h.2 hp1 hq1
/-- A key is looked for: the place of its entry, or none. -/
theorem MapR.find {kk : Option IntKind} {m : List (MK × X)} {es : Array MapEntry} {clock : Nat} (h : MapR R kk m es clock) {key : MK} (hk : key.kind = kk) :
    (mfind m key = none ∧ Instr.findNow (keyDesc kk) key.val es.toList 0 = some none ∧ ∀ e ∈ es.toList, e.key ≠ key.val) ∨
    ∃ x j e, mfind m key = some x ∧ Instr.findNow (keyDesc kk) key.val es.toList 0 = some (some (j, e.val)) ∧ es.toList[j]? = some e ∧ e.key = key.val ∧ R x e.val := by
  obtain ⟨l, hp, hz⟩ := h.zip
  have mem : ∀ e ∈ es.toList, ∃ p ∈ m, e.key = p.1.val ∧ R p.2 e.val := fun e he => hz.mem e (hp.mem_iff.2 he)
  have same : ∀ e ∈ es.toList, Instr.sameNow (keyDesc kk) key.val e.key = some ((Instr.sameNow (keyDesc kk) key.val e.key).getD false) := fun e he => by
    obtain ⟨p, hpm, hkey, _⟩ := mem e he
    rw [hkey, same_val hk (h.kind p hpm)]
    rfl
  have hitk : ∀ e ∈ es.toList, (Instr.sameNow (keyDesc kk) key.val e.key).getD false = true ↔ e.key = key.val := fun e he => by
    obtain ⟨p, hpm, hkey, _⟩ := mem e he
    rw [hkey, same_val hk (h.kind p hpm)]
    simp only [Option.getD_some, decide_eq_true_eq]
    exact ⟨fun e => by rw [e], fun e => MK.val_inj e⟩
  have hf := findNow_hit (keyDesc kk) key.val (fun e => (Instr.sameNow (keyDesc kk) key.val e.key).getD false) es.toList 0 same
  cases hh : findHit (fun e => (Instr.sameNow (keyDesc kk) key.val e.key).getD false) es.toList 0 with
  | none =>
    have hn := findHit_none _ _ _ hh
    have hne : ∀ e ∈ es.toList, e.key ≠ key.val := fun e he e' => by
      have := (hitk e he).2 e'
      rw [hn e he] at this
      cases this
    refine .inl ⟨?_, by rw [hf, hh], hne⟩
    cases hm : mfind m key with
    | none => rfl
    | some x =>
      obtain ⟨e, he, hke, _⟩ := hz.mem' _ (mfind_some hm)
      exact absurd hke (hne e (hp.mem_iff.1 he))
  | some r =>
    obtain ⟨j, v⟩ := r
    obtain ⟨e, _, h2, h3, rfl⟩ := findHit_some _ _ _ _ _ hh
    rw [Nat.sub_zero] at h2
    have he := List.mem_of_getElem? h2
    have hke := (hitk e he).1 h3
    obtain ⟨p, hpm, hkp, hr⟩ := mem e he
    have hpk : p.1 = key := MK.val_inj (hkp.symm.trans hke)
    refine .inr ⟨p.2, j, e, ?_, by rw [hf, hh], h2, hke, hr⟩
    cases hm : mfind m key with
    | none => exact absurd hpk (mfind_none hm p hpm)
    | some x =>
      have := nodup_key h.keys hpm (mfind_some hm) hpk
      rw [this]
end
theorem TK.key_spec {u : TypeDesc} {kk : Option IntKind} (h : (TK.of u).key = some kk) : u = keyDesc kk := by
  cases u <;> simp_all [TK.of, TK.key]
  all_goals subst h; rfl
theorem keyA_spec {x : AV} {v : Value} {key : MK} (hx : x.R ρ ι v) (h : keyA x = some key) : v = key.val := by
  unfold keyA at h
  split at h
  · injection h with h; subst h; simpa [AV.R, IV.R, MK.val] using hx
  · injection h with h; subst h; simpa [AV.R, IV.R, MK.val] using hx
  · cases h
theorem run_checkKey (b : Bool) (n : Nat) {t : TypeId} {kk : Option IntKind} (ht : P.underlying t = some (keyDesc kk)) {key : MK} (hk : key.kind = kk) : (Instr.checkKey b (n + 1) t key.val).run P w = .ok () w := by
  subst hk
  cases key <;> simp [Instr.checkKey, run_underlying ht, MK.val, keyDesc, MK.kind]
theorem run_findKey {t : TypeId} {kk : Option IntKind} (ht : P.underlying t = some (keyDesc kk)) {key : MK} {es : List MapEntry} {r : Option (Nat × Value)} (h : Instr.findNow (keyDesc kk) key.val es 0 = some r) : (Instr.findKey t key.val es).run P w = .ok r w := by
  simp [Instr.findKey, run_underlying ht, h]
theorem run_getObj {b : Nat} {o : Obj} (h : w.heap[b]? = some o) (hn : ∀ c e f, o ≠ .cells c e f) : (getObj b).run P w = .ok o w := by
  cases o with
  | cells c e f => exact absurd rfl (hn c e f)
  | _ => simp [getObj, Sem.run, h]
theorem look_run {X : Type} {R : X → Value → Prop} {kk : Option IntKind} {m : List (MK × X)} {es : Array MapEntry} {clock b t kt et : Nat} {key : MK} {z : Value} (hmp : P.underlying t = some (.map kt et)) (h1 : P.underlying kt = some (keyDesc kk)) (hkind : key.kind = kk) (hzr : (zeroValue et).run P w = .ok z w) (g6 : w.heap[b]? = some (.map es clock)) (g7 : MapR R kk m es clock) (ok : Bool) :
    (mfind m key = none ∧ (Instr.lookup t (.map (some b)) key.val ok).run P w = .ok (bif ok then .tuple #[z, .bool false] else z) w) ∨ ∃ x u, mfind m key = some x ∧ R x u ∧ (Instr.lookup t (.map (some b)) key.val ok).run P w = .ok (bif ok then .tuple #[u, .bool true] else u) w := by
  have hobj := run_getObj (P := P) g6 (fun _ _ _ => by simp)
  have hck := run_checkKey (P := P) (w := w) es.isEmpty 9999 h1 hkind
  rcases g7.find hkind with ⟨f1, f2, _⟩ | ⟨x, j, e, f1, f2, f3, f4, f5⟩
  · have hfk := run_findKey (P := P) (w := w) h1 f2
    exact .inl ⟨f1, by cases ok <;> simp [Instr.lookup, run_underlying hmp, hobj, hck, hfk, hzr]⟩
  · have hfk := run_findKey (P := P) (w := w) h1 f2
    exact .inr ⟨x, e.val, f1, f5, by cases ok <;> simp [Instr.lookup, run_underlying hmp, hobj, hck, hfk]⟩
theorem lookA_ok (hT : TOk P T) (hS : SR ρ ι H w) (t : Nat) (x k : AV) (ok : Bool) {v u : Value} (hx : x.R ρ ι v) (hk : k.R ρ ι u) : (lookA T H t x k ok).ok ρ ι P (Instr.lookup t v u ok) w := by
  unfold lookA
  split
  · rename_i d hd
    split
    · rename_i kt et hkd
      have hmp := td_mp hT hd hkd
      split
      · rename_i key kk z hkey hkk hz
        split
        · rename_i hkind
          have hu := keyA_spec hk hkey
          subst hu
          obtain ⟨dk, hdk, hkk⟩ := Option.bind_eq_some_iff.1 hkk
          obtain ⟨uk, ik, h1, _, rfl⟩ := td hT hdk
          have hku := TK.key_spec hkk
          subst hku
          obtain ⟨de, hde, hze⟩ := Option.bind_eq_some_iff.1 hz
          have hzr := run_zero' hT hde hze
          split
          · rename_i h
            split
            · rename_i kk' m hg
              split
              · rename_i hkk'
                subst hkk'
                simp only [AV.R] at hx
                obtain ⟨hv, b, g1, g2, rfl⟩ := hx
                obtain ⟨hv', g3, b', es, clock, g4, g5, g6, g7⟩ := hS.hv hg
                rw [g1] at g3
                injection g3 with g3
                subst g3
                rw [g2] at g4
                injection g4 with g4
                subst g4
                rcases look_run hmp h1 hkind (hzr w) g6 g7 ok with ⟨f1, f2⟩ | ⟨x, u, f1, f2, f3⟩
                · cases ok with
                  | true => exact ⟨_, f2, .inr ⟨by rw [f1]; rfl, by simp [AV.R, AV.Rs, IV.R]⟩⟩
                  | false => exact ⟨_, f2, .inr ⟨by rw [f1]; rfl, by simp [AV.R, IV.R]⟩⟩
                · cases ok with
                  | true => exact ⟨_, f3, .inl ⟨.iv x, by rw [f1]; rfl, by simp [AV.R, AV.Rs, IV.R, f2]⟩⟩
                  | false => exact ⟨_, f3, .inl ⟨.iv x, by rw [f1]; rfl, by simpa [AV.R] using f2⟩⟩
              · exact trivial
            · rename_i kk' m lf it hg
              split
              · rename_i hkk'
                subst hkk'
                simp only [AV.R] at hx
                obtain ⟨hv, b, g1, g2, rfl⟩ := hx
                obtain ⟨hv', g3, b', _, _, es, clock, _, _, _, g4, _, _, _, _, g6, _, g7, _⟩ := hS.hv hg
                rw [g1] at g3
                injection g3 with g3
                subst g3
                rw [g2] at g4
                injection g4 with g4
                subst g4
                rcases look_run hmp h1 hkind (hzr w) g6 g7 ok with ⟨f1, f2⟩ | ⟨x, u, f1, f2, f3⟩
                · cases ok with
                  | true => exact ⟨_, f2, .inr ⟨by rw [f1]; rfl, by simp [AV.R, AV.Rs, IV.R]⟩⟩
                  | false => exact ⟨_, f2, .inr ⟨by rw [f1]; rfl, by simp [AV.R, IV.R]⟩⟩
                · cases ok with
                  | true => exact ⟨_, f3, .inl ⟨.iv x, by rw [f1]; rfl, by simp [AV.R, AV.Rs, IV.R, f2]⟩⟩
                  | false => exact ⟨_, f3, .inl ⟨.iv x, by rw [f1]; rfl, by simpa [AV.R] using f2⟩⟩
              · exact trivial
            · rename_i kk' m hg
              split
              · rename_i hkk'
                subst hkk'
                simp only [AV.R] at hx
                obtain ⟨hv, b, g1, g2, rfl⟩ := hx
                obtain ⟨hv', g3, b', es, clock, g4, g5, g6, g7⟩ := hS.hv hg
                rw [g1] at g3
                injection g3 with g3
                subst g3
                rw [g2] at g4
                injection g4 with g4
                subst g4
                rcases look_run hmp h1 hkind (hzr w) g6 g7 ok with ⟨f1, f2⟩ | ⟨x, u, f1, f2, f3⟩
                · cases ok with
                  | true => exact ⟨_, f2, .inr ⟨f1, by simp [AV.R, AV.Rs, IV.R]⟩⟩
                  | false => exact ⟨_, f2, .inr ⟨f1, by simp [AV.R, IV.R]⟩⟩
                · cases ok with
                  | true => exact ⟨_, f3, .inl ⟨x, f1, by simp [AV.R, AV.Rs, IV.R, f2]⟩⟩
                  | false => exact ⟨_, f3, .inl ⟨x, f1, f2⟩⟩
              · exact trivial
            · exact trivial
          · simp only [AV.R, IV.R] at hx
            subst hx
            have hck := run_checkKey (P := P) (w := w) true 9999 h1 hkind
            have hfk := run_findKey (P := P) (w := w) (key := key) (es := []) h1 rfl
            cases ok with
            | true => exact fun _ => ⟨.tuple #[z, .bool false], by simp [Instr.lookup, run_underlying hmp, hck, hfk, hzr], by simp [AV.R, AV.Rs, IV.R]⟩
            | false => exact fun _ => ⟨z, by simp [Instr.lookup, run_underlying hmp, hck, hfk, hzr], by simp [AV.R, IV.R]⟩
          · exact trivial
        · exact trivial
      · exact trivial
    · exact trivial
  · exact trivial
theorem lenA_ok (hT : TOk P T) (hS : SR ρ ι H w) (t : Nat) (x : AV) {v : Value} (hx : x.R ρ ι v) (ts : List TypeId) (rest : List Value) (ty : TypeId) : (lenA T H t x).ok ρ ι P (Builtin.len_ (t :: ts).toArray ty (v :: rest).toArray) w := by
  unfold lenA
  split
  · rename_i d hd
    split
    · rename_i l hk
      simp only [AV.R, IV.R] at hx
      subst hx
      have hsz : (⟨l.toArray⟩ : ByteArray).size = l.length := by simp [ByteArray.size]
      exact fun _ => ⟨.int .i64 (l.length : Int), by simp [Builtin.len_, run_underlying (td_str hT hd hk), goInt, hsz], R_v _⟩
    · rename_i e l hk
      simp only [AV.R, IV.R] at hx
      obtain ⟨A, c, rfl, _⟩ := hx
      exact fun _ => ⟨_, by simp [Builtin.len_, run_underlying (td_sl hT hd hk), goInt], R_v _⟩
    · rename_i e sz n f hk
      simp only [AV.R, IV.R] at hx
      obtain ⟨A, c, rfl, _⟩ := hx
      exact fun _ => ⟨_, by simp [Builtin.len_, run_underlying (td_sl hT hd hk), goInt], R_v _⟩
    · rename_i e sz n f hk
      simp only [AV.R] at hx
      obtain ⟨A, c, rfl, _⟩ := hx
      exact fun _ => ⟨_, by simp [Builtin.len_, run_underlying (td_sl hT hd hk), goInt], R_v _⟩
    · rename_i e h sz off n hk
      simp only [AV.R] at hx
      obtain ⟨A, c, rfl, _⟩ := hx
      exact fun _ => ⟨_, by simp [Builtin.len_, run_underlying (td_sl hT hd hk), goInt], R_v _⟩
    · rename_i e A n c hk
      simp only [AV.R, IV.R] at hx
      subst hx
      exact fun _ => ⟨_, by simp [Builtin.len_, run_underlying (td_sl hT hd hk), goInt], R_v _⟩
    · rename_i k e h hk
      split
      · rename_i kk m hg
        simp only [AV.R] at hx
        obtain ⟨hv, b, g1, g2, rfl⟩ := hx
        obtain ⟨hv', g3, b', es, clock, g4, g5, g6, g7⟩ := hS.hv hg
        rw [g1] at g3
        injection g3 with g3
        subst g3
        rw [g2] at g4
        injection g4 with g4
        subst g4
        have hobj := run_getObj (P := P) g6 (fun _ _ _ => by simp)
        obtain ⟨l, hp, hz⟩ := g7.zip
        have hl : es.size = m.length := by
          have := hp.length_eq
          rw [hz.len] at this
          simpa using this.symm
        exact fun _ => ⟨.int .i64 (m.length : Int), by simp [Builtin.len_, run_underlying (td_mp hT hd hk), hobj, goInt, hl], R_v _⟩
      · rename_i kk m lf it hg
        simp only [AV.R] at hx
        obtain ⟨hv, b, g1, g2, rfl⟩ := hx
        obtain ⟨hv', g3, b', _, _, es, clock, _, _, _, g4, _, _, _, _, g6, _, g7, _⟩ := hS.hv hg
        rw [g1] at g3
        injection g3 with g3
        subst g3
        rw [g2] at g4
        injection g4 with g4
        subst g4
        have hobj := run_getObj (P := P) g6 (fun _ _ _ => by simp)
        obtain ⟨l, hp, hz⟩ := g7.zip
        have hl : es.size = m.length := by
          have := hp.length_eq
          rw [hz.len] at this
          simpa using this.symm
        exact fun _ => ⟨.int .i64 (m.length : Int), by simp [Builtin.len_, run_underlying (td_mp hT hd hk), hobj, goInt, hl], R_v _⟩
      · rename_i kk m hg
        simp only [AV.R] at hx
        obtain ⟨hv, b, g1, g2, rfl⟩ := hx
        obtain ⟨hv', g3, b', es, clock, g4, g5, g6, g7⟩ := hS.hv hg
        rw [g1] at g3
        injection g3 with g3
        subst g3
        rw [g2] at g4
        injection g4 with g4
        subst g4
        have hobj := run_getObj (P := P) g6 (fun _ _ _ => by simp)
        obtain ⟨l, hp, hz⟩ := g7.zip
        have hl : es.size = m.length := by
          have := hp.length_eq
          rw [hz.len] at this
          simpa using this.symm
        exact fun _ => ⟨.int .i64 (m.length : Int), by simp [Builtin.len_, run_underlying (td_mp hT hd hk), hobj, goInt, hl], R_v _⟩
      · exact trivial
    · rename_i k e hk
      simp only [AV.R, IV.R] at hx
      subst hx
      exact fun _ => ⟨_, by simp [Builtin.len_, run_underlying (td_mp hT hd hk), goInt], R_v _⟩
    · exact trivial
  · exact trivial
theorem minA_ok (x y : AV) {u v : Value} (hx : x.R ρ ι u) (hy : y.R ρ ι v) (ts : Array TypeId) (ty : TypeId) : (minA x y).ok ρ ι P (Builtin.min_ ts ty #[u, v]) w := by
  unfold minA
  split
  · rename_i k a k' b
    simp only [AV.R, IV.R] at hx hy
    subst hx hy
    split
    · rename_i hk
      subst hk
      refine fun _ => ⟨.int k (min a b), ?_, R_v _⟩
      have : min a b = if b < a then b else a := by omega
      simp [Builtin.min_, Builtin.min2, this]
    · exact trivial
  · exact trivial
theorem maxA_ok (x y : AV) {u v : Value} (hx : x.R ρ ι u) (hy : y.R ρ ι v) (ts : Array TypeId) (ty : TypeId) : (maxA x y).ok ρ ι P (Builtin.max_ ts ty #[u, v]) w := by
  unfold maxA
  split
  · rename_i k a k' b
    simp only [AV.R, IV.R] at hx hy
    subst hx hy
    split
    · rename_i hk
      subst hk
      refine fun _ => ⟨.int k (max a b), ?_, R_v _⟩
      have h1 : max a b = if b > a then b else a := by omega
      simp [Builtin.max_, Builtin.max2, h1]
    · exact trivial
  · exact trivial
end
end Go.Proofs.Yteeifedpabcehaa.Bm
