/-
  A small abstract machine: values, chunks of memory, and what they say of a world.
-/
import Derived.Below
import Derived.Maps.OwnSet
import Derived.Maps.AppendAt
import Derived.Orders
import Derived.LoopN
import Derived.WalkKit
namespace Go.Proofs.YtgfkepebfaiepaaGreatDoor.Ax
open Go.RowKit
inductive IV where
 | v (x : Value)
 | str (l : List UInt8)
 | bs (l : List UInt8)
 | sl (sz n : Nat) (f : Nat → List IV)
 | pp (cs : List IV)
 | agg (cs : List IV)
 | ifc (t : TypeId) (x : IV)
 | fnc (fn : Fn) (a c : List IV)
inductive AV where
 | iv (x : IV)
 | ptr (h off : Nat)
 | el (h sz i fo : Nat)
 | row (h sz off len : Nat)
 | mp (h : Nat)
 | agg (cs : List AV)
 | tup (cs : List AV)
 | ifc (t : TypeId) (x : AV)
 | fnc (fn : Fn) (a c : List AV)
 | pp (cs : List AV)
 | sl (sz n : Nat) (f : Nat → List AV)
 | junk
 | anyb
@[reducible] def AV.int (k : IntKind) (n : Int) : AV := .iv (.v (.int k n))
@[reducible] def AV.bool (b : Bool) : AV := .iv (.v (.bool b))
@[reducible] def AV.str (l : List UInt8) : AV := .iv (.str l)
@[reducible] def AV.nilSl : AV := .iv (.v (.slice none 0 0))
@[reducible] def AV.nilPtr : AV := .iv (.v (.pointer none))
abbrev Imm := Nat → Nat → Option Value
def byteI (c : UInt8) : IV := .v (.int .u8 (c.toNat : Int))
mutual
def IV.R (ι : Imm) : IV → Value → Prop
 | .v x, y => y = x
 | .str l, y => y = .string ⟨l.toArray⟩
 | .bs l, y => ∃ A c, y = .slice A l.length c ∧ l.length ≤ c ∧ c ≤ maxLen ∧ ∀ k, k < l.length → ∃ ad, A = some ad ∧ ad.spot = none ∧ ι ad.block (ad.off + k) = some (.int .u8 ((l.getD k 0).toNat : Int))
 | .sl sz n f, y => ∃ A c, y = .slice A n c ∧ n ≤ c ∧ c ≤ maxLen ∧ ∀ k, k < n → ∃ ad vs, A = some ad ∧ ad.spot = none ∧ IV.Rs ι (f k) vs ∧ vs.length = sz ∧ ∀ j u, vs[j]? = some u → ι ad.block (ad.off + k * sz + j) = some u
 | .pp cs, y => ∃ ad vs, y = .pointer (some ad) ∧ ad.spot = none ∧ IV.Rs ι cs vs ∧ ∀ j u, vs[j]? = some u → ι ad.block (ad.off + j) = some u
 | .agg cs, y => ∃ vs, y = .agg vs.toArray ∧ IV.Rs ι cs vs
 | .ifc t x, y => ∃ u, y = .iface t u ∧ IV.R ι x u
 | .fnc fn a c, y => ∃ as cs, y = .func fn as.toArray cs.toArray ∧ IV.Rs ι a as ∧ IV.Rs ι c cs
def IV.Rs (ι : Imm) : List IV → List Value → Prop
 | [], vs => vs = []
 | x :: xs, vs => ∃ u us, vs = u :: us ∧ IV.R ι x u ∧ IV.Rs ι xs us
end
structure HV where
 blk : Option Nat
 room : Nat
 foot : Nat → Prop
abbrev Rho := Nat → Option HV
mutual
def AV.R (ρ : Rho) (ι : Imm) : AV → Value → Prop
 | .iv x, y => x.R ι y
 | .ptr h off, y => ∃ hv b, ρ h = some hv ∧ hv.blk = some b ∧ y = .pointer (some ⟨b, off, none⟩)
 | .el h sz i fo, y => ∃ hv b, ρ h = some hv ∧ hv.blk = some b ∧ y = .pointer (some ⟨b, i * sz + fo, none⟩)
 | .row h sz off len, y => ∃ A c, y = .slice A len c ∧ len ≤ c ∧ c ≤ maxLen ∧ (c ≠ 0 → ∃ hv b, ρ h = some hv ∧ hv.blk = some b ∧ A = some ⟨b, off * sz, none⟩ ∧ (off + c) * sz ≤ hv.room)
 | .mp h, y => ∃ hv b, ρ h = some hv ∧ hv.blk = some b ∧ y = .map (some b)
 | .agg cs, y => ∃ vs, y = .agg vs.toArray ∧ AV.Rs ρ ι cs vs
 | .tup cs, y => ∃ vs, y = .tuple vs.toArray ∧ AV.Rs ρ ι cs vs
 | .ifc t x, y => ∃ u, y = .iface t u ∧ AV.R ρ ι x u
 | .fnc fn a c, y => ∃ as cs, y = .func fn as.toArray cs.toArray ∧ AV.Rs ρ ι a as ∧ AV.Rs ρ ι c cs
 | .pp cs, y => ∃ ad vs, y = .pointer (some ad) ∧ ad.spot = none ∧ AV.Rs ρ ι cs vs ∧ ∀ j u, vs[j]? = some u → ι ad.block (ad.off + j) = some u
 | .sl sz n f, y => ∃ A c, y = .slice A n c ∧ n ≤ c ∧ c ≤ maxLen ∧ ∀ k, k < n → ∃ ad vs, A = some ad ∧ ad.spot = none ∧ AV.Rs ρ ι (f k) vs ∧ vs.length = sz ∧ ∀ j u, vs[j]? = some u → ι ad.block (ad.off + k * sz + j) = some u
 | .junk, _ => True
 | .anyb, y => ∃ b, y = .bool b
def AV.Rs (ρ : Rho) (ι : Imm) : List AV → List Value → Prop
 | [], vs => vs = []
 | x :: xs, vs => ∃ u us, vs = u :: us ∧ AV.R ρ ι x u ∧ AV.Rs ρ ι xs us
end
def Imm.le (ι ι' : Imm) : Prop := ∀ b o v, ι b o = some v → ι' b o = some v
def Rho.le (ρ ρ' : Rho) : Prop := ∀ h hv, ρ h = some hv → ∃ hu : HV, ρ' h = some hu ∧ hu.blk = hv.blk ∧ hu.room = hv.room
theorem Imm.le.refl (ι : Imm) : Imm.le ι ι := fun _ _ _ h => h
theorem Imm.le.trans {a b c : Imm} (h : Imm.le a b) (h' : Imm.le b c) : Imm.le a c := fun _ _ _ x => h' _ _ _ (h _ _ _ x)
theorem Rho.le.refl (ρ : Rho) : Rho.le ρ ρ := fun _ hv h => ⟨hv, h, rfl, rfl⟩
theorem Rho.le.trans {a b c : Rho} (h : Rho.le a b) (h' : Rho.le b c) : Rho.le a c := fun _ _ x => by
 obtain ⟨u, h1, h2, h3⟩ := h _ _ x
 obtain ⟨v, g1, g2, g3⟩ := h' _ _ h1
 exact ⟨v, g1, g2.trans h2, g3.trans h3⟩
mutual
theorem IV.R_mono {ι ι' : Imm} (hι : Imm.le ι ι') : ∀ (x : IV) (y : Value), x.R ι y → x.R ι' y
 | .v x, y, h => by simpa [IV.R] using h
 | .str l, y, h => by simpa [IV.R] using h
 | .bs l, y, h => by
   simp only [IV.R] at h ⊢
   obtain ⟨A, c, h1, h2, h3, h4⟩ := h
   exact ⟨A, c, h1, h2, h3, fun k hk => let ⟨ad, e, s, r⟩ := h4 k hk; ⟨ad, e, s, hι _ _ _ r⟩⟩
 | .sl sz n f, y, h => by
   simp only [IV.R] at h ⊢
   obtain ⟨A, c, h1, h2, h3, h4⟩ := h
   exact ⟨A, c, h1, h2, h3, fun k hk => let ⟨ad, vs, e, s, r, l, g⟩ := h4 k hk; ⟨ad, vs, e, s, IV.Rs_mono hι (f k) vs r, l, fun j u hu => hι _ _ _ (g j u hu)⟩⟩
 | .pp cs, y, h => by
   simp only [IV.R] at h ⊢
   obtain ⟨ad, vs, e, s, r, g⟩ := h
   exact ⟨ad, vs, e, s, IV.Rs_mono hι cs vs r, fun j u hu => hι _ _ _ (g j u hu)⟩
 | .agg cs, y, h => by
   simp only [IV.R] at h ⊢
   obtain ⟨vs, e, r⟩ := h
   exact ⟨vs, e, IV.Rs_mono hι cs vs r⟩
 | .ifc t x, y, h => by
   simp only [IV.R] at h ⊢
   obtain ⟨u, e, r⟩ := h
   exact ⟨u, e, IV.R_mono hι x u r⟩
 | .fnc fn a c, y, h => by
   simp only [IV.R] at h ⊢
   obtain ⟨as, cs, e, r, r'⟩ := h
   exact ⟨as, cs, e, IV.Rs_mono hι a as r, IV.Rs_mono hι c cs r'⟩
theorem IV.Rs_mono {ι ι' : Imm} (hι : Imm.le ι ι') : ∀ (x : List IV) (y : List Value), IV.Rs ι x y → IV.Rs ι' x y
 | [], y, h => by simpa [IV.Rs] using h
 | x :: xs, y, h => by
   simp only [IV.Rs] at h ⊢
   obtain ⟨u, us, e, r, r'⟩ := h
   exact ⟨u, us, e, IV.R_mono hι x u r, IV.Rs_mono hι xs us r'⟩
end
mutual
theorem AV.R_mono {ρ ρ' : Rho} {ι ι' : Imm} (hρ : Rho.le ρ ρ') (hι : Imm.le ι ι') : ∀ (x : AV) (y : Value), x.R ρ ι y → x.R ρ' ι' y
 | .iv x, y, h => by simp only [AV.R] at h ⊢; exact x.R_mono hι y h
 | .ptr .., y, h => by simp only [AV.R] at h ⊢; obtain ⟨hv, b, h1, h2, h3⟩ := h; obtain ⟨hu, g1, g2, _⟩ := hρ _ _ h1; exact ⟨hu, b, g1, g2.trans h2, h3⟩
 | .el .., y, h => by simp only [AV.R] at h ⊢; obtain ⟨hv, b, h1, h2, h3⟩ := h; obtain ⟨hu, g1, g2, _⟩ := hρ _ _ h1; exact ⟨hu, b, g1, g2.trans h2, h3⟩
 | .row .., y, h => by
   simp only [AV.R] at h ⊢
   obtain ⟨A, c, h1, h2, h3, h4⟩ := h
   refine ⟨A, c, h1, h2, h3, fun h0 => ?_⟩
   obtain ⟨hv, b, g1, g2, g3, g4⟩ := h4 h0
   obtain ⟨hu, k1, k2, k3⟩ := hρ _ _ g1
   exact ⟨hu, b, k1, k2.trans g2, g3, by rw [k3]; exact g4⟩
 | .mp .., y, h => by simp only [AV.R] at h ⊢; obtain ⟨hv, b, h1, h2, h3⟩ := h; obtain ⟨hu, g1, g2, _⟩ := hρ _ _ h1; exact ⟨hu, b, g1, g2.trans h2, h3⟩
 | .agg cs, y, h => by simp only [AV.R] at h ⊢; obtain ⟨vs, e, r⟩ := h; exact ⟨vs, e, AV.Rs_mono hρ hι cs vs r⟩
 | .tup cs, y, h => by simp only [AV.R] at h ⊢; obtain ⟨vs, e, r⟩ := h; exact ⟨vs, e, AV.Rs_mono hρ hι cs vs r⟩
 | .ifc t x, y, h => by simp only [AV.R] at h ⊢; obtain ⟨u, e, r⟩ := h; exact ⟨u, e, AV.R_mono hρ hι x u r⟩
 | .fnc fn a c, y, h => by
   simp only [AV.R] at h ⊢
   obtain ⟨as, cs, e, r, r'⟩ := h
   exact ⟨as, cs, e, AV.Rs_mono hρ hι a as r, AV.Rs_mono hρ hι c cs r'⟩
 | .pp cs, y, h => by
   simp only [AV.R] at h ⊢
   obtain ⟨ad, vs, e, s, r, g⟩ := h
   exact ⟨ad, vs, e, s, AV.Rs_mono hρ hι cs vs r, fun j u hu => hι _ _ _ (g j u hu)⟩
 | .sl sz n f, y, h => by
   simp only [AV.R] at h ⊢
   obtain ⟨A, c, h1, h2, h3, h4⟩ := h
   exact ⟨A, c, h1, h2, h3, fun k hk => let ⟨ad, vs, e, s, r, l, g⟩ := h4 k hk; ⟨ad, vs, e, s, AV.Rs_mono hρ hι (f k) vs r, l, fun j u hu => hι _ _ _ (g j u hu)⟩⟩
 | .junk, y, h => by simp only [AV.R]
 | .anyb, y, h => by simpa only [AV.R] using h
theorem AV.Rs_mono {ρ ρ' : Rho} {ι ι' : Imm} (hρ : Rho.le ρ ρ') (hι : Imm.le ι ι') : ∀ (x : List AV) (y : List Value), AV.Rs ρ ι x y → AV.Rs ρ' ι' x y
 | [], y, h => by simpa [AV.Rs] using h
 | x :: xs, y, h => by
   simp only [AV.Rs] at h ⊢
   obtain ⟨u, us, e, r, r'⟩ := h
   exact ⟨u, us, e, AV.R_mono hρ hι x u r, AV.Rs_mono hρ hι xs us r'⟩
end
inductive MK where
 | s (l : List UInt8)
 | i (k : IntKind) (n : Int)
 deriving DecidableEq
def MK.kind : MK → Option IntKind
 | .s _ => none
 | .i k _ => some k
def MK.val : MK → Value
 | .s l => .string ⟨l.toArray⟩
 | .i k n => .int k n
def ZipR {X : Type} (R : X → Value → Prop) : List MapEntry → List (MK × X) → Prop
 | [], m => m = []
 | e :: es, m => ∃ p ps, m = p :: ps ∧ e.key = p.1.val ∧ R p.2 e.val ∧ ZipR R es ps
structure MapR {X : Type} (R : X → Value → Prop) (kk : Option IntKind) (m : List (MK × X)) (es : Array MapEntry) (clock : Nat) : Prop where
 kind : ∀ p ∈ m, p.1.kind = kk
 zip : ∃ l : List MapEntry, l.Perm es.toList ∧ ZipR R l m
 keys : (m.map (·.1)).Nodup
 born : (es.toList.map (·.born)).Nodup
 clock : ∀ e ∈ es.toList, e.born < clock
structure SemP where
 R : Imm → HV → World → Prop
 loc : ∀ ι ι' hv w w', Imm.le ι ι' → (∀ k, hv.foot k → w'.heap[k]? = w.heap[k]?) → R ι hv w → R ι' hv w'
inductive Chunk where
 | cells (e : TypeId) (cs : List AV)
 | rowc (e : TypeId) (sz n : Nat) (f : Nat → List IV)
 | brow (e : TypeId) (l : List UInt8)
 | map (kk : Option IntKind) (m : List (MK × IV))
 | maph (kk : Option IntKind) (m : List (MK × AV))
 | icells (cs : List IV)
 | gmap (g : Nat) (kk : Option IntKind) (m : List (MK × IV)) (es : Array MapEntry) (clock : Nat)
 | mapit (kk : Option IntKind) (m : List (MK × IV)) (left : List MK) (i : Nat) (la : Option (MK × IV))
 | sem (S : SemP)
def FrOk (fr : Nat × Nat) (n : Nat) : Prop := fr.1 ≤ fr.2 ∧ ∀ j, j < n → (decide (fr.1 ≤ j) && decide (j < fr.2)) = false
theorem FrOk.zero (n : Nat) : FrOk (0, 0) n := ⟨Nat.le_refl _, fun j _ => by simp⟩
def RowAt (ι : Imm) (sz n : Nat) (f : Nat → List IV) (arr : Array Value) : Prop :=
 ∀ i, i < n → ∃ vs, IV.Rs ι (f i) vs ∧ vs.length = sz ∧ (∀ v ∈ vs, v.oneCell' = true) ∧ ∀ j u, vs[j]? = some u → arr[i * sz + j]? = some u
def Chunk.R (ρ : Rho) (ι : Imm) (hv : HV) (w : World) : Chunk → Prop
 | .cells e cs => ∃ b vs, hv.blk = some b ∧ (∀ k, hv.foot k ↔ k = b) ∧ w.heap[b]? = some (.cells vs.toArray e (0, 0)) ∧ AV.Rs ρ ι cs vs
 | .rowc e sz n f => (hv.blk = none ∧ n = 0 ∧ ∀ k, ¬ hv.foot k) ∨
    ∃ b arr fr, hv.blk = some b ∧ (∀ k, hv.foot k ↔ k = b) ∧ w.heap[b]? = some (.cells arr e fr) ∧ arr.size = hv.room ∧ FrOk fr arr.size ∧ n * sz ≤ arr.size ∧ RowAt ι sz n f arr
 | .brow e l => (hv.blk = none ∧ l = [] ∧ ∀ k, ¬ hv.foot k) ∨
    ∃ b arr fr, hv.blk = some b ∧ (∀ k, hv.foot k ↔ k = b) ∧ w.heap[b]? = some (.cells arr e fr) ∧ arr.size = hv.room ∧ FrOk fr arr.size ∧ l.length ≤ arr.size ∧ ∀ i, i < l.length → arr[i]? = some (.int .u8 ((l.getD i 0).toNat : Int))
 | .map kk m => ∃ b es clock, hv.blk = some b ∧ (∀ k, hv.foot k ↔ k = b) ∧ w.heap[b]? = some (.map es clock) ∧ MapR (IV.R ι) kk m es clock
 | .maph kk m => ∃ b es clock, hv.blk = some b ∧ (∀ k, hv.foot k ↔ k = b) ∧ w.heap[b]? = some (.map es clock) ∧ MapR (AV.R ρ ι) kk m es clock
 | .icells cs => (∀ k, ¬ hv.foot k) ∧ ∃ b vs, hv.blk = some b ∧ IV.Rs ι cs vs ∧ ∀ j u, vs[j]? = some u → ι b j = some u
 | .gmap g kk m es clock => ∃ b, hv.blk = some b ∧ (∀ k, hv.foot k ↔ k = b) ∧ w.heap[b]? = some (.map es clock) ∧ MapR (IV.R ι) kk m es clock ∧ ι g 0 = some (.map (some b))
 | .mapit kk m left i la => ∃ b it hi es clock since seen last, hv.blk = some b ∧ ρ i = some hi ∧ hi.blk = some it ∧ it ≠ b ∧ (∀ k, hv.foot k ↔ k = b ∨ k = it) ∧ w.heap[b]? = some (.map es clock) ∧ w.heap[it]? = some (.mapIter (some b) since seen last) ∧ MapR (IV.R ι) kk m es clock ∧ (since ≤ last ∧ since ≤ clock) ∧ (∀ e ∈ es.toList, e.born < since) ∧ (∀ e ∈ es.toList, e.born ∉ seen.toList ↔ ∃ key ∈ left, e.key = key.val) ∧ ∀ p, la = some p → clock = last ∧ ∃ e ∈ es.toList, e.key = p.1.val ∧ IV.R ι p.2 e.val ∧ seen.back? = some e.born
 | .sem S => S.R ι hv w
theorem ZipR.mono {X : Type} {R R' : X → Value → Prop} (h : ∀ x v, R x v → R' x v) : ∀ (l : List MapEntry) (m : List (MK × X)), ZipR R l m → ZipR R' l m
 | [], _, z => z
 | _ :: es, _, ⟨p, ps, h1, h2, h3, h4⟩ => ⟨p, ps, h1, h2, h _ _ h3, ZipR.mono h es ps h4⟩
theorem MapR.mono {X : Type} {R R' : X → Value → Prop} (h : ∀ x v, R x v → R' x v) {kk m es clock} (z : MapR R kk m es clock) : MapR R' kk m es clock :=
 ⟨z.kind, let ⟨l, a, b⟩ := z.zip; ⟨l, a, ZipR.mono h l m b⟩, z.keys, z.born, z.clock⟩
theorem Chunk.R.keep {ρ ρ' : Rho} {ι ι' : Imm} {hv : HV} {w w' : World} {c : Chunk} (h : c.R ρ ι hv w) (hρ : Rho.le ρ ρ') (hι : Imm.le ι ι') (hw : ∀ k, hv.foot k → w'.heap[k]? = w.heap[k]?) : c.R ρ' ι' hv w' := by
 cases c with
 | cells e cs =>
   obtain ⟨b, vs, h1, h2, h3, h4⟩ := h
   exact ⟨b, vs, h1, h2, (hw b ((h2 b).2 rfl)).trans h3, AV.Rs_mono hρ hι cs vs h4⟩
 | rowc e sz n f =>
   rcases h with h | ⟨b, arr, fr, h1, h2, h3, h4, h5, h6, h7⟩
   ·exact .inl h
   ·exact .inr ⟨b, arr, fr, h1, h2, (hw b ((h2 b).2 rfl)).trans h3, h4, h5, h6, fun i hi => let ⟨vs, a, l, o, g⟩ := h7 i hi; ⟨vs, IV.Rs_mono hι _ _ a, l, o, g⟩⟩
 | brow e l =>
   rcases h with h | ⟨b, arr, fr, h1, h2, h3, h4⟩
   ·exact .inl h
   ·exact .inr ⟨b, arr, fr, h1, h2, (hw b ((h2 b).2 rfl)).trans h3, h4⟩
 | map kk m =>
   obtain ⟨b, es, clock, h1, h2, h3, h4⟩ := h
   exact ⟨b, es, clock, h1, h2, (hw b ((h2 b).2 rfl)).trans h3, h4.mono (IV.R_mono hι)⟩
 | maph kk m =>
   obtain ⟨b, es, clock, h1, h2, h3, h4⟩ := h
   exact ⟨b, es, clock, h1, h2, (hw b ((h2 b).2 rfl)).trans h3, h4.mono (AV.R_mono hρ hι)⟩
 | icells cs =>
   obtain ⟨h0, b, vs, h1, h2, h3⟩ := h
   exact ⟨h0, b, vs, h1, IV.Rs_mono hι _ _ h2, fun j u hj => hι _ _ _ (h3 j u hj)⟩
 | gmap g kk m es clock =>
   obtain ⟨b, h1, h2, h3, h4, h5⟩ := h
   exact ⟨b, h1, h2, (hw b ((h2 b).2 rfl)).trans h3, h4.mono (IV.R_mono hι), hι _ _ _ h5⟩
 | mapit kk m left i la =>
   obtain ⟨b, it, hi, es, clock, since, seen, last, h1, h2, h3, h4, h5, h6, h7, h8, h9, h10, h11, h12⟩ := h
   obtain ⟨hu, g1, g2, _⟩ := hρ _ _ h2
   exact ⟨b, it, hu, es, clock, since, seen, last, h1, g1, g2.trans h3, h4, h5, (hw b ((h5 b).2 (.inl rfl))).trans h6, (hw it ((h5 it).2 (.inr rfl))).trans h7, h8.mono (IV.R_mono hι), h9, h10, h11, fun p hp => let ⟨e0, e, e1, e2, e3, e4⟩ := h12 p hp; ⟨e0, e, e1, e2, IV.R_mono hι _ _ e3, e4⟩⟩
 | sem S => exact S.loc _ _ _ _ _ hι hw h
structure AH where
 next : Nat
 ch : List (Nat × Chunk)
def AH.get (H : AH) (h : Nat) : Option Chunk := go H.ch
where go : List (Nat × Chunk) → Option Chunk
 | [] => none
 | p :: ps => bif Nat.beq p.1 h then some p.2 else go ps
def AH.set (H : AH) (h : Nat) (c : Chunk) : AH := ⟨H.next, go H.ch⟩
where go : List (Nat × Chunk) → List (Nat × Chunk)
 | [] => []
 | p :: ps => bif Nat.beq p.1 h then (p.1, c) :: ps else p :: go ps
def AH.add (H : AH) (c : Chunk) : AH := ⟨H.next + 1, H.ch ++ [(H.next, c)]⟩
def AH.del (H : AH) (h : Nat) : AH := ⟨H.next, go H.ch⟩
where go : List (Nat × Chunk) → List (Nat × Chunk)
 | [] => []
 | p :: ps => bif Nat.beq p.1 h then ps else p :: go ps
def AH.foot (H : AH) (ρ : Rho) (k : Nat) : Prop := ∃ p ∈ H.ch, ∃ hv, ρ p.1 = some hv ∧ hv.foot k
structure Touch (S : Nat → Prop) (w w' : World) : Prop where
 os : w'.os = w.os
 tape : w'.tape = w.tape
 output : w'.output = w.output
 size : w.heap.size ≤ w'.heap.size
 block : ∀ k, k < w.heap.size → ¬ S k → w'.heap[k]? = w.heap[k]?
structure SR (ρ : Rho) (ι : Imm) (H : AH) (w : World) : Prop where
 imm : ∀ b o v, ι b o = some v → w.cell? ⟨b, o, none⟩ = some v
 one : ∀ b o v, ι b o = some v → v.oneCell' = true
 rel : ∀ p ∈ H.ch, ∃ hv, ρ p.1 = some hv ∧ p.2.R ρ ι hv w
 fresh : ∀ h, H.next ≤ h → ρ h = none
 nodup : (H.ch.map (·.1)).Nodup
 apart : ∀ p ∈ H.ch, ∀ q ∈ H.ch, p.1 ≠ q.1 → ∀ hv hu, ρ p.1 = some hv → ρ q.1 = some hu → ∀ k, hv.foot k → ¬ hu.foot k
 iapart : ∀ p ∈ H.ch, ∀ hv, ρ p.1 = some hv → ∀ k o v, hv.foot k → ι k o ≠ some v
 lt : ∀ p ∈ H.ch, ∀ hv, ρ p.1 = some hv → ∀ k, hv.foot k → k < w.heap.size
structure Went (ρ : Rho) (ι : Imm) (H : AH) (w : World) (ρ' : Rho) (ι' : Imm) (H' : AH) (w' : World) : Prop where
 touch : Touch (H.foot ρ) w w'
 grow : ∀ k, H'.foot ρ' k → H.foot ρ k ∨ w.heap.size ≤ k
 imm : Imm.le ι ι'
 immNew : ∀ b o v, ι' b o = some v → ι b o = some v ∨ H.foot ρ b ∨ w.heap.size ≤ b
 agree : Rho.le ρ ρ'
structure WentB (n : Nat) (ρ : Rho) (ι : Imm) (H : AH) (w : World) (ρ' : Rho) (ι' : Imm) (H' : AH) (w' : World) : Prop where
 touch : Touch (H.foot ρ) w w'
 grow : ∀ k, H'.foot ρ' k → H.foot ρ k ∨ w.heap.size ≤ k
 imm : Imm.le ι ι'
 immNew : ∀ b o v, ι' b o = some v → ι b o = some v ∨ H.foot ρ b ∨ w.heap.size ≤ b
 agree : ∀ h hv, h < n → ρ h = some hv → ∃ hu : HV, ρ' h = some hu ∧ hu.blk = hv.blk ∧ hu.room = hv.room
theorem Went.weak {n ρ ι H w ρ' ι' H' w'} (h : Went ρ ι H w ρ' ι' H' w') : WentB n ρ ι H w ρ' ι' H' w' := ⟨h.touch, h.grow, h.imm, h.immNew, fun k hv _ hh => h.agree k hv hh⟩
theorem Touch.refl (S : Nat → Prop) (w : World) : Touch S w w := ⟨rfl, rfl, rfl, Nat.le_refl _, fun _ _ _ => rfl⟩
theorem Went.refl (ρ : Rho) (ι : Imm) (H : AH) (w : World) : Went ρ ι H w ρ ι H w :=
 ⟨Touch.refl _ _, fun _ h => .inl h, Imm.le.refl _, fun _ _ _ h => .inl h, Rho.le.refl _⟩
theorem Went.trans {ρ ι H w ρ' ι' H' w' ρ'' ι'' H'' w''} (h : Went ρ ι H w ρ' ι' H' w') (h' : Went ρ' ι' H' w' ρ'' ι'' H'' w'') : Went ρ ι H w ρ'' ι'' H'' w'' := by
 refine ⟨⟨h'.touch.os.trans h.touch.os, h'.touch.tape.trans h.touch.tape, h'.touch.output.trans h.touch.output, Nat.le_trans h.touch.size h'.touch.size, fun k hk hs => ?_⟩, fun k hk => ?_, h.imm.trans h'.imm, fun b o v hv => ?_, h.agree.trans h'.agree⟩
 ·refine (h'.touch.block k (Nat.lt_of_lt_of_le hk h.touch.size) fun hf => ?_).trans (h.touch.block k hk hs)
  rcases h.grow k hf with h1 | h1
  ·exact hs h1
  ·omega
 ·rcases h'.grow k hk with h1 | h1
  ·exact h.grow k h1
  ·exact .inr (Nat.le_trans h.touch.size h1)
 ·rcases h'.immNew b o v hv with h1 | h1 | h1
  ·exact h.immNew b o v h1
  ·exact (h.grow b h1).elim (fun x => .inr (.inl x)) (fun x => .inr (.inr x))
  ·exact .inr (.inr (Nat.le_trans h.touch.size h1))
theorem WentB.trans {n ρ ι H w ρ' ι' H' w' ρ'' ι'' H'' w''} (h : WentB n ρ ι H w ρ' ι' H' w') (h' : WentB n ρ' ι' H' w' ρ'' ι'' H'' w'') : WentB n ρ ι H w ρ'' ι'' H'' w'' := by
 refine ⟨⟨h'.touch.os.trans h.touch.os, h'.touch.tape.trans h.touch.tape, h'.touch.output.trans h.touch.output, Nat.le_trans h.touch.size h'.touch.size, fun k hk hs => ?_⟩, fun k hk => ?_, h.imm.trans h'.imm, fun b o v hv => ?_, fun k hv hk hh => by
  obtain ⟨u, h1, h2, h3⟩ := h.agree k hv hk hh
  obtain ⟨v, g1, g2, g3⟩ := h'.agree k u hk h1
  exact ⟨v, g1, g2.trans h2, g3.trans h3⟩⟩
 ·refine (h'.touch.block k (Nat.lt_of_lt_of_le hk h.touch.size) fun hf => ?_).trans (h.touch.block k hk hs)
  rcases h.grow k hf with h1 | h1
  ·exact hs h1
  ·omega
 ·rcases h'.grow k hk with h1 | h1
  ·exact h.grow k h1
  ·exact .inr (Nat.le_trans h.touch.size h1)
 ·rcases h'.immNew b o v hv with h1 | h1 | h1
  ·exact h.immNew b o v h1
  ·exact (h.grow b h1).elim (fun x => .inr (.inl x)) (fun x => .inr (.inr x))
  ·exact .inr (.inr (Nat.le_trans h.touch.size h1))
theorem WentB.refl (n : Nat) (ρ : Rho) (ι : Imm) (H : AH) (w : World) : WentB n ρ ι H w ρ ι H w := (Went.refl ρ ι H w).weak
theorem AH.get_mem {H : AH} {h : Nat} {c : Chunk} (e : H.get h = some c) : (h, c) ∈ H.ch := by
 unfold AH.get at e
 generalize H.ch = l at *
 induction l with
 | nil => cases e
 | cons p ps ih =>
   unfold AH.get.go at e
   cases hb : Nat.beq p.1 h with
   | true =>
     rw [hb] at e
     simp only [cond_true, Option.some.injEq] at e
     have := Nat.eq_of_beq_eq_true hb
     cases p
     simp_all
   | false =>
     rw [hb] at e
     exact List.mem_cons_of_mem _ (ih e)
theorem AH.keys_set (H : AH) (h : Nat) (c : Chunk) : (H.set h c).ch.map (·.1) = H.ch.map (·.1) := by
 unfold AH.set
 generalize H.ch = l
 induction l with
 | nil => rfl
 | cons q qs ih =>
   simp only [AH.set.go]
   cases Nat.beq q.1 h with
   | true => rfl
   | false => simp only [cond_false, List.map_cons]; exact congrArg _ ih
theorem AH.mem_del {H : AH} {h : Nat} : ∀ p ∈ (H.del h).ch, p ∈ H.ch := by
 unfold AH.del
 generalize H.ch = l
 induction l with
 | nil => intro p hp; cases hp
 | cons q qs ih =>
   intro p hp
   simp only [AH.del.go] at hp
   cases hb : Nat.beq q.1 h with
   | true => simp only [hb, cond_true] at hp; exact List.mem_cons_of_mem _ hp
   | false =>
     simp only [hb, cond_false, List.mem_cons] at hp
     rcases hp with rfl | hp
     ·exact List.mem_cons_self ..
     ·exact List.mem_cons_of_mem _ (ih p hp)
theorem AH.nodup_del {H : AH} (h : Nat) (hn : (H.ch.map (·.1)).Nodup) : ((H.del h).ch.map (·.1)).Nodup := by
 unfold AH.del
 generalize H.ch = l at *
 induction l with
 | nil => simp [AH.del.go]
 | cons q qs ih =>
   simp only [AH.del.go]
   simp only [List.map_cons, List.nodup_cons] at hn
   cases hb : Nat.beq q.1 h with
   | true => exact hn.2
   | false =>
     simp only [cond_false, List.map_cons, List.nodup_cons]
     refine ⟨fun hm => hn.1 ?_, ih hn.2⟩
     obtain ⟨p, hp, e⟩ := List.mem_map.1 hm
     exact List.mem_map.2 ⟨p, AH.mem_del (H := ⟨0, qs⟩) (h := h) p hp, e⟩
theorem AH.key_del {H : AH} {h : Nat} (hn : (H.ch.map (·.1)).Nodup) : ∀ p ∈ (H.del h).ch, p.1 ≠ h := by
 unfold AH.del
 generalize H.ch = l at *
 induction l with
 | nil => intro p hp; cases hp
 | cons q qs ih =>
   intro p hp
   simp only [List.map_cons, List.nodup_cons] at hn
   simp only [AH.del.go] at hp
   cases hb : Nat.beq q.1 h with
   | true =>
     have hq := Nat.eq_of_beq_eq_true hb
     simp only [hb, cond_true] at hp
     intro e
     exact hn.1 (by rw [hq, ← e]; exact List.mem_map_of_mem hp)
   | false =>
     simp only [hb, cond_false, List.mem_cons] at hp
     rcases hp with rfl | hp
     ·intro e; rw [e] at hb; simp at hb
     ·exact ih hn.2 p hp
theorem SR.hv {ρ ι H w} (h : SR ρ ι H w) {k : Nat} {c : Chunk} (hc : H.get k = some c) : ∃ hv, ρ k = some hv ∧ c.R ρ ι hv w := h.rel _ (AH.get_mem hc)
theorem AH.footI {H : AH} {ρ : Rho} {h k : Nat} {c : Chunk} {hv : HV} (hc : H.get h = some c) (hr : ρ h = some hv) (hk : hv.foot k) : H.foot ρ k := ⟨_, AH.get_mem hc, hv, hr, hk⟩
theorem SR.drew {ρ ι H w} (h : SR ρ ι H w) : SR ρ ι H w.drew :=
 ⟨fun b o v hv => (World.cell?_drew w _).trans (h.imm b o v hv), h.one, fun p hp => let ⟨hv, a, r⟩ := h.rel p hp; ⟨hv, a, r.keep (Rho.le.refl _) (Imm.le.refl _) fun _ _ => rfl⟩, h.fresh, h.nodup, h.apart, h.iapart, h.lt⟩
theorem Went.drew (ρ : Rho) (ι : Imm) (H : AH) (w : World) : Went ρ ι H w ρ ι H w.drew :=
 ⟨⟨rfl, rfl, rfl, Nat.le_refl _, fun _ _ _ => rfl⟩, fun _ h => .inl h, Imm.le.refl _, fun _ _ _ h => .inl h, Rho.le.refl _⟩
def Rho.upd (ρ : Rho) (h : Nat) (hv : HV) : Rho := fun k => if k = h then some hv else ρ k
theorem Rho.upd_old {ρ : Rho} {h k : Nat} {hv u : HV} (hf : ρ h = none) (hk : ρ k = some u) : ρ.upd h hv k = some u := by
 unfold Rho.upd
 by_cases e : k = h
 ·subst e; rw [hf] at hk; cases hk
 ·rw [if_neg e]; exact hk
theorem Rho.le_upd {ρ : Rho} {h : Nat} (hv : HV) (hf : ρ h = none) : Rho.le ρ (ρ.upd h hv) := fun k u hk => by
 refine ⟨u, ?_, rfl, rfl⟩
 unfold Rho.upd
 by_cases e : k = h
 ·subst e; rw [hf] at hk; cases hk
 ·rw [if_neg e]; exact hk
theorem Rho.upd_same (ρ : Rho) (h : Nat) (hv : HV) : ρ.upd h hv h = some hv := if_pos rfl
theorem AH.mem_add {H : AH} {c : Chunk} {p : Nat × Chunk} (h : p ∈ (H.add c).ch) : p = (H.next, c) ∨ p ∈ H.ch := by
 rcases List.mem_append.1 h with h | h
 ·exact .inr h
 ·exact .inl (by simpa using h)
theorem AH.nodup_add {H : AH} {c : Chunk} (hn : (H.ch.map (·.1)).Nodup) (hne : ∀ p ∈ H.ch, p.1 ≠ H.next) : ((H.add c).ch.map (·.1)).Nodup := by
 unfold AH.add
 simp only [List.map_append, List.map_cons, List.map_nil]
 rw [List.nodup_append]
 refine ⟨hn, by simp, fun a ha b hb => ?_⟩
 simp at hb
 subst hb
 obtain ⟨p, hp, rfl⟩ := List.mem_map.1 ha
 exact hne p hp
theorem SR.add {ρ ι H w w'} (h : SR ρ ι H w) (c : Chunk) (hv : HV) (ht : Touch (fun _ => False) w w') (hf : ∀ k, hv.foot k → w.heap.size ≤ k ∧ k < w'.heap.size)
 (hc : c.R (ρ.upd H.next hv) ι hv w') : SR (ρ.upd H.next hv) ι (H.add c) w' ∧ Went ρ ι H w (ρ.upd H.next hv) ι (H.add c) w' := by
 have hfr := h.fresh H.next (Nat.le_refl _)
 have hle := Rho.le_upd hv hfr
 have hne : ∀ p ∈ H.ch, p.1 ≠ H.next := fun p hp e => by
  obtain ⟨u, hu, _⟩ := h.rel p hp
  rw [e, hfr] at hu; cases hu
 have old : ∀ p ∈ H.ch, ∀ u, (ρ.upd H.next hv) p.1 = some u → ρ p.1 = some u := fun p hp u hu => by
  unfold Rho.upd at hu
  rwa [if_neg (hne p hp)] at hu
 have keepB : ∀ k, k < w.heap.size → w'.heap[k]? = w.heap[k]? := fun k hk => ht.block k hk fun f => f.elim
 refine ⟨⟨fun b o v hi => ?_, h.one, fun p hp => ?_, fun k hk => ?_, ?_, fun p hp q hq hpq a b ha hb k hk => ?_, fun p hp a ha k o v hk => ?_, fun p hp a ha k hk => ?_⟩, ⟨⟨ht.os, ht.tape, ht.output, ht.size, fun k hk _ => keepB k hk⟩, fun k hk => ?_, Imm.le.refl _, fun _ _ _ x => .inl x, hle⟩⟩
 ·have h1 := h.imm b o v hi
  rw [← h1]
  exact World.cell?_of_block (keepB b (World.block_lt_of_cell? w _ h1))
 ·rcases AH.mem_add hp with rfl | hp
  ·exact ⟨hv, Rho.upd_same _ _ _, hc⟩
  ·obtain ⟨u, hu, r⟩ := h.rel p hp
   exact ⟨u, Rho.upd_old hfr hu, r.keep hle (Imm.le.refl _) fun k hk => keepB k (h.lt p hp u hu k hk)⟩
 ·have hk' : H.next + 1 ≤ k := hk
  unfold Rho.upd
  rw [if_neg (by omega)]
  exact h.fresh k (by omega)
 ·exact AH.nodup_add h.nodup hne
 ·rcases AH.mem_add hp with rfl | hp <;> rcases AH.mem_add hq with rfl | hq
  ·exact absurd rfl hpq
  ·rw [Rho.upd_same] at ha
   injection ha with ha
   subst ha
   intro hb2
   have := h.lt q hq b (old q hq b hb) k hb2
   have := (hf k hk).1
   omega
  ·rw [Rho.upd_same] at hb
   injection hb with hb
   subst hb
   intro hb2
   have := h.lt p hp a (old p hp a ha) k hk
   have := (hf k hb2).1
   omega
  ·exact h.apart p hp q hq hpq a b (old p hp a ha) (old q hq b hb) k hk
 ·rcases AH.mem_add hp with rfl | hp
  ·rw [Rho.upd_same] at ha
   injection ha with ha
   subst ha
   intro hi
   have := World.block_lt_of_cell? w _ (h.imm k o v hi)
   have h2 := (hf k hk).1
   exact absurd this (Nat.not_lt.2 h2)
  ·exact h.iapart p hp a (old p hp a ha) k o v hk
 ·rcases AH.mem_add hp with rfl | hp
  ·rw [Rho.upd_same] at ha
   injection ha with ha
   subst ha
   exact (hf k hk).2
  ·exact Nat.lt_of_lt_of_le (h.lt p hp a (old p hp a ha) k hk) ht.size
 ·obtain ⟨p, hp, u, hu, hk⟩ := hk
  rcases AH.mem_add hp with rfl | hp
  ·rw [Rho.upd_same] at hu
   injection hu with hu
   subst hu
   exact .inr (hf k hk).1
  ·exact .inl ⟨p, hp, u, old p hp u hu, hk⟩
theorem AH.mem_set' {H : AH} {h : Nat} {c : Chunk} (hn : (H.ch.map (·.1)).Nodup) : ∀ p ∈ (H.set h c).ch, (p ∈ H.ch ∧ p.1 ≠ h) ∨ p = (h, c) := by
 unfold AH.set
 generalize H.ch = l at *
 induction l with
 | nil => intro p hp; cases hp
 | cons q qs ih =>
   intro p hp
   simp only [List.map_cons, List.nodup_cons] at hn
   simp only [AH.set.go] at hp ⊢
   cases hb : Nat.beq q.1 h with
   | true =>
     have hq := Nat.eq_of_beq_eq_true hb
     simp only [hb, cond_true, List.mem_cons] at hp
     rcases hp with rfl | hp
     ·exact .inr (by rw [hq])
     ·exact .inl ⟨List.mem_cons_of_mem _ hp, fun e => hn.1 (by rw [hq, ← e]; exact List.mem_map_of_mem hp)⟩
   | false =>
     simp only [hb, cond_false, List.mem_cons] at hp
     rcases hp with rfl | hp
     ·exact .inl ⟨List.mem_cons_self .., fun e => by rw [e] at hb; simp at hb⟩
     ·rcases ih hn.2 p hp with h1 | h1
      ·exact .inl ⟨List.mem_cons_of_mem _ h1.1, h1.2⟩
      ·exact .inr h1
theorem SR.turn {ρ ι H w w'} (h : SR ρ ι H w) {k : Nat} {c c' : Chunk} {hv : HV} (hc : H.get k = some c) (hr : ρ k = some hv) (ht : Touch hv.foot w w')
 (hc' : c'.R ρ ι hv w') : SR ρ ι (H.set k c') w' ∧ Went ρ ι H w ρ ι (H.set k c') w' := by
 have hm := AH.get_mem hc
 have mem := AH.mem_set' (h := k) (c := c') h.nodup
 have key : ∀ p ∈ (H.set k c').ch, ∃ q ∈ H.ch, q.1 = p.1 := fun p hp => by
  rcases mem p hp with h1 | h1
  ·exact ⟨p, h1.1, rfl⟩
  ·exact ⟨_, hm, by rw [h1]⟩
 have keepB : ∀ b, b < w.heap.size → ¬ hv.foot b → w'.heap[b]? = w.heap[b]? := fun b hb hs => ht.block b hb hs
 refine ⟨⟨fun b o v hi => ?_, h.one, fun p hp => ?_, h.fresh, ?_, fun p hp q hq hpq a b ha hb => ?_, fun p hp a ha => ?_, fun p hp a ha j hj => ?_⟩, ⟨⟨ht.os, ht.tape, ht.output, ht.size, fun b hb hs => keepB b hb fun hf => hs ⟨_, hm, hv, hr, hf⟩⟩, fun j hj => ?_, Imm.le.refl _, fun _ _ _ x => .inl x, Rho.le.refl _⟩⟩
 ·have h1 := h.imm b o v hi
  rw [← h1]
  exact World.cell?_of_block (keepB b (World.block_lt_of_cell? w _ h1) fun hf => h.iapart _ hm hv hr b o v hf hi)
 ·rcases mem p hp with h1 | h1
  ·obtain ⟨u, hu, r⟩ := h.rel p h1.1
   exact ⟨u, hu, r.keep (Rho.le.refl _) (Imm.le.refl _) fun j hj => keepB j (h.lt p h1.1 u hu j hj) (h.apart p h1.1 _ hm h1.2 u hv hu hr j hj)⟩
  ·subst h1
   exact ⟨hv, hr, hc'⟩
 ·rw [AH.keys_set]; exact h.nodup
 ·obtain ⟨p', hp', e⟩ := key p hp
  obtain ⟨q', hq', e'⟩ := key q hq
  exact h.apart p' hp' q' hq' (by rw [e, e']; exact hpq) a b (by rw [e]; exact ha) (by rw [e']; exact hb)
 ·obtain ⟨p', hp', e⟩ := key p hp
  exact h.iapart p' hp' a (by rw [e]; exact ha)
 ·obtain ⟨p', hp', e⟩ := key p hp
  exact Nat.lt_of_lt_of_le (h.lt p' hp' a (by rw [e]; exact ha) j hj) ht.size
 ·obtain ⟨p, hp, u, hu, hk⟩ := hj
  obtain ⟨p', hp', e⟩ := key p hp
  exact .inl ⟨p', hp', u, by rw [e]; exact hu, hk⟩
theorem SR.drop {ρ ι H w} (h : SR ρ ι H w) (k : Nat) : SR ρ ι (H.del k) w ∧ Went ρ ι H w ρ ι (H.del k) w :=
 ⟨⟨h.imm, h.one, fun p hp => h.rel p (AH.mem_del p hp), h.fresh, AH.nodup_del k h.nodup, fun p hp q hq => h.apart p (AH.mem_del p hp) q (AH.mem_del q hq), fun p hp => h.iapart p (AH.mem_del p hp), fun p hp => h.lt p (AH.mem_del p hp)⟩,
  ⟨Touch.refl _ _, fun _ ⟨p, hp, x⟩ => .inl ⟨p, AH.mem_del p hp, x⟩, Imm.le.refl _, fun _ _ _ x => .inl x, Rho.le.refl _⟩⟩
theorem SR.move {ρ ι H w w'} (h : SR ρ ι H w) {k : Nat} {c : Chunk} {hv : HV} (hc : H.get k = some c) (hr : ρ k = some hv) (c' : Chunk) (hu : HV) (ht : Touch hv.foot w w')
 (hf : ∀ j, hu.foot j → (hv.foot j ∨ w.heap.size ≤ j) ∧ j < w'.heap.size) (hc' : c'.R (ρ.upd H.next hu) ι hu w') :
 SR (ρ.upd H.next hu) ι ((H.del k).add c') w' ∧ Went ρ ι H w (ρ.upd H.next hu) ι ((H.del k).add c') w' := by
 have hm := AH.get_mem hc
 have hfr := h.fresh H.next (Nat.le_refl _)
 have hle := Rho.le_upd hu hfr
 have hne : ∀ p ∈ H.ch, p.1 ≠ H.next := fun p hp e => by
  obtain ⟨u, hu, _⟩ := h.rel p hp
  rw [e, hfr] at hu; cases hu
 have old : ∀ p ∈ H.ch, ∀ u, (ρ.upd H.next hu) p.1 = some u → ρ p.1 = some u := fun p hp u hu => by
  unfold Rho.upd at hu
  rwa [if_neg (hne p hp)] at hu
 have keepB : ∀ b, b < w.heap.size → ¬ hv.foot b → w'.heap[b]? = w.heap[b]? := fun b hb hs => ht.block b hb hs
 have mem : ∀ p ∈ ((H.del k).add c').ch, p = (H.next, c') ∨ (p ∈ H.ch ∧ p.1 ≠ k) := fun p hp => by
  rcases AH.mem_add hp with h1 | h1
  ·exact .inl h1
  ·exact .inr ⟨AH.mem_del p h1, AH.key_del h.nodup p h1⟩
 have far : ∀ p ∈ H.ch, p.1 ≠ k → ∀ a, ρ p.1 = some a → ∀ j, a.foot j → ¬ hu.foot j := fun p hp hk a ha j hj hj2 => by
  have hlt := h.lt p hp a ha j hj
  rcases (hf j hj2).1 with h1 | h1
  ·exact h.apart p hp _ hm hk a hv ha hr j hj h1
  ·omega
 refine ⟨⟨fun b o v hi => ?_, h.one, fun p hp => ?_, fun j hj => ?_, ?_, fun p hp q hq hpq a b ha hb j hj => ?_, fun p hp a ha j o v hj => ?_, fun p hp a ha j hj => ?_⟩, ⟨⟨ht.os, ht.tape, ht.output, ht.size, fun b hb hs => keepB b hb fun hf => hs ⟨_, hm, hv, hr, hf⟩⟩, fun j hj => ?_, Imm.le.refl _, fun _ _ _ x => .inl x, hle⟩⟩
 ·have h1 := h.imm b o v hi
  rw [← h1]
  exact World.cell?_of_block (keepB b (World.block_lt_of_cell? w _ h1) fun hf => h.iapart _ hm hv hr b o v hf hi)
 ·rcases mem p hp with rfl | h1
  ·exact ⟨hu, Rho.upd_same _ _ _, hc'⟩
  ·obtain ⟨u, hu', r⟩ := h.rel p h1.1
   exact ⟨u, Rho.upd_old hfr hu', r.keep hle (Imm.le.refl _) fun j hj => keepB j (h.lt p h1.1 u hu' j hj) (h.apart p h1.1 _ hm h1.2 u hv hu' hr j hj)⟩
 ·have hk' : H.next + 1 ≤ j := hj
  unfold Rho.upd
  rw [if_neg (by omega)]
  exact h.fresh j (by omega)
 ·exact AH.nodup_add (AH.nodup_del k h.nodup) fun p hp => hne p (AH.mem_del p hp)
 ·rcases mem p hp with rfl | h1 <;> rcases mem q hq with rfl | h2
  ·exact absurd rfl hpq
  ·rw [Rho.upd_same] at ha
   injection ha with ha
   subst ha
   exact fun hb2 => far q h2.1 h2.2 b (old q h2.1 b hb) j hb2 hj
  ·rw [Rho.upd_same] at hb
   injection hb with hb
   subst hb
   exact far p h1.1 h1.2 a (old p h1.1 a ha) j hj
  ·exact h.apart p h1.1 q h2.1 hpq a b (old p h1.1 a ha) (old q h2.1 b hb) j hj
 ·rcases mem p hp with rfl | h1
  ·rw [Rho.upd_same] at ha
   injection ha with ha
   subst ha
   intro hi
   rcases (hf j hj).1 with h2 | h2
   ·exact h.iapart _ hm hv hr j o v h2 hi
   ·have := World.block_lt_of_cell? w _ (h.imm j o v hi)
    exact absurd this (Nat.not_lt.2 h2)
  ·exact h.iapart p h1.1 a (old p h1.1 a ha) j o v hj
 ·rcases mem p hp with rfl | h1
  ·rw [Rho.upd_same] at ha
   injection ha with ha
   subst ha
   exact (hf j hj).2
  ·exact Nat.lt_of_lt_of_le (h.lt p h1.1 a (old p h1.1 a ha) j hj) ht.size
 ·obtain ⟨p, hp, u, hu', hk⟩ := hj
  rcases mem p hp with rfl | h1
  ·rw [Rho.upd_same] at hu'
   injection hu' with hu'
   subst hu'
   rcases (hf j hk).1 with h2 | h2
   ·exact .inl ⟨_, hm, hv, hr, h2⟩
   ·exact .inr h2
  ·exact .inl ⟨p, h1.1, u, old p h1.1 u hu', hk⟩
end Go.Proofs.YtgfkepebfaiepaaGreatDoor.Ax
