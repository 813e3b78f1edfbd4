/-
  Words of 32 bits and bytes as the walk's integers: rules for the walk.
-/
import Derived.Test.YtjhaikcokbmdbaaGreatDoorCrcMath
import Derived.WalkKit
namespace Go.Proofs.YtjhaikcokbmdbaaGreatDoor
open Go.RowKit

/-- A word's number, hidden from the walk. -/
def U (x : BitVec 32) : Int := (x.toNat : Int)
/-- A byte's number, hidden from the walk. -/
def B8 (c : UInt8) : Int := (c.toNat : Int)

theorem U_nonneg (x : BitVec 32) : 0 ≤ U x := Int.natCast_nonneg _
theorem U_lt (x : BitVec 32) : U x < 4294967296 := by unfold U; have := x.isLt; omega
theorem B8_nonneg (c : UInt8) : 0 ≤ B8 c := Int.natCast_nonneg _
theorem B8_lt (c : UInt8) : B8 c < 256 := by unfold B8; have := c.toNat_lt; omega
/-- A word as a place, hidden from the walk. -/
def N32 (x : BitVec 32) : Nat := x.toNat
theorem U_toNat (x : BitVec 32) : (U x).toNat = N32 x := Int.toNat_natCast _
theorem U_inj {x y : BitVec 32} (h : U x = U y) : x = y := by
  apply BitVec.eq_of_toNat_eq; unfold U at h; omega
theorem U_of (n : Int) (h0 : 0 ≤ n) (h1 : n < 4294967296) : n = U (BitVec.ofNat 32 n.toNat) := by
  unfold U; rw [BitVec.toNat_ofNat]; omega
theorem B8_of (n : Int) (h0 : 0 ≤ n) (h1 : n < 256) : n = B8 (UInt8.ofNat n.toNat) := by
  unfold B8; rw [UInt8.toNat_ofNat']; omega
theorem B8_inj {x y : UInt8} (h : B8 x = B8 y) : x = y := by
  apply UInt8.toNat_inj.1; unfold B8 at h; omega

theorem U_xor (x y : BitVec 32) : bits .xor .u32 (U x) (U y) = U (x ^^^ y) := by
  unfold U; rw [u32_xor_nat _ _ (by have := x.isLt; omega) (by have := y.isLt; omega), BitVec.toNat_xor]
theorem U_and (x y : BitVec 32) : bits .and .u32 (U x) (U y) = U (x &&& y) := by
  unfold U; rw [u32_and_nat _ _ (by have := x.isLt; omega) (by have := y.isLt; omega), BitVec.toNat_and]
theorem U_and_1 (x : BitVec 32) : bits .and .u32 (U x) 1 = U (x &&& 1#32) := U_and x 1#32
theorem U_and_15 (x : BitVec 32) : bits .and .u32 (U x) 15 = U (x &&& 15#32) := U_and x 15#32
theorem U_and_M (x : BitVec 32) : bits .and .u32 2197175160 (U x) = U (Cm.M &&& x) := U_and Cm.M x
theorem U_not (x : BitVec 32) : bits .xor .u32 4294967295 (U x) = U (~~~ x) := by
  have h := U_xor (BitVec.allOnes 32) x
  rw [BitVec.allOnes_xor] at h
  exact h
theorem U_not' (x : BitVec 32) : bits .xor .u32 IntKind.u32.max (U x) = U (~~~ x) := U_not x
theorem U_xor_shr (x y : BitVec 32) : bits .xor .u32 (U x / (16 : Int)) (U y) = U ((x >>> 4) ^^^ y) := by
  have e : U x / (16 : Int) = U (x >>> 4) := by
    unfold U; rw [BitVec.toNat_ushiftRight, Nat.shiftRight_eq_div_pow]; omega
  rw [e, U_xor]
theorem U_shr_1 (x : BitVec 32) : U x / (2 : Int) = U (x >>> 1) := by
  unfold U; rw [BitVec.toNat_ushiftRight, Nat.shiftRight_eq_div_pow]; omega
theorem U_shr_4 (x : BitVec 32) : U x / (16 : Int) = U (x >>> 4) := by
  unfold U; rw [BitVec.toNat_ushiftRight, Nat.shiftRight_eq_div_pow]; omega
theorem U_shr_31 (x : BitVec 32) : U x / (2147483648 : Int) = U (x >>> 31) := by
  unfold U; rw [BitVec.toNat_ushiftRight, Nat.shiftRight_eq_div_pow]; omega
theorem U_shl_1 (x : BitVec 32) : U x * (2 : Int) % (4294967296 : Int) = U (x <<< 1) := by
  unfold U; rw [BitVec.toNat_shiftLeft, Nat.shiftLeft_eq]; omega
theorem U_neg (x : BitVec 32) : -U x % (4294967296 : Int) = U (-x) := by
  unfold U; rw [BitVec.toNat_neg]; have := x.isLt; omega
theorem U_byte (c : UInt8) : B8 c % (4294967296 : Int) = U (c.toBitVec.setWidth 32) := by
  unfold U B8
  have := c.toNat_lt
  rw [BitVec.toNat_setWidth, ← UInt8.toNat.eq_1]; omega
attribute [local go_sem] U_xor U_and U_and_1 U_and_15 U_and_M U_not U_shr_1 U_shr_4 U_shr_31 U_shl_1 U_neg U_byte U_toNat U_nonneg

theorem i64_and_one (N : Nat) (h : N < 9223372036854775808) : bits .and .i64 (N : Int) 1 = ((N % 2 : Nat) : Int) := by
  have hk : ∀ n : Int, 0 ≤ n → n < 2 ^ 63 → IntKind.i64.wrap n = n := by
    intro n h0 h1; rw [IntKind.wrap_i64]; omega
  have := bits_mask .i64 63 (by decide) hk 1 (by decide) (N : Int) (by omega) (by omega)
  simpa using this
theorem U_eq_zero {x : BitVec 32} : (U x == 0) = decide (x = 0#32) := by
  rw [Bool.eq_iff_iff]; simp only [beq_iff_eq, decide_eq_true_eq]
  constructor
  · intro h; exact U_inj h
  · rintro rfl; rfl
theorem mask_neg (x b : BitVec 32) : b &&& -(x >>> 31) = if x.getMsbD 0 then b else 0#32 := by
  have h : x >>> 31 = if x.getMsbD 0 then 1#32 else 0#32 := by
    apply BitVec.eq_of_getLsbD_eq; intro i hi
    rw [BitVec.getLsbD_ushiftRight, BitVec.getMsbD_eq_getLsbD]
    rcases i with _ | i
    · cases x.getLsbD (32 - 1 - 0) <;> simp
    · rw [BitVec.getLsbD_of_ge x _ (by omega)]
      split <;> simp
  rw [h]
  split
  · have : -(1#32) = BitVec.allOnes 32 := by decide
    rw [this, BitVec.and_allOnes]
  · simp
theorem mask_step (x : BitVec 32) : (x >>> 1) ^^^ (Cm.M &&& -(x &&& 1#32)) = Cm.step x := by
  unfold Cm.step
  congr 1
  have h : x &&& 1#32 = if x.getLsbD 0 then 1#32 else 0#32 := by
    apply BitVec.eq_of_getLsbD_eq; intro i hi
    rw [BitVec.getLsbD_and]
    rcases i with _ | i
    · cases x.getLsbD 0 <;> simp
    · have h1 : (1#32).getLsbD (i + 1) = false := by simp
      rw [h1, Bool.and_false]
      split <;> simp
  rw [h]
  split
  · have : -(1#32) = BitVec.allOnes 32 := by decide
    rw [this, BitVec.and_allOnes]
  · simp

/-- What a slice reads: from its first place on, n cells, in blocks below B. -/
def Rd (w : World) (B : Nat) (A : Option Addr) (n : Nat) (f : Nat → Value) : Prop := ∀ k, k < n → ∃ ad, A = some ad ∧ ad.block < B ∧ w.cell? (ad.add k) = some (f k)
theorem add_block (a : Addr) (n : Nat) : (a.add n).block = a.block := by unfold Addr.add; split <;> rfl
theorem add_add' (a : Addr) (i j : Nat) : (a.add i).add j = a.add (i + j) := by
  unfold Addr.add
  by_cases hi : i = 0 <;> by_cases hj : j = 0 <;> simp [hi, hj, Nat.add_assoc]
section
variable {w w' : World} {B B' n : Nat} {A : Option Addr} {f : Nat → Value}
theorem Rd.nil : Rd w B A 0 f := fun k hk => absurd hk (Nat.not_lt_zero k)
theorem Rd.keep (h : Rd w B A n f) (hk : ∀ p : Addr, p.block < B → w'.cell? p = w.cell? p) : Rd w' B A n f := by
  intro k hkn
  obtain ⟨ad, e, hb, hc⟩ := h k hkn
  exact ⟨ad, e, hb, by rw [hk _ (by rw [add_block]; exact hb)]; exact hc⟩
theorem Rd.more (h : Rd w B A n f) (hB : B ≤ B') : Rd w B' A n f := by
  intro k hkn
  obtain ⟨ad, e, hb, hc⟩ := h k hkn
  exact ⟨ad, e, by omega, hc⟩
theorem Rd.below (h : Rd w B A n f) (hb : Below B w w') : Rd w' B A n f := h.keep fun _ hp => hb.cell hp
theorem Rd.alloc (h : Rd w B A n f) (hB : B ≤ w.heap.size) (o : Obj) : Rd (w.alloc o) B A n f := h.below ((Below.refl _ _).alloc hB o)
theorem Rd.first (h : Rd w B A n f) {m : Nat} (hm : m ≤ n) : Rd w B A m f := fun k hk => h k (by omega)
theorem Rd.from_ (h : Rd w B A n f) {k : Nat} (hk : k ≤ n) {A' : Option Addr} (hA : k < n → A' = A.map (·.add k)) : Rd w B A' (n - k) (fun j => f (k + j)) := by
  intro j hj
  obtain ⟨ad, e, hb, hc⟩ := h (k + j) (by omega)
  refine ⟨ad.add k, by rw [hA (by omega), e]; rfl, by rw [add_block]; exact hb, by rw [add_add']; exact hc⟩
theorem Rd.congr {g : Nat → Value} (h : Rd w B A n f) (hfg : ∀ k, k < n → f k = g k) : Rd w B A n g := by
  intro k hk
  obtain ⟨ad, e, hb, hc⟩ := h k hk
  exact ⟨ad, e, hb, by rw [hc, hfg k hk]⟩
end
/-- A slice of bytes reads as a list. -/
def byteAt (l : List UInt8) (k : Nat) : Value := .int .u8 (B8 (l.getD k 0))
def Bs (w : World) (B : Nat) (A : Option Addr) (l : List UInt8) : Prop := Rd w B A l.length (byteAt l)
theorem Bs.take {w : World} {B : Nat} {A : Option Addr} {l : List UInt8} (h : Bs w B A l) (k : Nat) (hk : k ≤ l.length) : Bs w B A (l.take k) := by
  unfold Bs at *
  rw [List.length_take, Nat.min_eq_left hk]
  refine (h.first hk).congr fun j hj => ?_
  unfold byteAt
  simp [List.getD, hj]
theorem Bs.take' {w : World} {B : Nat} {A : Option Addr} {l : List UInt8} (h : Bs w B A l) (k : Nat) : Bs w B A (l.take k) := by
  rcases Nat.le_total k l.length with hk | hk
  · exact h.take k hk
  · rw [List.take_of_length_le hk]; exact h
theorem Bs.drop {w : World} {B : Nat} {A A' : Option Addr} {l : List UInt8} (h : Bs w B A l) (k : Nat) (hk : k ≤ l.length) (hA : k < l.length → A' = A.map (·.add k)) : Bs w B A' (l.drop k) := by
  unfold Bs at *
  rw [List.length_drop]
  refine (h.from_ hk hA).congr fun j hj => ?_
  unfold byteAt
  simp [List.getD, List.getElem?_drop]
/-- A new row of bytes reads as its list. -/
theorem Bs.new (w : World) (l : List UInt8) (cs : Array Value) (t : TypeId) (fr : Nat × Nat) (n B : Nat) (hn : n = w.heap.size) (hB : n < B) (h : cs.toList = l.map fun c => .int .u8 (B8 c)) :
    Bs (w.alloc (.cells cs t fr)) B (some ⟨n, 0, none⟩) l := by
  intro k hk
  refine ⟨_, rfl, hB, ?_⟩
  subst hn
  have e : Addr.add ⟨w.heap.size, 0, none⟩ k = ⟨w.heap.size, k, none⟩ := by
    unfold Addr.add
    split
    · rename_i h0; rw [h0]
    · simp
  rw [e, World.cell?_alloc_mark]
  have : cs[k]? = (cs.toList)[k]? := by simp
  rw [this, h, List.getElem?_map]
  unfold byteAt
  simp [List.getD, hk]
/-- The table of sixteen words lies in block 0. -/
def Tab (w : World) : Prop := 6 < w.heap.size ∧ ∀ i, i < 16 → w.cell? ⟨6, i, none⟩ = some (.int .u32 (U (Cm.half.getD i 0#32)))
theorem Tab.below {w w' : World} (h : Tab w) (hb : Below w.heap.size w w') : Tab w' :=
  ⟨Nat.lt_of_lt_of_le h.1 hb.size, fun i hi => by rw [hb.cell (p := ⟨6, i, none⟩) h.1]; exact h.2 i hi⟩
theorem Tab.alloc {w : World} (h : Tab w) (o : Obj) : Tab (w.alloc o) := h.below ((Below.refl _ _).alloc (Nat.le_refl _) o)
end Go.Proofs.YtjhaikcokbmdbaaGreatDoor
