/-
  Walks of package crc: Cover, Right.
-/
import Derived.Test.YthdmapjdfghgfaaDoorCrcD
import Derived.Test.YthdmapjdfghgfaaDoorApp
import Derived.BigQuiet
import Derived.Deep.QuietTactic
namespace Go.Proofs.YthdmapjdfghgfaaDoor
open Go.RowKit
attribute [local go_sem] U_xor U_and U_and_1 U_and_15 U_and_M U_not U_not' U_xor_shr U_shr_1 U_shr_4 U_shr_31 U_shl_1 U_neg U_byte U_toNat U_nonneg

def byteV (c : UInt8) : Value := .int .u8 (B8 c)
theorem Bs.src {w : World} {B : Nat} {A : Option Addr} {l : List UInt8} (h : Bs w B A l) : Lk.Src w A (l.map byteV) := by
  intro k u hu
  rw [List.getElem?_map] at hu
  cases hl : l[k]? with
  | none => rw [hl] at hu; cases hu
  | some c =>
    rw [hl] at hu
    have hk : k < l.length := by
      rcases Nat.lt_or_ge k l.length with h' | h'
      · exact h'
      · rw [List.getElem?_eq_none h'] at hl; cases hl
    obtain ⟨ad, he, _, hc⟩ := h k hk
    refine ⟨ad, he, ?_⟩
    rw [hc]
    have e : l.getD k 0 = c := by simp [List.getD, hl]
    unfold byteAt
    rw [e]
    simpa [byteV] using hu
theorem one_bytes (l : List UInt8) : ∀ u ∈ l.map byteV, u.oneCell' = true := by
  intro u hu
  obtain ⟨c, _, rfl⟩ := List.mem_map.1 hu
  rfl
/-- A row of bytes of the call's own reads as its list. -/
theorem own_bs {w : World} {base n : Nat} {v : Value} {l : List UInt8} (h : w.ownsRow base 5 1 v n (l.map byteV)) : l.length = n ∧ ∃ A c, v = .slice A n c ∧ n ≤ c ∧ c ≤ maxLen ∧ Bs w w.heap.size A l := by
  have hl : l.length = n := by have := h.1; simpa using this
  refine ⟨hl, ?_⟩
  have h2 := h
  rcases h.2 with ⟨rfl, rfl⟩ | ⟨g, cap, cur, rfl, hg, hh, hnc, hcm, hsz, htk⟩
  · have : l = [] := List.eq_nil_of_length_eq_zero hl
    subst this
    exact ⟨none, 0, rfl, Nat.le_refl _, Nat.zero_le _, Rd.nil⟩
  · refine ⟨some ⟨g, 0, none⟩, cap, rfl, hnc, hcm, ?_⟩
    intro k hk
    have hc := h2.cells (g := g) rfl k (byteV (l.getD k 0)) (by
      rw [List.getElem?_map]
      simp [List.getD, hk])
    refine ⟨⟨g, 0, none⟩, rfl, ?_, hc⟩
    have := World.block_lt_of_cell? w _ hc
    rw [add_block] at this
    exact this
theorem own_read {w : World} {base n g c : Nat} {l : List UInt8} (h : w.ownsRow base 5 1 (.slice (some ⟨g, 0, none⟩) n c) n (l.map byteV)) : Bs w w.heap.size (some ⟨g, 0, none⟩) l := by
  obtain ⟨_, A, c', hv, _, _, hb⟩ := own_bs h
  injection hv with h1
  rw [h1]
  exact hb
theorem own_form {w : World} {e : TypeId} {size n base : Nat} {v : Value} {xs : List Value} (h : w.ownsRow base e size v n xs) (hn : 0 < n) : ∃ g c, v = .slice (some ⟨g, 0, none⟩) n c ∧ base ≤ g ∧ g < w.heap.size ∧ n ≤ c ∧ c ≤ maxLen := by
  have hlt := h.lt
  rcases h.2 with ⟨_, rfl⟩ | ⟨g, cap, cur, rfl, hg, hh, hnc, hcm, _⟩
  · omega
  · exact ⟨g, cap, rfl, hg, (hlt g rfl).2, hnc, hcm⟩
theorem foldl_push (l : List UInt8) : ∀ s : ByteArray, (l.map fun c => (c.toNat : Int)).foldl (fun r n => r.push (UInt8.ofNat n.toNat)) s = ⟨s.data ++ l.toArray⟩ := by
  induction l with
  | nil => intro s; simp
  | cons c l ih =>
    intro s
    simp only [List.map_cons, List.foldl_cons, ih]
    simp [ByteArray.push]
/-- 'string(b)'. -/
theorem conv_bytes {P : Program} {src dst e : TypeId} (hs : P.underlying src = some (.slice e)) (he : P.underlying e = some (.int .u8)) (hd : P.underlying dst = some .string)
    (w : World) (B : Nat) (A : Option Addr) (l : List UInt8) (n c : Nat) (hn : l.length = n) (h : Bs w B A l) :
    (convert src dst (.slice A n c)).run P w = .ok (.string ⟨l.toArray⟩) w := by
  rw [run_convert_bytes_string w src dst e A n c hs he hd]
  subst hn
  cases A with
  | none =>
    have : l = [] := by
      cases l with
      | nil => rfl
      | cons c l =>
        obtain ⟨_, he, _⟩ := h 0 (by simp)
        cases he
    subst this
    rfl
  | some a =>
    have h2 := run_bytesToString (P := P) w a l.length c (l.map fun c => (c.toNat : Int)) (by
      have h3 := run_loadCells_list (P := P) (w := w) a (l.map byteV) (by
        intro j v hj
        obtain ⟨ad, e1, hc⟩ := h.src j v hj
        injection e1 with e1
        subst e1
        exact hc)
      rw [List.length_map] at h3
      rw [h3, List.map_map]
      rfl)
    rw [h2, foldl_push]
    simp
theorem sum_is (A : Option Addr) (l : List UInt8) (n cap B : Nat) (s : BitVec 32) (w : World) (hn : l.length = n) (hs : Cm.sum l = s) (hlen : n ≤ 140737488351232) (hT : Tab w) (hl : Bs w B A l) :
    Calls Tryd.prog 10 #[.slice A n cap] w fun e w' => e = .returned (.int .u32 (U s)) ∧ w = w' := by
  subst hn; subst hs
  exact sum_any A l cap B w hlen hT hl
theorem info_u8 : (Tryd.prog.info? 5).map (fun i => (i.zero, i.size, i.bytes)) = some (some (.int .u8 0), 1, 1) := by kernel_rfl

theorem cover_any (A : Option Addr) (l : List UInt8) (cap : Nat) (w : World) (hlen : l.length ≤ 140737488351232) (hT : Tab w) (hl : Bs w w.heap.size A l) :
    Calls Tryd.prog 20 #[.slice A l.length cap] w fun e w' => ∃ v, e = .returned v ∧ w'.ownsRow w.heap.size 5 1 v (l.length + 4) ((l ++ le4 (Cm.sum l)).map byteV) ∧ Below w.heap.size w w' := by
  obtain ⟨i0, hi0, hz0, hz1, hz2⟩ := info_parts info_u8
  have HT := Lib.hid hT
  have HL := Lib.hid hl
  clear hT hl
  go_enter Tryd.func20, Tryd.ntmps20
  go_wp2_with fail
  refine (sum_any A l cap _ _ hlen HT.out HL.out).mono ?_
  rintro e w' ⟨rfl, rfl⟩
  go_wp2_with fail
  refine (laid_any _ _).mono ?_
  rintro e w1 ⟨rfl, hb1⟩
  have hz : w.heap.size ≤ w1.heap.size := hb1.size
  have HB1 := Lib.hid hb1
  clear hb1
  go_wp2_with fail
  have hs1 : Lk.Src (w1.alloc (.cells #[.int .u8 (B8 (by4 (Cm.sum l) 0)), .int .u8 (B8 (by4 (Cm.sum l) 1)), .int .u8 (B8 (by4 (Cm.sum l) 2)), .int .u8 (B8 (by4 (Cm.sum l) 3))] 53)) A (l.map byteV) :=
    Bs.src (B := w.heap.size) ((HL.out.below HB1.out).alloc hz _)
  have hs2 : Lk.Src (w1.alloc (.cells #[.int .u8 (B8 (by4 (Cm.sum l) 0)), .int .u8 (B8 (by4 (Cm.sum l) 1)), .int .u8 (B8 (by4 (Cm.sum l) 2)), .int .u8 (B8 (by4 (Cm.sum l) 3))] 53)) (some ⟨w1.heap.size, 0, none⟩) ((le4 (Cm.sum l)).map byteV) :=
    Bs.src (Bs.new w1 (le4 (Cm.sum l)) _ _ _ w1.heap.size (w1.heap.size + 1) rfl (by omega) rfl)
  have hB2 : Below w.heap.size w (w1.alloc (.cells #[.int .u8 (B8 (by4 (Cm.sum l) 0)), .int .u8 (B8 (by4 (Cm.sum l) 1)), .int .u8 (B8 (by4 (Cm.sum l) 2)), .int .u8 (B8 (by4 (Cm.sum l) 3))] 53)) := HB1.out.alloc hz _
  have hz2' : w1.heap.size < (w1.alloc (.cells #[.int .u8 (B8 (by4 (Cm.sum l) 0)), .int .u8 (B8 (by4 (Cm.sum l) 1)), .int .u8 (B8 (by4 (Cm.sum l) 2)), .int .u8 (B8 (by4 (Cm.sum l) 3))] 53)).heap.size := by simp
  generalize (w1.alloc (.cells #[.int .u8 (B8 (by4 (Cm.sum l) 0)), .int .u8 (B8 (by4 (Cm.sum l) 1)), .int .u8 (B8 (by4 (Cm.sum l) 2)), .int .u8 (B8 (by4 (Cm.sum l) 3))] 53)) = W2 at *
  have HS1 := Lib.hid hs1
  have HS2 := Lib.hid hs2
  have HB2 := Lib.hid hB2
  clear hs1 hs2 hB2
  go_region_law (first
    | (refine Lk.step_app _ rfl (.const (.slice none 0 0)) (.tmp 7) 22 rfl w.heap.size 5 i0 _ 1 1 Tryd.underlying22 hi0 hz0 hz1 hz2 rfl (by omega) (.slice none 0 0) 0 [] rfl (Lk.own_nil _ _ _) A l.length cap (l.map byteV) rfl (by simp) HS1.out (one_bytes l) (by unfold maxLen; omega) (by omega) (HB2.out.size) (fun v1 w2 hown1 hg1 hat1 => ?_))
    | (refine Lk.step_app _ rfl (.tmp 8) (.tmp 9) 22 rfl w.heap.size 5 i0 _ 1 1 Tryd.underlying22 hi0 hz0 hz1 hz2 rfl (by omega) v1 (0 + l.length) ([] ++ l.map byteV) rfl hown1 (some ⟨w1.heap.size, 0, none⟩) 4 4 ((le4 (Cm.sum l)).map byteV) rfl rfl (Lk.Src.grown (w := W2.drew) HS2.out hg1 (fun ad he => by injection he with he; subst he; exact ⟨hz2', by simp [Value.ownBlock]⟩)) (one_bytes _) (by unfold maxLen; omega) (by omega) (Nat.le_trans HB2.out.size hg1.size) (fun v2 w3 hown2 hg2 hat2 => ?_)))
  go_wp2
  go_ret
  refine ⟨v2, rfl, ?_, ?_⟩
  · have e : (l ++ le4 (Cm.sum l)).map byteV = [] ++ l.map byteV ++ (le4 (Cm.sum l)).map byteV := by simp
    rw [e]
    have h := hown2
    rw [Nat.zero_add] at h
    exact h
  · have h1 : Below w.heap.size w w2 := HB2.out.drew.grown hg1 HB2.out.size (fun k hk => by simp [Value.ownBlock] at hk)
    exact Lk.Below_own h1 hg2 hown1 (Nat.le_refl _)
end Go.Proofs.YthdmapjdfghgfaaDoor
