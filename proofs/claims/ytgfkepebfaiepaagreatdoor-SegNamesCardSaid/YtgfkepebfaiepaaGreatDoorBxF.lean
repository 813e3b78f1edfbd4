/-
  Operations that only read: the model does just that (3): slices, structs, loads, maps.
-/
import Derived.Test.YtgfkepebfaiepaaGreatDoorBxE
namespace Go.Proofs.YtgfkepebfaiepaaGreatDoor.Ax
open Go.RowKit
section
variable {ρ : Rho} {ι : Imm} {P : Program} {w : World} {T : TT} {H : AH}
theorem run_bound (k : IntKind) (n : Int) (y : Nat) (code : BoundsCode) (h0 : 0 ≤ n) (h1 : n ≤ y) : (Instr.sliceBound (.int k n) y code).run P w = .ok n.toNat w := by
 simp [Instr.sliceBound, asIntOf, h0, h1]
theorem optInt_spec {g : Operand → AV} {ev : Operand → Value} (hg : ∀ x, (g x).R ρ ι (ev x)) {d a : Int} {o : Option Operand} (h : optInt g d o = some a) : (o = none ∧ a = d) ∨ ∃ x k, o = some x ∧ ev x = .int k a := by
 cases o with
 | none => simp only [optInt, Option.some.injEq] at h; exact .inl ⟨rfl, h.symm⟩
 | some x =>
   simp only [optInt] at h
   split at h
   ·rename_i k n hx
    injection h with h
    subst h
    have := hg x
    rw [hx] at this
    simp only [AV.R, IV.R] at this
    exact .inr ⟨x, k, rfl, this⟩
   ·cases h
theorem run_bounds {g : Operand → AV} {ev : Operand → Value} (hg : ∀ x, (g x).R ρ ι (ev x)) (isS : Bool) (len cap : Nat) {lo hi mx : Option Operand} {a b : Int} {c : Int} (ha : optInt g 0 lo = some a) (hb : optInt g len hi = some b) (hc : optInt g len mx = some c)
 (h0 : 0 ≤ a) (h1 : a ≤ b) (h2 : b ≤ c) (h3 : c ≤ len) (hcap : len ≤ cap) (hm : mx.isSome = true → hi.isSome = true) :
 ∃ m, (Instr.sliceBounds isS len cap (lo.map ev) (hi.map ev) (mx.map ev)).run P w = .ok (a.toNat, b.toNat, m) w ∧ b.toNat ≤ m ∧ m ≤ cap := by
 have bound : ∀ (k : IntKind) (n : Int) (y : Nat) (code : BoundsCode), 0 ≤ n → n ≤ y → (Instr.sliceBound (.int k n) y code).run P w = .ok n.toNat w := fun k n y code => run_bound k n y code
 rcases optInt_spec hg ha with ⟨rfl, ea⟩ | ⟨xa, ka, rfl, ea⟩ <;> rcases optInt_spec hg hb with ⟨rfl, eb⟩ | ⟨xb, kb, rfl, eb⟩ <;> rcases optInt_spec hg hc with ⟨rfl, ec⟩ | ⟨xc, kc, rfl, ec⟩
 ·refine ⟨cap, ?_, by omega, Nat.le_refl _⟩
  subst ea eb
  simp [Instr.sliceBounds]
 ·exact absurd (hm rfl) (by simp)
 ·refine ⟨cap, ?_, by omega, Nat.le_refl _⟩
  subst ea
  have e1 := fun code => bound kb b cap code (by omega) (by omega)
  simp [Instr.sliceBounds, eb, e1]
 ·refine ⟨c.toNat, ?_, by omega, by omega⟩
  subst ea
  have e1 := fun code => bound kb b c.toNat code (by omega) (by omega)
  have e2 := fun code => bound kc c cap code (by omega) (by omega)
  simp [Instr.sliceBounds, eb, ec, e1, e2]
 ·refine ⟨cap, ?_, by omega, Nat.le_refl _⟩
  have e3 := fun code => bound ka a len code (by omega) (by omega)
  have : b.toNat = len := by omega
  simp [Instr.sliceBounds, ea, e3, this]
 ·exact absurd (hm rfl) (by simp)
 ·refine ⟨cap, ?_, by omega, Nat.le_refl _⟩
  have e1 := fun code => bound kb b cap code (by omega) (by omega)
  have e3 := fun code => bound ka a b.toNat code (by omega) (by omega)
  simp [Instr.sliceBounds, ea, eb, e1, e3]
 ·refine ⟨c.toNat, ?_, by omega, by omega⟩
  have e1 := fun code => bound kb b c.toNat code (by omega) (by omega)
  have e2 := fun code => bound kc c cap code (by omega) (by omega)
  have e3 := fun code => bound ka a b.toNat code (by omega) (by omega)
  simp [Instr.sliceBounds, ea, eb, ec, e1, e2, e3]
theorem run_slice_sl (hT : TOk P T) {t e : Nat} {d de : TD} (hd : T.get t = some d) (hk : d.k = .sl e) (he : T.get e = some de) (A : Option Addr) (len cap : Nat) (lo hi mx : Option Value) (l h m : Nat)
 (hb : (Instr.sliceBounds true len cap lo hi mx).run P w = .ok (l, h, m) w) :
 (Instr.sliceAt t (.slice A len cap) lo hi mx).run P w = .ok (.slice (if m = l then A else A.map (·.add (l * de.size))) (h - l) (m - l)) w := by
 have h1 := td_sl hT hd hk
 have h2 := run_sizeOf' hT he w
 simp [Instr.sliceAt, run_underlying h1, Instr.slice, hb, h2]
theorem bytesOf_spec : ∀ {cs : List IV} {vs : List Value} {c : List Cnd} {l : List UInt8}, bytesOf cs = some (c, l) → IV.Rs ι cs vs → ands c True → vs = l.map fun x => Value.int .u8 ((x.toNat : Nat) : Int)
 | [], vs, c, l, h, hr, _ => by
   simp only [bytesOf, Option.some.injEq, Prod.mk.injEq] at h
   obtain ⟨rfl, rfl⟩ := h
   simpa only [IV.Rs, List.map_nil] using hr
 | x :: t, vs, c, l, h, hr, hc => by
   unfold bytesOf at h
   split at h
   ·rename_i he
    cases he
   ·rename_i n t' he
    cases he
    obtain ⟨⟨c', l'⟩, h1, h2⟩ := Option.map_eq_some_iff.1 h
    simp only [Prod.mk.injEq] at h2
    obtain ⟨rfl, rfl⟩ := h2
    rw [ands_cons] at hc
    have hn : n ≤ 255 := hc.1
    simp only [IV.Rs, IV.R] at hr
    obtain ⟨u, us, rfl, rfl, hr⟩ := hr
    rw [bytesOf_spec h1 hr hc.2, List.map_cons, UInt8.toNat_ofNat', Nat.mod_eq_of_lt (by omega)]
    rfl
   ·cases h
theorem sliceA_ok (hT : TOk P T) {g : Operand → AV} {ev : Operand → Value} (hg : ∀ x, (g x).R ρ ι (ev x)) (t : Nat) (x : AV) (lo hi mx : Option Operand) {v : Value} (hx : x.R ρ ι v) (hm : mx.isSome = true → hi.isSome = true) :
 (sliceA T g t x lo hi mx).ok ρ ι P (Instr.sliceAt t v (lo.map ev) (hi.map ev) (mx.map ev)) w := by
 unfold sliceA
 split
 ·rename_i d hd
  split
  ·rename_i l hk
   simp only [AV.R, IV.R] at hx
   subst hx
   split
   ·rename_i a b ha hb
    rintro ⟨c0, c1, c2, _⟩
    have hsz : (⟨l.toArray⟩ : ByteArray).size = l.length := by simp [ByteArray.size]
    obtain ⟨m, hr, _⟩ := run_bounds (P := P) (w := w) hg false l.length l.length ha hb (mx := none) rfl c0 c1 c2 (Int.le_refl _) (Nat.le_refl _) (fun h => by cases h)
    simp only [Option.map_none] at hr
    refine ⟨.string ⟨((l.drop a.toNat).take (b.toNat - a.toNat)).toArray⟩, ?_, by simp [AV.R, IV.R]⟩
    have e : (⟨l.toArray⟩ : ByteArray).extract a.toNat b.toNat = ⟨((l.drop a.toNat).take (b.toNat - a.toNat)).toArray⟩ := by
     apply ByteArray.ext
     apply Array.ext'
     rw [ByteArray.data_extract]
     simp [List.extract_eq_take_drop]
    simp [Instr.sliceAt, run_underlying (td_str hT hd hk), Instr.slice, hsz, hr, e]
   ·exact trivial
  ·rename_i e y _ hk
   split
   ·rename_i s hs
    obtain ⟨de, hde, rfl⟩ := Option.map_eq_some_iff.1 hs
    split
    ·rename_i h sz off len
     split
     ·rename_i a b c ha hb hc
      cases hbq : Nat.beq sz de.size with
      | false => exact trivial
      | true =>
        have hsz := Nat.eq_of_beq_eq_true hbq
        simp only [cond_true]
        rintro ⟨c0, c1, c2, c3, _⟩
        simp only [AV.R] at hx
        obtain ⟨A, cap, rfl, h2, h3, h4⟩ := hx
        obtain ⟨m, hr, hm1, hm2⟩ := run_bounds (P := P) (w := w) hg true len cap ha hb hc c0 c1 c2 c3 h2 hm
        refine ⟨_, run_slice_sl hT hd hk hde A len cap _ _ _ _ _ _ hr, ?_⟩
        simp only [AV.R]
        refine ⟨_, m - a.toNat, rfl, by omega, by omega, fun hne => ?_⟩
        have hc0 : cap ≠ 0 := fun e => hne (Nat.sub_eq_zero_of_le (Nat.le_trans (Nat.le_trans hm2 (Nat.le_of_eq e)) (Nat.zero_le _)))
        obtain ⟨hv, b', g1, g2, rfl, g4⟩ := h4 hc0
        refine ⟨hv, b', g1, g2, ?_, ?_⟩
        ·have hma : ¬ m = a.toNat := fun e => hne (by rw [e]; exact Nat.sub_self _)
         rw [if_neg hma]
         simp only [Option.map_some, add_none]
         rw [← hsz, Nat.add_mul]
        ·refine Nat.le_trans (Nat.mul_le_mul_right _ ?_) g4
         omega
     ·exact trivial
    ·rename_i sz len f
     split
     ·rename_i a b c ha hb hc
      cases hbq : Nat.beq sz de.size with
      | false => exact trivial
      | true =>
        have hsz := Nat.eq_of_beq_eq_true hbq
        simp only [cond_true]
        rintro ⟨c0, c1, c2, c3, _⟩
        simp only [AV.R, IV.R] at hx
        obtain ⟨A, cap, rfl, h2, h3, h4⟩ := hx
        obtain ⟨m, hr, hm1, hm2⟩ := run_bounds (P := P) (w := w) hg true len cap ha hb hc c0 c1 c2 c3 h2 hm
        refine ⟨_, run_slice_sl hT hd hk hde A len cap _ _ _ _ _ _ hr, ?_⟩
        simp only [AV.R, IV.R]
        refine ⟨_, m - a.toNat, rfl, by omega, by omega, fun k hk => ?_⟩
        obtain ⟨ad, vs, rfl, s, r, l, q⟩ := h4 (a.toNat + k) (by omega)
        rw [if_neg (by omega)]
        refine ⟨_, vs, rfl, by simp [add_none' s], r, l, fun j u hu => ?_⟩
        dsimp only
        rw [add_none' s]
        have := q j u hu
        rw [Nat.add_mul, ← Nat.add_assoc, hsz] at this
        rw [hsz]
        exact this
     ·exact trivial
    ·rename_i sz len f
     split
     ·rename_i a b c ha hb hc
      cases hbq : Nat.beq sz de.size with
      | false => exact trivial
      | true =>
        have hsz := Nat.eq_of_beq_eq_true hbq
        simp only [cond_true]
        rintro ⟨c0, c1, c2, c3, _⟩
        simp only [AV.R] at hx
        obtain ⟨A, cap, rfl, h2, h3, h4⟩ := hx
        obtain ⟨m, hr, hm1, hm2⟩ := run_bounds (P := P) (w := w) hg true len cap ha hb hc c0 c1 c2 c3 h2 hm
        refine ⟨_, run_slice_sl hT hd hk hde A len cap _ _ _ _ _ _ hr, ?_⟩
        simp only [AV.R]
        refine ⟨_, m - a.toNat, rfl, by omega, by omega, fun k hk => ?_⟩
        obtain ⟨ad, vs, rfl, s, r, l, q⟩ := h4 (a.toNat + k) (by omega)
        rw [if_neg (by omega)]
        refine ⟨_, vs, rfl, by simp [add_none' s], r, l, fun j u hu => ?_⟩
        dsimp only
        rw [add_none' s]
        have := q j u hu
        rw [Nat.add_mul, ← Nat.add_assoc, hsz] at this
        rw [hsz]
        exact this
     ·exact trivial
    ·rename_i l
     split
     ·rename_i a b c ha hb hc
      cases hbq : Nat.beq 1 de.size with
      | false => exact trivial
      | true =>
        have hsz := Nat.eq_of_beq_eq_true hbq
        simp only [cond_true]
        rintro ⟨c0, c1, c2, c3, _⟩
        simp only [AV.R, IV.R] at hx
        obtain ⟨A, cap, rfl, h2, h3, h4⟩ := hx
        obtain ⟨m, hr, hm1, hm2⟩ := run_bounds (P := P) (w := w) hg true l.length cap ha hb hc c0 c1 c2 c3 h2 hm
        refine ⟨_, run_slice_sl hT hd hk hde A l.length cap _ _ _ _ _ _ hr, ?_⟩
        have hlen : ((l.drop a.toNat).take (b.toNat - a.toNat)).length = b.toNat - a.toNat := by rw [List.length_take, List.length_drop]; omega
        simp only [AV.R, IV.R]
        refine ⟨_, m - a.toNat, by rw [hlen], by rw [hlen]; omega, by omega, fun k hk => ?_⟩
        rw [hlen] at hk
        obtain ⟨ad, rfl, s, r⟩ := h4 (a.toNat + k) (by omega)
        rw [if_neg (by omega)]
        refine ⟨_, rfl, by simp [add_none' s], ?_⟩
        dsimp only
        rw [add_none' s, ← hsz, Nat.mul_one]
        simp only [Nat.add_assoc]
        rw [r]
        simp [List.getD, hk, List.getElem?_drop]
     ·exact trivial
    ·exact trivial
   ·exact trivial
  ·rename_i n e cs hk
   split
   ·rename_i a b ha hb
    split
    ·rename_i c l de hbo hde
     cases hbq : (Nat.ble a b && Nat.ble b n && Nat.ble n cs.length && Nat.ble n 140737488355328 && Nat.beq de.size 1) with
     | false => exact trivial
     | true =>
       simp only [Bool.and_eq_true] at hbq
       have c1 := Nat.le_of_ble_eq_true hbq.1.1.1.1
       have c2 := Nat.le_of_ble_eq_true hbq.1.1.1.2
       have c3 := Nat.le_of_ble_eq_true hbq.1.1.2
       have c4 := Nat.le_of_ble_eq_true hbq.1.2
       have c5 := Nat.eq_of_beq_eq_true hbq.2
       simp only [cond_true]
       intro hcs
       simp only [AV.R, IV.R] at hx
       obtain ⟨ad, vs, rfl, s, r, q⟩ := hx
       have harr : arrOfT T t = some (n, de) := by simp only [arrOfT, hd, hk, hde, Option.map_some]
       obtain ⟨e', hu, he'⟩ := arrOfT_spec hT harr
       have h2 := run_sizeOf' hT he' w
       obtain ⟨m, hr, hm1, hm2⟩ := run_bounds (P := P) (w := w) hg false n n ha hb (mx := none) (c := n) rfl (by exact Int.natCast_nonneg a) (by exact Int.ofNat_le.2 c1) (by exact Int.ofNat_le.2 c2) (Int.le_refl _) (Nat.le_refl _) (fun h => by cases h)
       simp only [Option.map_none] at hr
       have e1 : (Int.ofNat a).toNat = a := rfl
       have e2 : (Int.ofNat b).toNat = b := rfl
       rw [e1, e2] at hr
       rw [e2] at hm1
       have hv := bytesOf_spec hbo (Rs_take _ _ _ (Rs_drop _ a _ r)) hcs
       have hvl : vs.length = cs.length := by simpa using Rs_lenA (ρ := fun _ => none) _ _ ((Rs_iv cs vs).2 r)
       have hll : l.length = b - a := by
        have := congrArg List.length hv
        rw [List.length_map, List.length_take, List.length_drop, hvl] at this
        omega
       refine ⟨.slice (some (if m = a then ad else ad.add (a * de.size))) (b - a) (m - a), ?_, ?_⟩
       ·simp [Instr.sliceAt, run_underlying hu, Instr.sureAddr, hr, h2]
       ·have hmx : maxLen = 9223372036854775807 := by decide
        simp only [AV.R, IV.R]
        refine ⟨_, m - a, by rw [hll], by rw [hll]; omega, by omega, fun k hk => ?_⟩
        rw [hll] at hk
        rw [if_neg (by omega)]
        refine ⟨_, rfl, by simp [add_none' s], ?_⟩
        rw [add_none' s]
        dsimp only
        have hvk : vs[a + k]? = some (.int .u8 ((l.getD k 0).toNat : Int)) := by
         have h1 : ((vs.drop a).take (b - a))[k]? = vs[a + k]? := by
          rw [List.getElem?_take_of_lt (by omega), List.getElem?_drop]
         rw [← h1, hv, List.getElem?_map]
         simp [List.getD, show k < l.length by omega]
        have := q (a + k) _ hvk
        rw [c5, Nat.mul_one, Nat.add_assoc]
        exact this
    ·exact trivial
   ·exact trivial
  ·exact trivial
 ·exact trivial
end
end Go.Proofs.YtgfkepebfaiepaaGreatDoor.Ax
