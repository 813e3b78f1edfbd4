/-
  Operations that only read: the model does just that (2): conversions, addresses, slices, loads.
-/
import Derived.Test.YtgfkepebfaiepaaGreatDoorBxD
namespace Go.Proofs.YtgfkepebfaiepaaGreatDoor.Ax
open Go.RowKit
section
variable {ρ : Rho} {ι : Imm} {P : Program} {w : World} {T : TT} {H : AH}
theorem add_none (b o n : Nat) : (⟨b, o, none⟩ : Addr).add n = ⟨b, o + n, none⟩ := by
 unfold Addr.add
 by_cases h : n = 0
 ·subst h; rfl
 ·rw [if_neg h]
theorem addr_none {ad : Addr} (h : ad.spot = none) : ad = ⟨ad.block, ad.off, none⟩ := by cases ad; simp at h; subst h; rfl
theorem add_none' {ad : Addr} (h : ad.spot = none) (n : Nat) : ad.add n = ⟨ad.block, ad.off + n, none⟩ := by
 rw [addr_none h, add_none]
theorem heap_cell {b o : Nat} {arr : Array Value} {e : TypeId} {fr : Nat × Nat} (h : w.heap[b]? = some (.cells arr e fr)) : w.cell? ⟨b, o, none⟩ = arr[o]? := by simp [World.cell?, h]
def BytesAt (w : World) (A : Option Addr) (l : List UInt8) : Prop := ∀ k, k < l.length → ∃ ad, A = some ad ∧ ad.spot = none ∧ w.cell? ⟨ad.block, ad.off + k, none⟩ = some (.int .u8 ((l.getD k 0).toNat : Int))
theorem bytes_read (hS : SR ρ ι H w) {x : AV} {v : Value} {l : List UInt8} (hx : x.R ρ ι v) (hl : H.bytes x = some l) (hc : ands (H.bytesOk x) True) : ∃ A c, v = .slice A l.length c ∧ l.length ≤ c ∧ c ≤ maxLen ∧ BytesAt w A l := by
 unfold AH.bytes at hl
 split at hl
 ·injection hl with hl
  subst hl
  simp only [AV.R, IV.R] at hx
  obtain ⟨A, c, h1, h2, h3, h4⟩ := hx
  exact ⟨A, c, h1, h2, h3, fun k hk => let ⟨ad, e, s, r⟩ := h4 k hk; ⟨ad, e, s, hS.imm _ _ _ r⟩⟩
 ·injection hl with hl
  subst hl
  simp only [AV.R, IV.R] at hx
  exact ⟨none, 0, hx, Nat.le_refl _, Nat.zero_le _, fun k hk => absurd hk (Nat.not_lt_zero k)⟩
 ·rename_i h off len
  split at hl
  ·rename_i e l0 hg
   injection hl with hl
   have hok : off + len ≤ l0.length := by
    unfold AH.bytesOk at hc
    simp only [hg, ands_cons, ands_nil, Cnd.P] at hc
    exact hc.1
   have hlen : l.length = len := by rw [← hl, List.length_take, List.length_drop]; omega
   simp only [AV.R] at hx
   obtain ⟨A, c, h1, h2, h3, h4⟩ := hx
   rw [hlen]
   refine ⟨A, c, h1, h2, h3, fun k hk => ?_⟩
   rw [hlen] at hk
   obtain ⟨hv, b, g1, g2, g3, g4⟩ := h4 (by omega)
   obtain ⟨hv', g5, g6⟩ := hS.hv hg
   rw [g1] at g5
   injection g5 with g5
   subst g5
   rcases g6 with ⟨g6, _⟩ | ⟨b', arr, fr, q1, q2, q3, q4, q5, q6, q7⟩
   ·rw [g2] at g6; cases g6
   ·rw [g2] at q1
    injection q1 with q1
    subst q1
    refine ⟨_, g3, rfl, ?_⟩
    rw [heap_cell q3]
    have := q7 (off + k) (by omega)
    rw [← hl]
    simp only [Nat.mul_one]
    rw [this]
    simp [List.getD, hk, List.getElem?_drop]
  ·cases hl
 ·cases hl
theorem foldl_push' (l : List UInt8) : ∀ s : ByteArray, (l.map fun c => (c.toNat : Int)).foldl (fun r n => r.push (UInt8.ofNat n.toNat)) s = ⟨s.data ++ l.toArray⟩ := by
 induction l with
 | nil => intro s; simp
 | cons c l ih =>
   intro s
   simp only [List.map_cons, List.foldl_cons, ih]
   simp [ByteArray.push]
theorem conv_bytes {src dst e : TypeId} (hs : P.underlying src = some (.slice e)) (he : P.underlying e = some (.int .u8)) (hd : P.underlying dst = some .string) (A : Option Addr) (l : List UInt8) (c : Nat) (h : BytesAt w A l) :
 (convert src dst (.slice A l.length c)).run P w = .ok (.string ⟨l.toArray⟩) w := by
 rw [run_convert_bytes_string w src dst e A l.length c hs he hd]
 cases A with
 | none =>
   have : l = [] := by
    cases l with
    | nil => rfl
    | cons c l =>
      obtain ⟨_, he, _⟩ := h 0 (by simp)
      cases he
   subst this
   rfl
 | some a =>
   have h2 := run_bytesToString (P := P) w a l.length c (l.map fun c => (c.toNat : Int)) (by
    have h3 := run_loadCells_list (P := P) (w := w) a (l.map fun c => Value.int .u8 (c.toNat : Int)) (by
     intro j v hj
     rw [List.getElem?_map] at hj
     cases hl : l[j]? with
     | none => rw [hl] at hj; cases hj
     | some x =>
       rw [hl] at hj
       simp only [Option.map_some, Option.some.injEq] at hj
       have hk : j < l.length := by
        rcases Nat.lt_or_ge j l.length with h' | h'
        ·exact h'
        ·rw [List.getElem?_eq_none h'] at hl; cases hl
       obtain ⟨ad, e1, s1, hc⟩ := h j hk
       injection e1 with e1
       subst e1
       rw [add_none' s1, hc, ← hj]
       simp [List.getD, hl])
    rw [List.length_map] at h3
    rw [h3, List.map_map]
    rfl)
   rw [h2, foldl_push']
   simp
theorem cvInt_ok (wr : Bool) (k k0 : IntKind) (n : Int) {s d : TypeId} {us : TypeDesc} (hs : P.underlying s = some us) (hd : P.underlying d = some (.int k)) : (cvInt wr k n).ok ρ ι P (convert s d (.int k0 n)) w := by
 have hr : (convert s d (.int k0 n)).run P w = .ok (.int k (k.wrap n)) w := by
  simp [convert, run_underlying hs, run_underlying hd, Conv.intToInt]
 unfold cvInt
 cases narrow k with
 | true => exact fun _ => ⟨_, hr, by rw [← wrK_eq]; exact R_v _⟩
 | false => exact arK_ok _ _ _ hr
theorem isU8_spec (hT : TOk P T) {s : Nat} {ts : TD} (hs : T.get s = some ts) (h : isU8 T ts = true) : ∃ e, P.underlying s = some (.slice e) ∧ P.underlying e = some (.int .u8) := by
 unfold isU8 at h
 split at h
 ·rename_i e hk
  split at h
  ·rename_i te hte
   split at h
   ·rename_i hki
    exact ⟨e, td_sl hT hs hk, td_int hT hte hki⟩
   ·cases h
  ·cases h
 ·cases h
theorem cop_ok (hT : TOk P T) (hS : SR ρ ι H w) (wr : Bool) (s d : TypeId) (x : AV) {v : Value} (hx : x.R ρ ι v) : (cop T wr H s d x).ok ρ ι P (convert s d v) w := by
 unfold cop
 split
 ·rename_i ts td hs hd
  obtain ⟨us, _, hus, _, _⟩ := Ax.td hT hs
  split
  ·rename_i k _ n hk
   simp only [AV.R, IV.R] at hx
   subst hx
   exact cvInt_ok wr k _ n hus (td_int hT hd hk)
  ·rename_i l hk
   simp only [AV.R, IV.R] at hx
   subst hx
   exact fun _ => ⟨.string ⟨l.toArray⟩, by cases us <;> simp [convert, run_underlying hus, run_underlying (td_str hT hd hk)], by simp [AV.R, IV.R]⟩
  ·rename_i hk _
   unfold copB
   cases hu : isU8 T ts with
   | false => exact trivial
   | true =>
     simp only [cond_true]
     split
     ·rename_i l hl
      intro hc
      obtain ⟨A, c, rfl, _, _, h4⟩ := bytes_read hS hx hl hc
      obtain ⟨e, h1, h2⟩ := isU8_spec hT hs hu
      exact ⟨_, conv_bytes h1 h2 (td_str hT hd hk) A l c h4, by simp [AV.R, IV.R]⟩
     ·exact trivial
  ·exact trivial
 ·exact trivial
theorem fieldOf_spec (hT : TOk P T) {t f off ft : Nat} (h : fieldOf T t f = some (off, ft)) : ∃ (fs : Array Field) (fld : Field), P.underlying t = some (.struct fs) ∧ fs[f]? = some fld ∧ fld.offset = off ∧ fld.type = ft := by
 unfold fieldOf at h
 split at h
 ·rename_i d hd
  split at h
  ·rename_i fs hk
   obtain ⟨u, i, h1, _, rfl⟩ := td hT hd
   obtain ⟨arr, rfl, rfl⟩ := TK.of_st hk
   rw [List.getElem?_map] at h
   cases hf : arr[f]? with
   | none => rw [Array.getElem?_toList, hf] at h; cases h
   | some fld =>
     rw [Array.getElem?_toList, hf] at h
     simp only [Option.map_some, Option.some.injEq, Prod.mk.injEq] at h
     exact ⟨arr, fld, h1, hf, h.1, h.2⟩
  ·cases h
 ·cases h
theorem run_fieldAt (hT : TOk P T) {t f off ft : Nat} {d : TD} (h : fieldOf T t f = some (off, ft)) (hd : T.get ft = some d) (hz : d.size ≠ 0) (a : Addr) : (Instr.fieldAt t (.pointer (some a)) f).run P w = .ok (.pointer (some (a.add off))) w := by
 obtain ⟨fs, fld, h1, h2, rfl, rfl⟩ := fieldOf_spec hT h
 have h3 := run_sizeOf' hT hd w
 simp [Instr.fieldAt, run_underlying h1, h2, Instr.sureAddr, fieldPlace, h3, hz]
theorem Rs_drop (cs : List IV) : ∀ (n : Nat) (vs : List Value), IV.Rs ι cs vs → IV.Rs ι (cs.drop n) (vs.drop n) := by
 induction cs with
 | nil => intro n vs h; simp only [IV.Rs] at h; subst h; simp [IV.Rs]
 | cons c cs ih =>
   intro n vs h
   simp only [IV.Rs] at h
   obtain ⟨u, us, rfl, r, rs⟩ := h
   cases n with
   | zero => simp only [List.drop_zero, IV.Rs]; exact ⟨u, us, rfl, r, rs⟩
   | succ n => simpa using ih n us rs
theorem Rs_take (cs : List IV) (n : Nat) (vs : List Value) (h : IV.Rs ι cs vs) : IV.Rs ι (cs.take n) (vs.take n) := by
 have := Rs_takeA (ρ := fun _ => none) (ι := ι) (cs.map AV.iv) n vs ((Rs_iv _ _).2 h)
 rw [← List.map_take] at this
 exact (Rs_iv _ _).1 this
theorem fieldA_ok (hT : TOk P T) (t f : Nat) (x : AV) {v : Value} (hx : x.R ρ ι v) : (fieldA T t f x).ok ρ ι P (Instr.fieldAt t v f) w := by
 unfold fieldA
 split
 ·rename_i off ft hf
  split
  ·rename_i d hd
   cases hz : Nat.beq d.size 0 with
   | true => exact trivial
   | false =>
     have hz' : d.size ≠ 0 := fun e => by rw [e] at hz; simp at hz
     simp only [cond_false]
     split
     ·simp only [AV.R] at hx
      obtain ⟨hv, b, h1, h2, rfl⟩ := hx
      refine fun _ => ⟨_, run_fieldAt hT hf hd hz' _, ?_⟩
      rw [add_none]
      simp only [AV.R]
      exact ⟨hv, b, h1, h2, rfl⟩
     ·simp only [AV.R] at hx
      obtain ⟨hv, b, h1, h2, rfl⟩ := hx
      refine fun _ => ⟨_, run_fieldAt hT hf hd hz' _, ?_⟩
      rw [add_none]
      simp only [AV.R]
      exact ⟨hv, b, h1, h2, by rw [Nat.add_assoc]⟩
     ·simp only [AV.R, IV.R] at hx
      obtain ⟨ad, vs, rfl, hs, hr, hc⟩ := hx
      refine fun _ => ⟨_, run_fieldAt hT hf hd hz' _, ?_⟩
      rw [add_none' hs]
      simp only [AV.R, IV.R]
      refine ⟨_, vs.drop off, rfl, rfl, Rs_drop _ _ _ hr, fun j u hu => ?_⟩
      rw [List.getElem?_drop] at hu
      have := hc (off + j) u hu
      rwa [← Nat.add_assoc] at this
     ·simp only [AV.R] at hx
      obtain ⟨ad, vs, rfl, hs, hr, hc⟩ := hx
      refine fun _ => ⟨_, run_fieldAt hT hf hd hz' _, ?_⟩
      rw [add_none' hs]
      simp only [AV.R]
      refine ⟨_, vs.drop off, rfl, rfl, Rs_dropA _ _ _ hr, fun j u hu => ?_⟩
      rw [List.getElem?_drop] at hu
      have := hc (off + j) u hu
      rwa [← Nat.add_assoc] at this
     ·exact trivial
  ·exact trivial
 ·exact trivial
theorem elemOfT_spec (hT : TOk P T) {t e : Nat} {d : TD} (h : elemOfT T t = some (e, d)) : P.underlying t = some (.slice e) ∧ T.get e = some d := by
 unfold elemOfT at h
 split at h
 ·rename_i d0 h0
  split at h
  ·rename_i e' hk
   cases he : T.get e' with
   | none => rw [he] at h; cases h
   | some d' =>
     rw [he] at h
     simp only [Option.map_some, Option.some.injEq, Prod.mk.injEq] at h
     obtain ⟨rfl, rfl⟩ := h
     exact ⟨td_sl hT h0 hk, he⟩
  ·cases h
 ·cases h
theorem run_indexAt (hT : TOk P T) {t e : Nat} {d : TD} (h : elemOfT T t = some (e, d)) (k : IntKind) (n : Int) (a : Addr) (len c : Nat) (h0 : 0 ≤ n) (h1 : n < len) : (Instr.indexAt t (.slice (some a) len c) (.int k n)).run P w = .ok (.pointer (some (a.add (n.toNat * d.size)))) w := by
 obtain ⟨h2, h3⟩ := elemOfT_spec hT h
 have h4 := run_sizeOf' hT h3 w
 simp [Instr.indexAt, asIntOf, run_underlying h2, h0, h1, h4]
theorem arrOfT_spec (hT : TOk P T) {t n : Nat} {d : TD} (h : arrOfT T t = some (n, d)) : ∃ e, P.underlying t = some (.array n e) ∧ T.get e = some d := by
 unfold arrOfT at h
 split at h
 ·rename_i d0 h0
  split at h
  ·rename_i n' e' hk
   cases he : T.get e' with
   | none => rw [he] at h; cases h
   | some d' =>
     rw [he] at h
     simp only [Option.map_some, Option.some.injEq, Prod.mk.injEq] at h
     obtain ⟨rfl, rfl⟩ := h
     obtain ⟨u, i, h1, _, rfl⟩ := td hT h0
     refine ⟨e', ?_, he⟩
     rw [h1]
     congr 1
     cases u <;> simp_all [TK.of]
  ·cases h
 ·cases h
theorem run_indexArr (hT : TOk P T) {t m : Nat} {d : TD} (h : arrOfT T t = some (m, d)) (k : IntKind) (n : Int) (a : Addr) (h0 : 0 ≤ n) (h1 : n < m) : (Instr.indexAt t (.pointer (some a)) (.int k n)).run P w = .ok (.pointer (some (a.add (n.toNat * d.size)))) w := by
 obtain ⟨e, h2, h3⟩ := arrOfT_spec hT h
 have h4 := run_sizeOf' hT h3 w
 simp [Instr.indexAt, asIntOf, run_underlying h2, h0, h1, h4, Instr.sureAddr]
theorem indexArr_ok (hT : TOk P T) (t : Nat) (x : AV) (n : Int) {v : Value} (hx : x.R ρ ι v) (k : IntKind) : (indexArr T t x n).ok ρ ι P (Instr.indexAt t v (.int k n)) w := by
 unfold indexArr
 split
 ·rename_i m d he
  cases hb : Nat.beq d.size 0 with
  | true => exact trivial
  | false =>
    simp only [cond_false]
    split
    ·rintro ⟨c0, c1, _⟩
     simp only [AV.R] at hx
     obtain ⟨hv, b, g1, g2, rfl⟩ := hx
     refine ⟨_, run_indexArr hT he k n _ c0 c1, ?_⟩
     rw [add_none]
     simp only [AV.R]
     exact ⟨hv, b, g1, g2, rfl⟩
    ·rintro ⟨c0, c1, _⟩
     simp only [AV.R, IV.R] at hx
     obtain ⟨ad, vs, rfl, hs, hr, hc⟩ := hx
     refine ⟨_, run_indexArr hT he k n _ c0 c1, ?_⟩
     rw [add_none' hs]
     simp only [AV.R, IV.R]
     refine ⟨_, (vs.drop _).take _, rfl, rfl, Rs_take _ _ _ (Rs_drop _ _ _ hr), fun j u hu => ?_⟩
     rw [List.getElem?_take] at hu
     split at hu
     ·rw [List.getElem?_drop] at hu
      have := hc _ u hu
      rwa [← Nat.add_assoc] at this
     ·cases hu
    ·rintro ⟨c0, c1, _⟩
     simp only [AV.R] at hx
     obtain ⟨ad, vs, rfl, hs, hr, hc⟩ := hx
     refine ⟨_, run_indexArr hT he k n _ c0 c1, ?_⟩
     rw [add_none' hs]
     simp only [AV.R]
     refine ⟨_, (vs.drop _).take _, rfl, rfl, Rs_takeA _ _ _ (Rs_dropA _ _ _ hr), fun j u hu => ?_⟩
     rw [List.getElem?_take] at hu
     split at hu
     ·rw [List.getElem?_drop] at hu
      have := hc _ u hu
      rwa [← Nat.add_assoc] at this
     ·cases hu
    ·exact trivial
 ·exact trivial
theorem indexA_ok (hT : TOk P T) (t : Nat) (x i : AV) {v u : Value} (hx : x.R ρ ι v) (hi : i.R ρ ι u) : (indexA T t x i).ok ρ ι P (Instr.indexAt t v u) w := by
 unfold indexA
 split
 ·rename_i e d k n he
  simp only [AV.R, IV.R] at hi
  subst hi
  split
  ·rename_i h sz off len
   cases hb : Nat.beq sz d.size with
   | false => exact trivial
   | true =>
     have hsz := Nat.eq_of_beq_eq_true hb
     simp only [cond_true]
     rintro ⟨c0, c1, _⟩
     simp only [AV.R] at hx
     obtain ⟨A, c, rfl, h2, h3, h4⟩ := hx
     obtain ⟨hv, b, g1, g2, rfl, g4⟩ := h4 (by omega)
     refine ⟨_, run_indexAt hT he k n _ _ _ c0 c1, ?_⟩
     rw [add_none]
     simp only [AV.R]
     exact ⟨hv, b, g1, g2, by rw [← hsz, Nat.add_mul]; rfl⟩
  ·rename_i sz len f
   cases hb : Nat.beq sz d.size with
   | false => exact trivial
   | true =>
     have hsz := Nat.eq_of_beq_eq_true hb
     simp only [cond_true]
     rintro ⟨c0, c1, _⟩
     simp only [AV.R, IV.R] at hx
     obtain ⟨A, c, rfl, h2, h3, h4⟩ := hx
     obtain ⟨ad, vs, rfl, s, r, l, g⟩ := h4 n.toNat (by omega)
     refine ⟨_, run_indexAt hT he k n _ _ _ c0 c1, ?_⟩
     rw [add_none' s]
     simp only [AV.R, IV.R]
     exact ⟨_, vs, rfl, rfl, r, fun j u hu => by rw [← hsz]; exact g j u hu⟩
  ·rename_i sz len f
   cases hb : Nat.beq sz d.size with
   | false => exact trivial
   | true =>
     have hsz := Nat.eq_of_beq_eq_true hb
     simp only [cond_true]
     rintro ⟨c0, c1, _⟩
     simp only [AV.R] at hx
     obtain ⟨A, c, rfl, h2, h3, h4⟩ := hx
     obtain ⟨ad, vs, rfl, s, r, l, g⟩ := h4 n.toNat (by omega)
     refine ⟨_, run_indexAt hT he k n _ _ _ c0 c1, ?_⟩
     rw [add_none' s]
     simp only [AV.R]
     exact ⟨_, vs, rfl, rfl, r, fun j u hu => by rw [← hsz]; exact g j u hu⟩
  ·rename_i l
   cases hb : Nat.beq d.size 1 with
   | false => exact trivial
   | true =>
     have hsz := Nat.eq_of_beq_eq_true hb
     simp only [cond_true]
     rintro ⟨c0, c1, _⟩
     simp only [AV.R, IV.R] at hx
     obtain ⟨A, c, rfl, h2, h3, h4⟩ := hx
     obtain ⟨ad, rfl, s, r⟩ := h4 n.toNat (by omega)
     refine ⟨_, run_indexAt hT he k n _ _ _ c0 c1, ?_⟩
     rw [add_none' s, hsz, Nat.mul_one]
     simp only [AV.R, IV.R, IV.Rs, byteI]
     refine ⟨_, [_], rfl, rfl, ⟨_, [], rfl, rfl, rfl⟩, fun j u hu => ?_⟩
     cases j with
     | zero => simp at hu; subst hu; simpa using r
     | succ j => simp at hu
  ·exact trivial
 ·rename_i k n he
  simp only [AV.R, IV.R] at hi
  subst hi
  exact indexArr_ok hT t x n hx k
 ·exact trivial
theorem indexV_ok (hT : TOk P T) (t : Nat) (x i : AV) {v u : Value} (hx : x.R ρ ι v) (hi : i.R ρ ι u) : (indexV T t x i).ok ρ ι P (Instr.index t v u) w := by
 unfold indexV
 split
 ·rename_i d l k n hd
  simp only [AV.R, IV.R] at hx hi
  subst hx hi
  split
  ·rename_i hk
   rintro ⟨c0, c1, _⟩
   refine ⟨.int .u8 ((l.getD n.toNat 0).toNat : Int), ?_, R_v _⟩
   have hlt : n.toNat < l.length := by omega
   have e1 : (⟨l.toArray⟩ : ByteArray)[n.toNat]? = some (l.getD n.toNat 0) := by
    have : (⟨l.toArray⟩ : ByteArray)[n.toNat]? = l[n.toNat]? := by
     have hsz : (⟨l.toArray⟩ : ByteArray).size = l.length := by simp [ByteArray.size]
     rw [getElem?_pos (⟨l.toArray⟩ : ByteArray) n.toNat (by rw [hsz]; exact hlt), List.getElem?_eq_getElem hlt]
     rfl
    rw [this]
    simp [List.getD, hlt]
   simp [Instr.index, asIntOf, run_underlying (td_str hT hd hk), c0, e1]
  ·exact trivial
 ·rename_i d0 x k n _ hd
  simp only [AV.R, IV.R] at hi
  subst hi
  split
  ·rename_i m d cs harr hcs
   obtain ⟨vs, rfl, hr⟩ := aggCells_spec hcs hx
   split
   ·rename_i y hy
    cases hb : (Nat.beq d.size 1 && !d.isAgg) with
    | false => exact trivial
    | true =>
      simp only [Bool.and_eq_true, Bool.not_eq_true'] at hb
      have l1 := Nat.eq_of_beq_eq_true hb.1
      simp only [cond_true]
      rintro ⟨c0, c1, _⟩
      obtain ⟨e, hu, hde⟩ := arrOfT_spec hT harr
      have hag := run_isAgg' hT hde w
      rw [hb.2] at hag
      cases hdr : cs.drop n.toNat with
      | nil => rw [hdr] at hy; cases hy
      | cons z zs =>
        rw [hdr] at hy
        simp only [pick1, Option.some.injEq] at hy
        subst hy
        have h1 := Rs_dropA cs n.toNat vs hr
        rw [hdr] at h1
        simp only [AV.Rs] at h1
        obtain ⟨u, us, e1, r, _⟩ := h1
        have e2 : vs[n.toNat]? = some u := by
         have : (vs.drop n.toNat)[0]? = some u := by rw [e1]; rfl
         rwa [List.getElem?_drop, Nat.add_zero] at this
        have hs := run_sizeOf' hT hde w
        refine ⟨u, ?_, r⟩
        simp [Instr.index, asIntOf, run_underlying hu, c0, c1, hs, l1, part, hag, e2]
   ·exact trivial
  ·exact trivial
 ·exact trivial
theorem idxs_mem : ∀ (n k : Nat), (idxs n)[k]? = if k < n then some k else none
 | 0, k => by simp [idxs]
 | n + 1, k => by
   have hl : ∀ n, (idxs n).length = n := fun n => by
    induction n with
    | zero => rfl
    | succ n ih => simp [idxs, ih]
   rw [idxs]
   by_cases h : k < n
   ·rw [List.getElem?_append_left (by rw [hl]; exact h), idxs_mem n k, if_pos h, if_pos (by omega)]
   ·by_cases h2 : k = n
    ·subst h2
     rw [List.getElem?_append_right (by rw [hl]; omega), hl, Nat.sub_self, if_pos (by omega)]
     rfl
    ·rw [if_neg (by omega), List.getElem?_eq_none]
     simp [hl]
     omega
theorem s2aA_ok (hT : TOk P T) (t : Nat) (x : AV) {v : Value} (hx : x.R ρ ι v) : (s2aA T t x).ok ρ ι P (Instr.arrayAt t v) w := by
 unfold s2aA
 split
 ·rename_i n d l harr
  cases hb : (Nat.beq d.size 1 && Nat.ble 1 n) with
  | false => exact trivial
  | true =>
    simp only [Bool.and_eq_true] at hb
    have h1 := Nat.le_of_ble_eq_true hb.2
    simp only [cond_true]
    rintro ⟨c0, _⟩
    have c0 : n ≤ l.length := c0
    obtain ⟨e, hu, hde⟩ := arrOfT_spec hT harr
    simp only [AV.R, IV.R] at hx
    obtain ⟨A, c, rfl, q1, q2, q3⟩ := hx
    obtain ⟨ad, rfl, hs, _⟩ := q3 0 (by omega)
    refine ⟨.pointer (some ad), ?_, ?_⟩
    ·have : ¬ l.length < n := by omega
     simp [Instr.arrayAt, run_underlying hu, this]
    ·simp only [AV.R, IV.R]
     refine ⟨ad, (idxs n).map fun k => .int .u8 ((l.getD k 0).toNat : Int), rfl, hs, ?_, fun j u hj => ?_⟩
     ·generalize idxs n = is
      induction is with
      | nil => simp [IV.Rs]
      | cons i is ih => simp only [List.map_cons, IV.Rs]; exact ⟨_, _, rfl, by simp [byteI, IV.R], ih⟩
     ·rw [List.getElem?_map, idxs_mem] at hj
      by_cases hjn : j < n
      ·rw [if_pos hjn] at hj
       simp only [Option.map_some, Option.some.injEq] at hj
       subst hj
       obtain ⟨ad', e1, _, e2⟩ := q3 j (by omega)
       injection e1 with e1
       subst e1
       exact e2
      ·rw [if_neg hjn] at hj
       cases hj
 ·exact trivial
end
end Go.Proofs.YtgfkepebfaiepaaGreatDoor.Ax
