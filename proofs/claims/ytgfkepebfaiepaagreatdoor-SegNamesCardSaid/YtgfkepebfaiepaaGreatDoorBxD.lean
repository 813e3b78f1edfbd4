/-
  Operations that only read: the model does just that (1).
-/
import Derived.Test.YtgfkepebfaiepaaGreatDoorBxC
import Derived.WalkLawsBesides
import Derived.WalkSpells
import Derived.IntWalk
import Derived.Laws.StructEq
import Derived.Lib.SlBytesConst
namespace Go.Proofs.YtgfkepebfaiepaaGreatDoor.Ax
open Go.RowKit
def ROut.ok (ρ : Rho) (ι : Imm) (P : Program) (s : Sem Value) (w : World) : ROut → Prop
 | .no => True
 | .one cs v => ands cs True → ∃ u, s.run P w = .ok u w ∧ v.R ρ ι u
 | .opt o sf n => ∃ u, s.run P w = .ok u w ∧ ((∃ x, o = some x ∧ (sf x).R ρ ι u) ∨ (o = none ∧ n.R ρ ι u))
theorem ands_iff (cs : List Cnd) (q : Prop) : ands cs q ↔ ands cs True ∧ q := by
 induction cs with
 | nil => simp [ands_nil]
 | cons c cs ih =>
   simp only [ands_cons]
   rw [ih]
   exact ⟨fun h => ⟨⟨h.1, h.2.1⟩, h.2.2⟩, fun h => ⟨h.1.1, h.1.2, h.2⟩⟩
theorem ROut.use {ρ : Rho} {ι : Imm} {P : Program} {s : Sem Value} {w : World} {r : ROut} {K : AV → Prop} (h : r.ok ρ ι P s w) (hk : r.K K) : ∃ u x, s.run P w = .ok u w ∧ x.R ρ ι u ∧ K x := by
 cases r with
 | no => exact hk.elim
 | one cs v =>
   have hk' := (ands_iff cs (K v)).1 hk
   obtain ⟨u, h1, h2⟩ := h hk'.1
   exact ⟨u, v, h1, h2, hk'.2⟩
 | opt o sf n =>
   obtain ⟨u, h1, h2⟩ := h
   rcases h2 with ⟨x, e, hx⟩ | ⟨e, hx⟩
   ·exact ⟨u, _, h1, hx, hk.1 x e⟩
   ·exact ⟨u, _, h1, hx, hk.2 e⟩
section
variable {ρ : Rho} {ι : Imm} {P : Program} {w : World}
theorem toIVs_spec : ∀ (l : List AV) (r : List IV) (vs : List Value), toIVs l = some r → AV.Rs ρ ι l vs → IV.Rs ι r vs
 | [], r, vs, h, hr => by simp only [toIVs, Option.some.injEq] at h; subst h; simpa [AV.Rs, IV.Rs] using hr
 | x :: xs, r, vs, h, hr => by
   unfold toIVs at h
   split at h
   ·rename_i y ys hy hys
    simp only [Option.some.injEq] at h
    subst h
    simp only [AV.Rs] at hr
    obtain ⟨u, us, rfl, r1, r2⟩ := hr
    simp only [IV.Rs]
    refine ⟨u, us, rfl, ?_, toIVs_spec xs ys us hys r2⟩
    cases x <;> simp only [AV.toIV] at hy <;> cases hy
    simpa [AV.R] using r1
   ·cases h
theorem toIV2_spec {x : AV} {y : IV} {v : Value} (h : x.toIV2 = some y) (hx : x.R ρ ι v) : y.R ι v := by
 unfold AV.toIV2 at h
 split at h
 ·injection h with h; subst h; simpa only [AV.R] using hx
 ·obtain ⟨l, hl, rfl⟩ := Option.map_eq_some_iff.1 h
  simp only [AV.R] at hx
  obtain ⟨vs, e, r⟩ := hx
  simp only [IV.R]
  exact ⟨vs, e, toIVs_spec _ _ _ hl r⟩
 ·cases h
theorem wrK_eq (k : IntKind) (n : Int) : wrK k n = k.wrap n := by cases k <;> simp [wrK, IntKind.wrap, IntKind.signed, IntKind.bits]
theorem inK_wrap {k : IntKind} {n : Int} (h : ands (inK k n) True) : k.wrap n = n := by
 cases k <;> simp only [inK, ands_cons, ands_nil, Cnd.P] at h
 ·exact IntWalk.i8_in n ⟨h.1, h.2.1⟩
 ·exact IntWalk.i16_in n ⟨h.1, h.2.1⟩
 ·exact IntWalk.i32_in n ⟨h.1, h.2.1⟩
 ·exact IntWalk.i64_in n ⟨h.1, h.2.1⟩
 ·exact IntWalk.u8_in n ⟨h.1, h.2.1⟩
 ·exact IntWalk.u16_in n ⟨h.1, h.2.1⟩
 ·exact IntWalk.u32_in n ⟨h.1, h.2.1⟩
 ·exact IntWalk.u64_in n ⟨h.1, h.2.1⟩
theorem beq_dec {α : Type} [BEq α] [LawfulBEq α] [DecidableEq α] (a b : α) : (a == b) = decide (a = b) := by rw [Bool.eq_iff_iff]; simp
theorem R_v (x : Value) : (AV.iv (.v x)).R ρ ι x := by simp [AV.R, IV.R]
theorem arK_ok (wr : Bool) (k : IntKind) (n : Int) {s : Sem Value} (h : s.run P w = .ok (.int k (k.wrap n)) w) : (arK wr k n).ok ρ ι P s w := by
 unfold arK
 cases wr with
 | true => exact fun _ => ⟨_, h, by rw [← wrK_eq]; exact R_v _⟩
 | false => exact fun hc => ⟨_, h, by rw [inK_wrap hc]; exact R_v _⟩
theorem bInt_ok (wr : Bool) (op : BinOp) (k : IntKind) (a b : Int) (t : TypeId) (h1 : op ≠ .shl) (h2 : op ≠ .shr) : (bInt wr op k a b).ok ρ ι P (binOp op t (.int k a) (.int k b)) w := by
 cases op <;> simp only [bInt]
 case add => exact arK_ok _ _ _ (by simp [binOp, Op.intArith])
 case sub => exact arK_ok _ _ _ (by simp [binOp, Op.intArith])
 case mul => exact arK_ok _ _ _ (by simp [binOp, Op.intArith])
 case quo =>
  intro hc
  obtain ⟨c1, c2, c3⟩ := hc
  refine ⟨_, ?_, R_v _⟩
  have hb : b ≠ 0 := by omega
  simp [binOp, Op.intDiv, hb, Int.tdiv_eq_ediv_of_nonneg c1, inK_wrap c3]
 case rem =>
  intro hc
  obtain ⟨c1, c2, _⟩ := hc
  refine ⟨_, ?_, R_v _⟩
  have hb : b ≠ 0 := by omega
  simp [binOp, Op.intDiv, hb, Int.tmod_eq_emod_of_nonneg c1]
 case and => exact fun _ => ⟨_, by simp [binOp, Op.intBits, bitK], R_v _⟩
 case or => exact fun _ => ⟨_, by simp [binOp, Op.intBits, bitK], R_v _⟩
 case xor => exact fun _ => ⟨_, by simp [binOp, Op.intBits, bitK], R_v _⟩
 case andNot => exact fun _ => ⟨_, by simp [binOp, Op.intBits, bitK], R_v _⟩
 case eql => exact fun _ => ⟨_, by simp [binOp, Op.intCmp, beq_dec], R_v _⟩
 case neq => exact fun _ => ⟨_, by simp [binOp, Op.intCmp, bne, beq_dec], R_v _⟩
 case lss => exact fun _ => ⟨_, by simp [binOp, Op.intCmp], R_v _⟩
 case leq => exact fun _ => ⟨_, by simp [binOp, Op.intCmp], R_v _⟩
 case gtr => exact fun _ => ⟨_, by simp [binOp, Op.intCmp], R_v _⟩
 case geq => exact fun _ => ⟨_, by simp [binOp, Op.intCmp], R_v _⟩
 case shl => exact absurd rfl h1
 case shr => exact absurd rfl h2
theorem bShift_ok (op : BinOp) (k k' : IntKind) (a b : Int) (t : TypeId) : (bShift op k a b).ok ρ ι P (binOp op t (.int k a) (.int k' b)) w := by
 cases op <;> simp only [bShift] <;> try exact trivial
 case shl =>
  intro hc
  obtain ⟨c1, _⟩ := hc
  refine ⟨_, ?_, R_v _⟩
  have hb : ¬ b < 0 := by omega
  simp [binOp, Op.shift, hb, wrK_eq]
 case shr =>
  intro hc
  obtain ⟨c1, _⟩ := hc
  refine ⟨_, ?_, R_v _⟩
  have hb : ¬ b < 0 := by omega
  simp only [binOp, Op.shift, hb, if_false, Sem.run_pure]
  rw [Int.fdiv_eq_ediv_of_nonneg _ (Int.pow_nonneg (by decide))]
theorem data_toList (l : List UInt8) : (⟨l.toArray⟩ : ByteArray).toList = l := by
 simp
theorem bStr_ok (op : BinOp) (a b : List UInt8) (t : TypeId) : (bStr op a b).ok ρ ι P (binOp op t (.string ⟨a.toArray⟩) (.string ⟨b.toArray⟩)) w := by
 have ha := data_toList a
 have hb := data_toList b
 cases op <;> simp only [bStr] <;> try exact trivial
 case add =>
  intro hc
  obtain ⟨c1, _⟩ := hc
  refine ⟨.string ⟨(a ++ b).toArray⟩, ?_, by simp [AV.R, IV.R]⟩
  have h1 : ¬ ((((⟨a.toArray⟩ : ByteArray).size + (⟨b.toArray⟩ : ByteArray).size : Nat) : Int) > IntKind.i64.max) := by
   have e : IntKind.i64.max = 9223372036854775807 := by decide
   have e1 : (⟨a.toArray⟩ : ByteArray).size = a.length := by simp [ByteArray.size]
   have e2 : (⟨b.toArray⟩ : ByteArray).size = b.length := by simp [ByteArray.size]
   rw [e, e1, e2]; omega
  have h2 : (⟨a.toArray⟩ ++ ⟨b.toArray⟩ : ByteArray) = ⟨(a ++ b).toArray⟩ := by
   apply ByteArray.ext
   simp
  simp only [binOp, Op.stringOp, if_neg h1, Sem.run_pure, h2]
 all_goals exact fun _ => ⟨_, by simp [binOp, Op.stringOp, ha, hb, beq_dec], R_v _⟩
theorem td {T : TT} (hT : TOk P T) {t : Nat} {d : TD} (e : T.get t = some d) : ∃ u i, P.underlying t = some u ∧ P.info? t = some i ∧ d = ⟨TK.of u, i.size, i.bytes, i.zero, eqB P t⟩ := mkTD_spec (hT.get e)
theorem TK.of_sl {u : TypeDesc} {e : Nat} (h : TK.of u = .sl e) : u = .slice e := by cases u <;> simp_all [TK.of]
theorem TK.of_str {u : TypeDesc} (h : TK.of u = .str) : u = .string := by cases u <;> simp_all [TK.of]
theorem TK.of_bool {u : TypeDesc} (h : TK.of u = .bool) : u = .bool := by cases u <;> simp_all [TK.of]
theorem TK.of_int {u : TypeDesc} {k : IntKind} (h : TK.of u = .int k) : u = .int k := by cases u <;> simp_all [TK.of]
theorem TK.of_mp {u : TypeDesc} {k e : Nat} (h : TK.of u = .mp k e) : u = .map k e := by cases u <;> simp_all [TK.of]
theorem TK.of_ptr {u : TypeDesc} {e : Nat} (h : TK.of u = .ptr e) : u = .pointer e := by cases u <;> simp_all [TK.of]
theorem TK.of_st {u : TypeDesc} {fs : List (Nat × Nat)} (h : TK.of u = .st fs) : ∃ f : Array Field, u = .struct f ∧ fs = f.toList.map fun f => (f.offset, f.type) := by cases u <;> simp_all [TK.of]
theorem TK.of_ifc {u : TypeDesc} (h : TK.of u = .ifc) : ∃ ms, u = .interface ms := by cases u <;> simp_all [TK.of]
theorem td_sl {T : TT} (hT : TOk P T) {t e : Nat} {d : TD} (h : T.get t = some d) (hk : d.k = .sl e) : P.underlying t = some (.slice e) := by
 obtain ⟨u, i, h1, _, rfl⟩ := td hT h
 rw [h1, TK.of_sl hk]
theorem td_str {T : TT} (hT : TOk P T) {t : Nat} {d : TD} (h : T.get t = some d) (hk : d.k = .str) : P.underlying t = some .string := by
 obtain ⟨u, i, h1, _, rfl⟩ := td hT h
 rw [h1, TK.of_str hk]
theorem td_bool {T : TT} (hT : TOk P T) {t : Nat} {d : TD} (h : T.get t = some d) (hk : d.k = .bool) : P.underlying t = some .bool := by
 obtain ⟨u, i, h1, _, rfl⟩ := td hT h
 rw [h1, TK.of_bool hk]
theorem td_int {T : TT} (hT : TOk P T) {t : Nat} {k : IntKind} {d : TD} (h : T.get t = some d) (hk : d.k = .int k) : P.underlying t = some (.int k) := by
 obtain ⟨u, i, h1, _, rfl⟩ := td hT h
 rw [h1, TK.of_int hk]
theorem td_mp {T : TT} (hT : TOk P T) {t k e : Nat} {d : TD} (h : T.get t = some d) (hk : d.k = .mp k e) : P.underlying t = some (.map k e) := by
 obtain ⟨u, i, h1, _, rfl⟩ := td hT h
 rw [h1, TK.of_mp hk]
theorem td_ptr {T : TT} (hT : TOk P T) {t e : Nat} {d : TD} (h : T.get t = some d) (hk : d.k = .ptr e) : P.underlying t = some (.pointer e) := by
 obtain ⟨u, i, h1, _, rfl⟩ := td hT h
 rw [h1, TK.of_ptr hk]
theorem td_info {T : TT} (hT : TOk P T) {t : Nat} {d : TD} (h : T.get t = some d) : ∃ i, P.info? t = some i ∧ i.size = d.size ∧ i.bytes = d.bytes ∧ i.zero = d.zero := by
 obtain ⟨u, i, _, h1, rfl⟩ := td hT h
 exact ⟨i, h1, rfl, rfl, rfl⟩
theorem run_sizeOf' {T : TT} (hT : TOk P T) {t : Nat} {d : TD} (h : T.get t = some d) (w : World) : (sizeOf t).run P w = .ok d.size w := by
 obtain ⟨i, h1, h2, _⟩ := td_info hT h
 simp [sizeOf, typeInfo, h1, h2]
theorem run_isAgg' {T : TT} (hT : TOk P T) {t : Nat} {d : TD} (h : T.get t = some d) (w : World) : (isAgg t).run P w = .ok d.isAgg w := by
 obtain ⟨u, i, h1, _, rfl⟩ := td hT h
 cases u <;> simp [isAgg, run_underlying h1, TD.isAgg, TK.of]
theorem run_zero' {T : TT} (hT : TOk P T) {t : Nat} {d : TD} {z : Value} (h : T.get t = some d) (hz : d.zero = some z) (w : World) : (zeroValue t).run P w = .ok z w := by
 obtain ⟨i, h1, _, _, h2⟩ := td_info hT h
 simp [zeroValue, typeInfo, h1, h2, hz]
theorem nil_R {x : AV} {v : Value} (h : isNilC x = true) (hx : x.R ρ ι v) : v = .pointer none ∨ (∃ n c, v = .slice none n c) ∨ v = .map none := by
 unfold isNilC at h
 split at h <;> simp_all [AV.R, IV.R]
theorem ptr_R {x : AV} {v : Value} {e : Nat} {a : Bool} (h : TK.hasNil (.ptr e) x = true) (hn : nilness x = some a) (hx : x.R ρ ι v) : ∃ p, v = .pointer p ∧ p.isNone = a := by
 unfold TK.hasNil at h
 split at h <;> first | (simp at h; done) | skip
 all_goals try (rename_i h0; cases h0; done)
 all_goals simp only [nilness, Option.some.injEq] at hn
 all_goals subst hn
 all_goals simp only [AV.R, IV.R] at hx
 all_goals (first | (obtain ⟨_, _, _, _, h⟩ := hx; exact ⟨_, h, rfl⟩) | (obtain ⟨_, _, h, _⟩ := hx; exact ⟨_, h, rfl⟩) | (exact ⟨_, hx, rfl⟩) | (obtain ⟨_, h, _⟩ := hx; cases h; done))
theorem map_R {x : AV} {v : Value} {k e : Nat} {a : Bool} (h : TK.hasNil (.mp k e) x = true) (hn : nilness x = some a) (hx : x.R ρ ι v) : ∃ p, v = .map p ∧ p.isNone = a := by
 unfold TK.hasNil at h
 split at h <;> simp_all [AV.R, IV.R, nilness]
 all_goals (first | (subst hn; exact ⟨_, rfl, rfl⟩) | (obtain ⟨_, _, _, _, h⟩ := hx; exact ⟨_, h, rfl⟩))
theorem sl_R {x : AV} {v : Value} {e : Nat} {a : Bool} (h : TK.hasNil (.sl e) x = true) (hn : nilness x = some a) (hx : x.R ρ ι v) : a = true ∧ ∃ n c, v = .slice none n c := by
 unfold TK.hasNil at h
 split at h <;> simp_all [AV.R, IV.R, nilness]
theorem eqIn_bool (d : Nat) {t : TypeId} (hu : P.underlying t = some .bool) (a b : Bool) : (Op.equalIn (d + 1) t (.bool a) (.bool b)).run P w = .ok (a == b) w := by simp [Op.equalIn, run_underlying hu]
theorem eqIn_ptr1 (d : Nat) {t e : TypeId} (hu : P.underlying t = some (.pointer e)) (b : Option Addr) : (Op.equalIn (d + 1) t (.pointer none) (.pointer b)).run P w = .ok b.isNone w := by simp [Op.equalIn, run_underlying hu]
theorem eqIn_ptr2 (d : Nat) {t e : TypeId} (hu : P.underlying t = some (.pointer e)) (a : Addr) : (Op.equalIn (d + 1) t (.pointer (some a)) (.pointer none)).run P w = .ok false w := by simp [Op.equalIn, run_underlying hu]
theorem eqIn_map1 (d : Nat) {t k e : TypeId} (hu : P.underlying t = some (.map k e)) (b : Option Nat) : (Op.equalIn (d + 1) t (.map none) (.map b)).run P w = .ok b.isNone w := by simp [Op.equalIn, run_underlying hu]
theorem eqIn_map2 (d : Nat) {t k e : TypeId} (hu : P.underlying t = some (.map k e)) (a : Nat) : (Op.equalIn (d + 1) t (.map (some a)) (.map none)).run P w = .ok false w := by simp [Op.equalIn, run_underlying hu]
theorem eqIn_sl (d : Nat) {t e : TypeId} (hu : P.underlying t = some (.slice e)) (n c n' c' : Nat) : (Op.equalIn (d + 1) t (.slice none n c) (.slice none n' c')).run P w = .ok true w := by simp [Op.equalIn, run_underlying hu]
theorem eqIn_slA (d : Nat) {t e : TypeId} (hu : P.underlying t = some (.slice e)) (A : Option Addr) (n c n' c' : Nat) : (Op.equalIn (d + 1) t (.slice A n c) (.slice none n' c')).run P w = .ok A.isNone w := by cases A <;> simp [Op.equalIn, run_underlying hu]
theorem equal_in (t : TypeId) (x y : Value) : Op.equal t x y = Op.equalIn (9999 + 1) t x y := rfl
theorem eql_bin (t : TypeId) (x y : Value) (b : Bool) (h : (Op.equal t x y).run P w = .ok b w) (hb : binOp .eql t x y = (do pure (.bool (← Op.equal t x y)))) : (binOp .eql t x y).run P w = .ok (.bool b) w := by
 rw [hb, Sem.run_bind, h]; rfl
theorem neq_bin (t : TypeId) (x y : Value) (b : Bool) (h : (Op.equal t x y).run P w = .ok b w) (hb : binOp .neq t x y = (do pure (.bool (!(← Op.equal t x y))))) : (binOp .neq t x y).run P w = .ok (.bool !b) w := by
 rw [hb, Sem.run_bind, h]; rfl
theorem run_seq (s : Sem Unit) (r : Sem Value) (h : s.run P w = .ok () w) : (do s; r).run P w = r.run P w := by
 rw [Sem.run_bind, h]; rfl
theorem bNil_ok {T : TT} (hT : TOk P T) (op : BinOp) (t : TypeId) (x y : AV) {a b : Value} (hx : x.R ρ ι a) (hy : y.R ρ ι b) (px py : Operand) :
 (bNil T op t x y).ok ρ ι P (do eqGuard op t px py a b; binOp op t a b) w := by
 unfold bNil
 split
 ·rename_i d ax ay hd hnx hny
  by_cases hc : (d.k.hasNil x && d.k.hasNil y && (isNilC x || isNilC y)) = true
  ·rw [hc]
   simp only [cond_true]
   simp only [Bool.and_eq_true] at hc
   obtain ⟨⟨c1, c2⟩, c3⟩ := hc
   have key : (eqGuard op t px py a b).run P w = .ok () w ∧ (Op.equal t a b).run P w = .ok (ax && ay) w ∧ (op = .eql → (binOp op t a b) = (do pure (.bool (← Op.equal t a b)))) ∧ (op = .neq → (binOp op t a b) = (do pure (.bool (!(← Op.equal t a b))))) := by
    cases hk : d.k with
    | ptr e =>
      rw [hk] at c1 c2
      obtain ⟨p, rfl, rfl⟩ := ptr_R c1 hnx hx
      obtain ⟨q, rfl, rfl⟩ := ptr_R c2 hny hy
      have hu := td_ptr hT hd hk
      refine ⟨by cases op <;> simp [eqGuard], ?_, fun e => by subst e; rfl, fun e => by subst e; rfl⟩
      cases p with
      | none => rw [equal_in, eqIn_ptr1 _ hu]; simp
      | some p =>
        cases q with
        | none => rw [equal_in, eqIn_ptr2 _ hu]; simp
        | some q =>
          exfalso
          rcases Bool.or_eq_true _ _ ▸ c3 with h | h
          ·rcases nil_R h hx with h | ⟨_, _, h⟩ | h <;> cases h
          ·rcases nil_R h hy with h | ⟨_, _, h⟩ | h <;> cases h
    | mp k e =>
      rw [hk] at c1 c2
      obtain ⟨p, rfl, rfl⟩ := map_R c1 hnx hx
      obtain ⟨q, rfl, rfl⟩ := map_R c2 hny hy
      have hu := td_mp hT hd hk
      refine ⟨by cases op <;> simp [eqGuard], ?_, fun e => by subst e; rfl, fun e => by subst e; rfl⟩
      cases p with
      | none => rw [equal_in, eqIn_map1 _ hu]; simp
      | some p =>
        cases q with
        | none => rw [equal_in, eqIn_map2 _ hu]; simp
        | some q =>
          exfalso
          rcases Bool.or_eq_true _ _ ▸ c3 with h | h
          ·rcases nil_R h hx with h | ⟨_, _, h⟩ | h <;> cases h
          ·rcases nil_R h hy with h | ⟨_, _, h⟩ | h <;> cases h
    | sl e =>
      rw [hk] at c1 c2
      obtain ⟨rfl, n, c, rfl⟩ := sl_R c1 hnx hx
      obtain ⟨rfl, n', c', rfl⟩ := sl_R c2 hny hy
      have hu := td_sl hT hd hk
      exact ⟨by cases op <;> simp [eqGuard], by rw [equal_in, eqIn_sl _ hu]; simp, fun e => by subst e; rfl, fun e => by subst e; rfl⟩
    | ifc =>
      exfalso
      rw [hk] at c1 c2
      rcases Bool.or_eq_true _ _ ▸ c3 with h | h
      ·unfold isNilC at h; split at h <;> simp_all [TK.hasNil]
      ·unfold isNilC at h; split at h <;> simp_all [TK.hasNil]
    | _ => rw [hk] at c1; simp [TK.hasNil] at c1
   obtain ⟨k1, k2, k3, k4⟩ := key
   cases op <;> try exact trivial
   ·exact fun _ => ⟨_, (run_seq _ _ k1).trans (eql_bin t a b _ k2 (k3 rfl)), R_v _⟩
   ·exact fun _ => ⟨_, (run_seq _ _ k1).trans (neq_bin t a b _ k2 (k4 rfl)), R_v _⟩
  ·rw [Bool.eq_false_iff.2 hc]; exact trivial
 ·rename_i d _ hd _ _
  by_cases hc : (d.k.isSl && (isSlU x && isNilS y)) = true
  ·rw [hc]
   simp only [cond_true]
   simp only [Bool.and_eq_true] at hc
   obtain ⟨c1, c2, c3⟩ := hc
   cases hk : d.k with
   | sl e =>
     have hu := td_sl hT hd hk
     obtain ⟨A, n, c, rfl, hU⟩ : ∃ A n c, a = .slice A n c ∧ ∀ z : Bool, (nilU x z).R ρ ι (.bool (bif z then !A.isNone else A.isNone)) := by
      have ab : ∀ z : Bool, AV.anyb.R ρ ι (.bool z) := fun z => by simp only [AV.R]; exact ⟨z, rfl⟩
      have sm : ∀ (ad : Addr) (z : Bool), (AV.bool z).R ρ ι (.bool (bif z then !(some ad).isNone else (some ad).isNone)) := fun ad z => by cases z <;> simp [AV.R, IV.R]
      unfold isSlU at c2
      split at c2
      ·rename_i l _
       simp only [AV.R, IV.R] at hx
       obtain ⟨A, c, e, _, _, h4⟩ := hx
       refine ⟨A, _, c, e, fun z => ?_⟩
       cases l with
       | nil => exact ab _
       | cons y ys =>
         obtain ⟨ad, rfl, _⟩ := h4 0 (by simp)
         exact sm ad z
      ·rename_i sz n f _
       simp only [AV.R, IV.R] at hx
       obtain ⟨A, c, e, _, _, h4⟩ := hx
       refine ⟨A, _, c, e, fun z => ?_⟩
       cases n with
       | zero => exact ab _
       | succ n =>
         obtain ⟨ad, _, rfl, _⟩ := h4 0 (by omega)
         exact sm ad z
      ·rename_i sz n f _
       simp only [AV.R] at hx
       obtain ⟨A, c, e, _, _, h4⟩ := hx
       refine ⟨A, _, c, e, fun z => ?_⟩
       cases n with
       | zero => exact ab _
       | succ n =>
         obtain ⟨ad, _, rfl, _⟩ := h4 0 (by omega)
         exact sm ad z
      ·rename_i h sz off n _
       simp only [AV.R] at hx
       obtain ⟨A, c, e, h2, h3, h4⟩ := hx
       refine ⟨A, _, c, e, fun z => ?_⟩
       cases n with
       | zero => exact ab _
       | succ n =>
         obtain ⟨_, _, _, _, rfl, _⟩ := h4 (by omega)
         exact sm _ z
      ·cases c2
     obtain ⟨n', c', rfl⟩ : ∃ n c, b = .slice none n c := by
      unfold isNilS at c3
      split at c3
      ·simp only [AV.R, IV.R] at hy; exact ⟨_, _, hy⟩
      ·cases c3
     have key : (eqGuard op t px py (.slice A n c) (.slice none n' c')).run P w = .ok () w ∧ (Op.equal t (.slice A n c) (.slice none n' c')).run P w = .ok A.isNone w ∧ (op = .eql → (binOp op t (.slice A n c) (.slice none n' c')) = (do pure (.bool (← Op.equal t (.slice A n c) (.slice none n' c'))))) ∧ (op = .neq → (binOp op t (.slice A n c) (.slice none n' c')) = (do pure (.bool (!(← Op.equal t (.slice A n c) (.slice none n' c')))))) := by
      refine ⟨by cases op <;> simp [eqGuard], ?_, fun e => by subst e; rfl, fun e => by subst e; rfl⟩
      rw [equal_in, eqIn_slA _ hu]
     obtain ⟨k1, k2, k3, k4⟩ := key
     cases op <;> try exact trivial
     ·exact fun _ => ⟨_, (run_seq _ _ k1).trans (eql_bin t _ _ _ k2 (k3 rfl)), hU false⟩
     ·exact fun _ => ⟨_, (run_seq _ _ k1).trans (neq_bin t _ _ _ k2 (k4 rfl)), hU true⟩
   | _ => rw [hk] at c1; simp [TK.isSl] at c1
  ·rw [Bool.eq_false_iff.2 hc]; exact trivial
 ·exact trivial
theorem Rs_iv (cs : List IV) : ∀ vs : List Value, AV.Rs ρ ι (cs.map AV.iv) vs ↔ IV.Rs ι cs vs := by
 induction cs with
 | nil => intro vs; simp [AV.Rs, IV.Rs]
 | cons c cs ih => intro vs; simp only [List.map_cons, AV.Rs, IV.Rs, ih, AV.R]
theorem Rs_dropA (cs : List AV) : ∀ (n : Nat) (vs : List Value), AV.Rs ρ ι cs vs → AV.Rs ρ ι (cs.drop n) (vs.drop n) := by
 induction cs with
 | nil => intro n vs h; simp only [AV.Rs] at h; subst h; simp [AV.Rs]
 | cons c cs ih =>
   intro n vs h
   simp only [AV.Rs] at h
   obtain ⟨u, us, rfl, r, rs⟩ := h
   cases n with
   | zero => simp only [List.drop_zero, AV.Rs]; exact ⟨u, us, rfl, r, rs⟩
   | succ n => simpa using ih n us rs
theorem Rs_takeA (cs : List AV) : ∀ (n : Nat) (vs : List Value), AV.Rs ρ ι cs vs → AV.Rs ρ ι (cs.take n) (vs.take n) := by
 induction cs with
 | nil => intro n vs h; simp only [AV.Rs] at h; subst h; simp [AV.Rs]
 | cons c cs ih =>
   intro n vs h
   simp only [AV.Rs] at h
   obtain ⟨u, us, rfl, r, rs⟩ := h
   cases n with
   | zero => simp [AV.Rs]
   | succ n =>
     simp only [List.take_succ_cons, AV.Rs]
     exact ⟨u, _, rfl, r, ih n us rs⟩
theorem Rs_lenA (cs : List AV) : ∀ (vs : List Value), AV.Rs ρ ι cs vs → vs.length = cs.length := by
 induction cs with
 | nil => intro vs h; simp only [AV.Rs] at h; subst h; rfl
 | cons c cs ih =>
   intro vs h
   simp only [AV.Rs] at h
   obtain ⟨u, us, rfl, r, rs⟩ := h
   simp [ih us rs]
theorem Rs_getA (cs : List AV) : ∀ (vs : List Value) (i : Nat) (x : AV), AV.Rs ρ ι cs vs → cs[i]? = some x → ∃ u, vs[i]? = some u ∧ x.R ρ ι u := by
 induction cs with
 | nil => intro vs i x h hx; simp at hx
 | cons c cs ih =>
   intro vs i x h hx
   simp only [AV.Rs] at h
   obtain ⟨u, us, rfl, r, rs⟩ := h
   cases i with
   | zero => simp only [List.getElem?_cons_zero, Option.some.injEq] at hx; subst hx; exact ⟨u, by simp, r⟩
   | succ i => simpa using ih us i x rs (by simpa using hx)
theorem part_run {T : TT} (hT : TOk P T) {t : Nat} {cs : List AV} {vs : List Value} {off : Nat} {x : AV} (hr : AV.Rs ρ ι cs vs) (hx : partA T t cs off = some x) : ∃ u, (part t vs.toArray off).run P w = .ok u w ∧ x.R ρ ι u := by
 unfold partA at hx
 split at hx
 ·rename_i d hd
  have ha := run_isAgg' hT hd w
  have hz := run_sizeOf' hT hd w
  cases hag : d.isAgg with
  | true =>
    rw [hag] at hx ha
    simp only [cond_true] at hx
    cases hb : Nat.ble (off + d.size) cs.length with
    | false => rw [hb] at hx; cases hx
    | true =>
      rw [hb] at hx
      simp only [cond_true, Option.some.injEq] at hx
      subst hx
      have e : vs.toArray.extract off (off + d.size) = ((vs.drop off).take d.size).toArray := by
       apply Array.ext'
       simp [List.extract_eq_take_drop]
      refine ⟨.agg ((vs.drop off).take d.size).toArray, by simp [part, ha, hz], ?_⟩
      simp only [AV.R]
      exact ⟨_, rfl, Rs_takeA _ _ _ (Rs_dropA _ _ _ hr)⟩
  | false =>
    rw [hag] at hx ha
    simp only [cond_false] at hx
    cases hcs : cs.drop off with
    | nil => rw [hcs] at hx; cases hx
    | cons c cs' =>
      rw [hcs] at hx
      simp only [pick1, Option.some.injEq] at hx
      subst hx
      have h1 := Rs_dropA cs off vs hr
      rw [hcs] at h1
      simp only [AV.Rs] at h1
      obtain ⟨u, us, e, r, _⟩ := h1
      have e2 : vs[off]? = some u := by
       have : (vs.drop off)[0]? = some u := by rw [e]; rfl
       rwa [List.getElem?_drop, Nat.add_zero] at this
      exact ⟨u, by simp [part, ha, e2], r⟩
 ·cases hx
theorem aggCells_spec {x : AV} {xs : List AV} {u : Value} (h : aggCells x = some xs) (hx : x.R ρ ι u) : ∃ vs, u = .agg vs.toArray ∧ AV.Rs ρ ι xs vs := by
 unfold aggCells at h
 split at h
 ·injection h with h; subst h; simpa only [AV.R] using hx
 ·injection h with h; subst h
  simp only [AV.R, IV.R] at hx
  obtain ⟨vs, e, r⟩ := hx
  exact ⟨vs, e, (Rs_iv _ _).2 r⟩
 ·rename_i vs
  injection h with h; subst h
  simp only [AV.R, IV.R] at hx
  refine ⟨vs.toList, by simpa using hx, ?_⟩
  generalize vs.toList = l
  induction l with
  | nil => simp [AV.Rs]
  | cons c cs ih => simp only [List.map_cons, AV.Rs, AV.R, IV.R]; exact ⟨c, cs, rfl, rfl, ih⟩
 ·cases h
theorem eqOne_run {T : TT} (hT : TOk P T) (d : Nat) {t : Nat} {x y : AV} {a b : Value} {r : Bool} (hx : x.R ρ ι a) (hy : y.R ρ ι b) (h : eqOne T t x y = some r) : (Op.equalIn (d + 1) t a b).run P w = .ok r w := by
 unfold eqOne at h
 split at h
 ·rename_i td' hd
  split at h
  ·rename_i k0 k p k' q hk
   split at h
   ·rename_i he
    subst he
    injection h with h
    simp only [AV.R, IV.R] at hx hy
    subst hx hy h
    rw [run_equalIn_int _ _ _ _ _ _ _ (td_int hT hd hk), beq_dec]
   ·cases h
  ·rename_i p q hk
   injection h with h
   simp only [AV.R, IV.R] at hx hy
   subst hx hy h
   rw [run_equalIn_string _ _ _ _ _ (td_str hT hd hk), data_toList, data_toList, beq_dec]
  ·rename_i p q hk
   injection h with h
   simp only [AV.R, IV.R] at hx hy
   subst hx hy h
   rw [run_equalIn_bool' _ _ _ _ _ (td_bool hT hd hk), beq_dec]
  ·cases h
 ·cases h
theorem eqFs_run {T : TT} (hT : TOk P T) (d : Nat) {xs ys : List AV} {as bs : List Value} (hx : AV.Rs ρ ι xs as) (hy : AV.Rs ρ ι ys bs) :
 ∀ (fs : List Field) (r : Bool), fs.all (fun f => !(f.name == "_")) = true → eqFs T xs ys (fs.map fun f => (f.offset, f.type)) = some r → (Op.eqFields (d + 1) as.toArray bs.toArray fs).run P w = .ok r w
 | [], r, _, h => by simp only [List.map_nil, eqFs, Option.some.injEq] at h; subst h; rfl
 | f :: fs, r, hn, h => by
   simp only [List.all_cons, Bool.and_eq_true, Bool.not_eq_true', beq_eq_false_iff_ne] at hn
   simp only [List.map_cons, eqFs] at h
   split at h
   ·rename_i a b ha hb
    split at h
    ·rename_i p q hp hq
     injection h with h
     subst h
     obtain ⟨u, e1, r1⟩ := part_run (P := P) (w := w) hT hx ha
     obtain ⟨v, e2, r2⟩ := part_run (P := P) (w := w) hT hy hb
     simp only [Op.eqFields]
     rw [if_pos hn.1]
     have e3 := eqOne_run (P := P) (w := w) hT d r1 r2 hp
     simp only [Sem.run_bind]
     rw [e1]
     simp only [Result.andThen_ok]
     rw [e2]
     simp only [Result.andThen_ok]
     rw [e3]
     simp only [Result.andThen_ok]
     cases p with
     | false => simp
     | true =>
       simp only [Bool.not_true, Bool.false_eq_true, if_false, Bool.true_and]
       exact eqFs_run hT d hx hy fs q hn.2 hq
    ·cases h
   ·cases h
theorem intsOf_spec {k : IntKind} : ∀ {xs : List AV} {as : List Value} {A : List Int}, intsOf k xs = some A → AV.Rs ρ ι xs as → as = A.map (Value.int k ·)
 | [], as, A, h, hr => by
   simp only [intsOf, Option.some.injEq] at h
   subst h
   simpa only [AV.Rs, List.map_nil] using hr
 | x :: t, as, A, h, hr => by
   unfold intsOf at h
   split at h
   ·rename_i he
    cases he
   ·rename_i k' n t' he
    cases he
    split at h
    ·rename_i hk
     obtain ⟨A', h1, rfl⟩ := Option.map_eq_some_iff.1 h
     simp only [AV.Rs, AV.R, IV.R] at hr
     obtain ⟨u, us, rfl, rfl, hr⟩ := hr
     rw [intsOf_spec h1 hr, hk]
     rfl
    ·cases h
   ·cases h
theorem eqItems_ints (e : TypeId) (k : IntKind) (hag : (isAgg e).run P w = .ok false w) (hu : P.underlying e = some (.int k)) (d : Nat) (A B : List Int) : ∀ (m s : Nat), s + m ≤ A.length → s + m ≤ B.length →
 (Op.eqItems (d + 1) e 1 (A.map (Value.int k ·)).toArray (B.map (Value.int k ·)).toArray (List.range' s m)).run P w = .ok (decide ((A.drop s).take m = (B.drop s).take m)) w
 | 0, s, _, _ => by simp [Op.eqItems]
 | m + 1, s, h1, h2 => by
   have p : ∀ L : List Int, s < L.length → (part e (L.map (Value.int k ·)).toArray (s * 1)).run P w = .ok (.int k (L.getD s 0)) w := fun L hL => by
    simp [part, hag, List.getD, hL]
   rw [List.range'_succ]
   simp only [Op.eqItems, Sem.run_bind]
   rw [p A (by omega)]
   simp only [Result.andThen_ok]
   rw [p B (by omega)]
   simp only [Result.andThen_ok]
   rw [run_equalIn_int _ _ _ _ _ _ _ hu, beq_dec]
   simp only [Result.andThen_ok]
   have g : ∀ L : List Int, s < L.length → (L.drop s).take (m + 1) = L.getD s 0 :: (L.drop (s + 1)).take m := fun L hL => by
    rw [List.drop_eq_getElem_cons hL, List.take_succ_cons]
    simp [List.getD, hL]
   rw [g A (by omega), g B (by omega)]
   by_cases hq : A.getD s 0 = B.getD s 0
   ·rw [decide_eq_true hq]
    simp only [Bool.not_true, Bool.false_eq_true, if_false]
    rw [eqItems_ints e k hag hu d A B m (s + 1) (by omega) (by omega), hq]
    simp
   ·rw [decide_eq_false hq, decide_eq_false (fun h => hq (by injection h))]
    simp
theorem bArr_ok {T : TT} (hT : TOk P T) (op : BinOp) (t n e : Nat) {d : TD} (hd : T.get t = some d) (hk : d.k = .arr n e) (he : d.eq = true) {xs ys : List AV} {as bs : List Value} (hx : AV.Rs ρ ι xs as) (hy : AV.Rs ρ ι ys bs) (px py : Operand) :
 (bArr T op n e xs ys).ok ρ ι P (do eqGuard op t px py (.agg as.toArray) (.agg bs.toArray); binOp op t (.agg as.toArray) (.agg bs.toArray)) w := by
 unfold bArr
 split
 ·rename_i de hde
  split
  ·rename_i k hdk
   split
   ·rename_i A B hA hB
    cases hb : (Nat.beq A.length n && Nat.beq B.length n && Nat.beq de.size 1) with
    | false => exact trivial
    | true =>
      simp only [Bool.and_eq_true] at hb
      have l1 := Nat.eq_of_beq_eq_true hb.1.1
      have l2 := Nat.eq_of_beq_eq_true hb.1.2
      have l3 := Nat.eq_of_beq_eq_true hb.2
      obtain ⟨u, i, h1, _, h3⟩ := td hT hd
      have h4 : eqB P t = true := by rw [← he, h3]
      have h5 : TK.of u = .arr n e := by rw [← hk, h3]
      have hu : P.underlying t = some (.array n e) := by
       rw [h1]
       congr 1
       cases u <;> simp_all [TK.of]
      unfold eqB at h4
      rw [hu] at h4
      simp only [Bool.not_eq_true'] at h4
      obtain ⟨ue, ie, _, q2, q3⟩ := td hT hde
      have hs : P.cellsOf e = 1 := by
       show ((P.info? e).map (·.size)).getD 0 = _
       rw [q2]
       rw [q3] at l3
       exact l3
      have hag := run_isAgg' hT hde w
      have hag : (isAgg e).run P w = .ok false w := by rw [hag]; simp [TD.isAgg, hdk]
      have key : (Op.equalIn 10000 t (.agg as.toArray) (.agg bs.toArray)).run P w = .ok (decide (A = B)) w := by
       rw [intsOf_spec hA hx, intsOf_spec hB hy, run_equalIn_array w 9999 _ _ hu q2, hs, List.range_eq_range', eqItems_ints e k hag (td_int hT hde hdk) 9998 A B n 0 (by omega) (by omega)]
       simp only [List.drop_zero]
       rw [List.take_of_length_le (by omega), List.take_of_length_le (by omega)]
      simp only [cond_true]
      cases op <;> try exact trivial
      ·refine fun _ => ⟨_, (run_seq _ _ (run_eqGuard_agg w _ _ _ _ _ _ h4)).trans ?_, R_v _⟩
       rw [run_eql_struct, key]; rfl
      ·refine fun _ => ⟨_, (run_seq _ _ (run_eqGuard_agg w _ _ _ _ _ _ h4)).trans ?_, R_v _⟩
       rw [run_neq_struct, key]; rfl
   ·exact trivial
  ·exact trivial
 ·exact trivial
theorem bAgg_ok {T : TT} (hT : TOk P T) (op : BinOp) (t : TypeId) {xs ys : List AV} {as bs : List Value} (hx : AV.Rs ρ ι xs as) (hy : AV.Rs ρ ι ys bs) (px py : Operand) :
 (bAgg T op t xs ys).ok ρ ι P (do eqGuard op t px py (.agg as.toArray) (.agg bs.toArray); binOp op t (.agg as.toArray) (.agg bs.toArray)) w := by
 unfold bAgg
 split
 ·rename_i d hd
  split
  ·rename_i fs hk
   cases he : d.eq with
   | false => exact trivial
   | true =>
     simp only [cond_true]
     split
     ·rename_i r hr
      obtain ⟨u, i, h1, _, h3⟩ := td hT hd
      have h4 : eqB P t = true := by rw [← he, h3]
      have h5 : TK.of u = .st fs := by rw [← hk, h3]
      obtain ⟨fa, rfl, rfl⟩ := TK.of_st h5
      unfold eqB at h4
      rw [h1] at h4
      simp only [Bool.and_eq_true, Bool.not_eq_true'] at h4
      obtain ⟨⟨g1, g2⟩, g3⟩ := h4
      have hf : P.fieldsOf t = fa := by simp only [Program.fieldsOf, h1]
      have key : (Op.equalIn 10000 t (.agg as.toArray) (.agg bs.toArray)).run P w = .ok r w := by
       rw [run_equalIn_agg w 9999 t _ _ (by rw [hf]; exact h1) g2, hf]
       exact eqFs_run hT 9998 hx hy _ r g3 hr
      cases op <;> try exact trivial
      ·refine fun _ => ⟨_, (run_seq _ _ (run_eqGuard_agg w _ _ _ _ _ _ g1)).trans ?_, R_v _⟩
       rw [run_eql_struct, key]; rfl
      ·refine fun _ => ⟨_, (run_seq _ _ (run_eqGuard_agg w _ _ _ _ _ _ g1)).trans ?_, R_v _⟩
       rw [run_neq_struct, key]; rfl
     ·exact trivial
  ·rename_i n e hk
   cases he : d.eq with
   | false => exact trivial
   | true => exact bArr_ok hT op t n e hd hk he hx hy px py
  ·exact trivial
 ·exact trivial
theorem bop_ok {T : TT} (hT : TOk P T) (wr : Bool) (op : BinOp) (t : TypeId) (x y : AV) {a b : Value} (hx : x.R ρ ι a) (hy : y.R ρ ι b) (px py : Operand) :
 (bop T wr op t x y).ok ρ ι P (do eqGuard op t px py a b; binOp op t a b) w := by
 unfold bop
 split
 ·rename_i k n k' m
  simp only [AV.R, IV.R] at hx hy
  subst hx hy
  have hg : (eqGuard op t px py (.int k n) (.int k' m)).run P w = .ok () w := by cases op <;> simp [eqGuard]
  have pass : ∀ r : ROut, r.ok ρ ι P (binOp op t (.int k n) (.int k' m)) w → r.ok ρ ι P (do eqGuard op t px py (.int k n) (.int k' m); binOp op t (.int k n) (.int k' m)) w := by
   intro r hr
   cases r <;> first | exact trivial | simpa [ROut.ok, Sem.run_bind, hg] using hr
  split
  ·exact pass _ (bShift_ok ..)
  ·exact pass _ (bShift_ok ..)
  ·rename_i h1 h2
   split
   ·rename_i hk; subst hk; exact pass _ (bInt_ok wr op k n m t (fun e => h1 e) (fun e => h2 e))
   ·exact trivial
 ·rename_i l m
  simp only [AV.R, IV.R] at hx hy
  subst hx hy
  have hg : (eqGuard op t px py (.string ⟨l.toArray⟩) (.string ⟨m.toArray⟩)).run P w = .ok () w := by cases op <;> simp [eqGuard]
  have hr := bStr_ok (ρ := ρ) (ι := ι) (P := P) (w := w) op l m t
  generalize bStr op l m = r at hr ⊢
  cases r <;> first | exact trivial | simpa [ROut.ok, Sem.run_bind, hg] using hr
 ·rename_i p q
  simp only [AV.R, IV.R] at hx hy
  subst hx hy
  split
  ·rename_i d hd
   split
   ·rename_i hk
    have hu := td_bool hT hd hk
    exact fun _ => ⟨_, (run_seq _ _ (by simp [eqGuard])).trans (eql_bin t _ _ _ (by rw [equal_in, eqIn_bool _ hu, beq_dec]) rfl), R_v _⟩
   ·rename_i hk
    have hu := td_bool hT hd hk
    refine fun _ => ⟨_, (run_seq _ _ (by simp [eqGuard])).trans (neq_bin t _ _ _ (by rw [equal_in, eqIn_bool _ hu, beq_dec]) rfl), ?_⟩
    simp [AV.R, IV.R]
   ·exact trivial
  ·exact trivial
 ·split
  ·rename_i xs ys h1 h2
   obtain ⟨as, rfl, ra⟩ := aggCells_spec h1 hx
   obtain ⟨bs, rfl, rb⟩ := aggCells_spec h2 hy
   exact bAgg_ok hT op t ra rb px py
  ·exact bNil_ok hT op t x y hx hy px py
end
end Go.Proofs.YtgfkepebfaiepaaGreatDoor.Ax
