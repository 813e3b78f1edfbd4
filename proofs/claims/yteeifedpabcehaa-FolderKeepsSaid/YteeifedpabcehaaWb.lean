/-
  An abstract machine: operations that write, maps.
-/
import Derived.Test.YteeifedpabcehaaWa
import Derived.Laws.Tables
import Derived.Maps.RangeRun
namespace Go.Proofs.Yteeifedpabcehaa.Bm
open Go.RowKit

section
variable {ρ : Rho} {ι : Imm} {P : Program} {w : World} {T : TT} {H : AH}
theorem ifcA_ok (hT : TOk P T) (t : Nat) (x : AV) {v : Value} (hx : x.R ρ ι v) : (ifcA T t x).ok ρ ι P (Instr.makeInterface t v) w := by
  unfold ifcA
  split
  · rename_i d hd
    obtain ⟨u, i, h1, _, rfl⟩ := td hT hd
    have run : (∀ ms, u ≠ .interface ms) → (Instr.makeInterface t v).run P w = .ok (.iface t v) w := fun hn => by
      cases u <;> first | exact absurd rfl (hn _) | simp [Instr.makeInterface, run_underlying h1]
    split
    · exact trivial
    · rename_i y hk
      refine fun _ => ⟨_, run fun ms e => by subst e; exact hk rfl, ?_⟩
      simp only [AV.R, IV.R] at hx ⊢
      exact ⟨v, rfl, hx⟩
    · rename_i hk hy
      refine fun _ => ⟨_, run fun ms e => by subst e; first | exact hk rfl | exact hy rfl, ?_⟩
      simp only [AV.R]
      exact ⟨v, rfl, hx⟩
  · exact trivial
theorem assertA_ok (hT : TOk P T) (t xt : Nat) (ok : Bool) (x : AV) {v : Value} (hx : x.R ρ ι v) : (assertA T t ok x).ok ρ ι P (Instr.typeAssert v xt t ok) w := by
  unfold assertA
  split
  · rename_i d hd
    obtain ⟨u, i, h1, h2, rfl⟩ := td hT hd
    split
    · exact trivial
    · rename_i hk
      have hn : ∀ ms, u ≠ .interface ms := fun ms e => by subst e; exact hk rfl
      have hz : ∀ z, i.zero = some z → (zeroValue t).run P w = .ok z w := fun z hz => run_zero' hT hd hz w
      have yes : ∀ y, (Instr.typeAssert (.iface t y) xt t ok).run P w = .ok (if ok then .tuple #[y, .bool true] else y) w := fun y => by
        cases u <;> first | exact absurd rfl (hn _) | (simp [Instr.typeAssert, run_underlying h1])
      have no : ∀ (s : Nat) y z, s ≠ t → i.zero = some z → (Instr.typeAssert (.iface s y) xt t true).run P w = .ok (.tuple #[z, .bool false]) w := fun s y z hs hz' => by
        have := hz z hz'
        cases u <;> first | exact absurd rfl (hn _) | (simp [Instr.typeAssert, run_underlying h1, hs, this])
      have nil : ∀ z, i.zero = some z → (Instr.typeAssert .nilIface xt t true).run P w = .ok (.tuple #[z, .bool false]) w := fun z hz' => by
        have := hz z hz'
        cases u <;> first | exact absurd rfl (hn _) | (simp [Instr.typeAssert, run_underlying h1, this])
      have tupR : ∀ z : Value, (AV.tup [.iv (.v z), .bool false]).R ρ ι (.tuple #[z, .bool false]) := fun z => by simp [AV.R, AV.Rs, IV.R]
      split
      · rename_i s y
        simp only [AV.R] at hx
        obtain ⟨u', rfl, hy⟩ := hx
        cases hb : Nat.beq s t with
        | true =>
          have := Nat.eq_of_beq_eq_true hb
          subst this
          cases ok with
          | true => exact fun _ => ⟨_, yes u', by simp [AV.R, AV.Rs, IV.R, hy]⟩
          | false => exact fun _ => ⟨_, yes u', by simpa using hy⟩
        | false =>
          have hs : s ≠ t := fun e => by rw [e] at hb; simp at hb
          cases ok with
          | false => exact trivial
          | true =>
            simp only [cond_false, cond_true]
            split
            · rename_i z hz'
              exact fun _ => ⟨_, no s u' z hs hz', tupR z⟩
            · exact trivial
      · rename_i s y
        simp only [AV.R, IV.R] at hx
        obtain ⟨u', rfl, hy⟩ := hx
        cases hb : Nat.beq s t with
        | true =>
          have := Nat.eq_of_beq_eq_true hb
          subst this
          cases ok with
          | true => exact fun _ => ⟨_, yes u', by simp [AV.R, AV.Rs, IV.R, hy]⟩
          | false => exact fun _ => ⟨_, yes u', by simpa [AV.R] using hy⟩
        | false =>
          have hs : s ≠ t := fun e => by rw [e] at hb; simp at hb
          cases ok with
          | false => exact trivial
          | true =>
            simp only [cond_false, cond_true]
            split
            · rename_i z hz'
              exact fun _ => ⟨_, no s u' z hs hz', tupR z⟩
            · exact trivial
      · simp only [AV.R, IV.R] at hx
        subst hx
        cases ok with
        | false => exact trivial
        | true =>
          simp only [cond_true]
          split
          · rename_i z hz'
            exact fun _ => ⟨_, nil z hz', tupR z⟩
          · exact trivial
      · exact trivial
  · exact trivial
def layV (vs : List Value) (off : Nat) : List Value → List Value
  | [] => vs
  | x :: xs => layV (vs.set off x) (off + 1) xs
theorem fold_layV : ∀ (xs : List Value) (k off : Nat) (vs : List Value), (xs.zipIdx k).foldl (fun cs (p : Value × Nat) => cs.setIfInBounds (off + p.2) p.1) vs.toArray = (layV vs (off + k) xs).toArray
  | [], k, off, vs => rfl
  | x :: xs, k, off, vs => by
    simp only [List.zipIdx_cons, List.foldl_cons, layV]
    have e : vs.toArray.setIfInBounds (off + k) x = (vs.set (off + k) x).toArray := by simp
    rw [e, fold_layV xs (k + 1) off]
    rfl
theorem layA_ok : ∀ (xs : List AV) (us : List Value) (off : Nat) (cs : List AV) (vs : List Value), AV.Rs ρ ι xs us → AV.Rs ρ ι cs vs → AV.Rs ρ ι (layA cs off xs) (layV vs off us)
  | [], us, off, cs, vs, h, h' => by simp only [AV.Rs] at h; subst h; exact h'
  | x :: xs, us, off, cs, vs, h, h' => by
    simp only [AV.Rs] at h
    obtain ⟨u, us, rfl, r, rs⟩ := h
    simp only [layA, layV]
    refine layA_ok xs us (off + 1) _ _ rs ?_
    clear rs
    induction cs generalizing vs off with
    | nil => simp only [AV.Rs] at h'; subst h'; simp [AV.Rs]
    | cons c cs ih =>
      simp only [AV.Rs] at h'
      obtain ⟨v, vs, rfl, r1, rs1⟩ := h'
      cases off with
      | zero => simp only [List.set_cons_zero, AV.Rs]; exact ⟨_, _, rfl, r, rs1⟩
      | succ off => simp only [List.set_cons_succ, AV.Rs]; exact ⟨_, _, rfl, r1, ih off vs rs1⟩
def PartsR (ρ : Rho) (ι : Imm) : List (Nat × AV) → List (Nat × Value) → Prop
  | [], q => q = []
  | p :: ps, q => ∃ u us, q = (p.1, u) :: us ∧ p.2.R ρ ι u ∧ PartsR ρ ι ps us
theorem fillA_ok (place : Nat → Option (Nat × Nat)) : ∀ (ps : List (Nat × AV)) (qs : List (Nat × Value)) (cs cs' : List AV) (vs : List Value), PartsR ρ ι ps qs → AV.Rs ρ ι cs vs → fillA place cs ps = some cs' →
    ∃ vs', Instr.fill place vs.toArray qs = some vs'.toArray ∧ AV.Rs ρ ι cs' vs'
  | [], qs, cs, cs', vs, hp, hr, hf => by
    simp only [PartsR] at hp
    subst hp
    simp only [fillA, Option.some.injEq] at hf
    subst hf
    exact ⟨vs, rfl, hr⟩
  | p :: ps, qs, cs, cs', vs, hp, hr, hf => by
    obtain ⟨u, us, rfl, r, rs⟩ := hp
    unfold fillA at hf
    split at hf
    · rename_i off size xs hpl hxs
      obtain ⟨ys, e, hy⟩ := cells_spec r hxs
      cases hb : (Nat.beq xs.length size && Nat.ble (off + xs.length) cs.length) with
      | false => rw [hb] at hf; cases hf
      | true =>
        rw [hb] at hf
        rw [Bool.and_eq_true] at hb
        have h1 := Nat.eq_of_beq_eq_true hb.1
        have h2 := Nat.le_of_ble_eq_true hb.2
        have l1 := Rs_lenA _ _ hy
        have l2 := Rs_lenA _ _ hr
        simp only [cond_true] at hf
        obtain ⟨vs', g1, g2⟩ := fillA_ok place ps us _ _ (layV vs off ys) rs (layA_ok xs ys off cs vs hy hr) hf
        refine ⟨vs', ?_, g2⟩
        unfold Instr.fill
        simp only [hpl]
        have hc : ¬ ((u.cells.size ≠ size || off + u.cells.size > vs.toArray.size) = true) := by
          rw [e]
          simp
          omega
        rw [if_neg hc, e]
        have := fold_layV ys 0 off vs
        rw [Nat.add_zero] at this
        rw [← g1, ← this]
        congr 1
        simp
    · cases hf
theorem placesA_spec (hT : TOk P T) : ∀ (l : List Field) (pl : List (Nat × Nat)), placesA T (l.map fun f => (f.offset, f.type)) = some pl → l.mapM (fun f => (P.info? f.type).map fun i => (f.offset, i.size)) = some pl
  | [], pl, h => by simp only [List.map_nil, placesA, Option.some.injEq] at h; subst h; rfl
  | f :: l, pl, h => by
    simp only [List.map_cons, placesA] at h
    split at h
    · rename_i d r hd hr
      simp only [Option.some.injEq] at h
      subst h
      obtain ⟨i, h1, h2, _⟩ := td_info hT hd
      simp [List.mapM_cons, h1, placesA_spec hT l r hr, h2]
    · cases h
theorem buildA_ok (hT : TOk P T) (t : Nat) (ps : List (Nat × AV)) (qs : Array (Nat × Value)) (hp : PartsR ρ ι ps qs.toList) : (buildA T t ps).ok ρ ι P (Instr.build t qs) w := by
  unfold buildA
  split
  · rename_i d hd
    split
    · rename_i fs z hk hz
      split
      · rename_i pl hpl
        split
        · rename_i cs hcs
          obtain ⟨u, i, h1, h2, rfl⟩ := td hT hd
          obtain ⟨arr, rfl, rfl⟩ := TK.of_st hk
          unfold zeroA at hz
          split at hz
          · rename_i zv hzv
            injection hz with hz
            subst hz
            have hzr : AV.Rs ρ ι (zv.cells.toList.map fun x => AV.iv (.v x)) zv.cells.toList := by
              generalize zv.cells.toList = l
              induction l with
              | nil => simp [AV.Rs]
              | cons y ys ih => simp only [List.map_cons, AV.Rs, AV.R, IV.R]; exact ⟨_, _, rfl, rfl, ih⟩
            obtain ⟨vs, g1, g2⟩ := fillA_ok _ _ _ _ _ _ hp hzr hcs
            refine fun _ => ⟨_, run_build w t qs vs.toArray ?_, by simp only [AV.R]; exact ⟨vs, rfl, g2⟩⟩
            unfold Program.built
            simp only [h2, h1]
            have hzv' : i.zero = some zv := hzv
            simp only [hzv', placesA_spec hT _ _ hpl]
            simpa using g1
          · cases hz
        · exact trivial
      · exact trivial
    · exact trivial
  · exact trivial
end
end Go.Proofs.Yteeifedpabcehaa.Bm

namespace Go.Proofs.Yteeifedpabcehaa.Bm
open Go.RowKit

section
variable {ρ : Rho} {ι : Imm} {P : Program} {w : World} {T : TT} {H : AH}
theorem opd_ok {N : Nat} {e : Env} {a : Act} (hE : ER ρ ι N e a) (x : Operand) : (opd e x).R ρ ι (a.eval x) := by
  cases x with
  | tmp t => exact hE.slot t
  | const v => cases v <;> simp [opd, AV.R, IV.R, Act.eval]
  | global g =>
    simp only [opd]
    split
    · rename_i cs h
      have := hE.glob _ (gfind_mem h)
      simpa only [AV.R, Act.eval] using this
    · simp [AV.R, IV.R, Act.eval]
  | func f => simp [opd, AV.R, IV.R, Act.eval]
theorem PartsR_map {g : Operand → AV} {ev : Operand → Value} (hg : ∀ x, (g x).R ρ ι (ev x)) : ∀ l : List (Nat × Operand), PartsR ρ ι (l.map fun p => (p.1, g p.2)) (l.map fun p => (p.1, ev p.2))
  | [] => rfl
  | _ :: l => ⟨_, _, rfl, hg _, PartsR_map hg l⟩
/-- The operation, as what it yields. -/
def yields (P : Program) (w : World) (s : Sem Next) (r : ROut) (ρ : Rho) (ι : Imm) : Prop :=
  ∀ K : AV → Prop, r.K K → ∃ u x, s.run P w = .ok (.value u) w ∧ x.R ρ ι u ∧ K x
theorem yields_of {s : Sem Next} {t : Sem Value} {r : ROut} (h : r.ok ρ ι P t w) (hs : ∀ u, t.run P w = .ok u w → s.run P w = .ok (.value u) w) : yields P w s r ρ ι := fun _ hk =>
  let ⟨u, x, h1, h2, h3⟩ := ROut.use h hk
  ⟨u, x, hs u h1, h2, h3⟩
theorem yields_no {s : Sem Next} : yields P w s .no ρ ι := fun _ h => h.elim
theorem run_v {t : Sem Value} {u : Value} (h : t.run P w = .ok u w) : (do pure (Next.value (← t)) : Sem Next).run P w = .ok (.value u) w := by
  rw [Sem.run_bind, h]; rfl
def isRef : Value → Bool
  | .pointer (some _) => true
  | .func (.func _) _ _ => true
  | _ => false
theorem isRef_run {v : Value} {ev : Operand → Value} {o : Oper} {y : Operand} (h : isRef v = true) (ho : o.op = .nilCheck y) (hv : ev y = v) : (execOp ev o).run P w = .ok (.value v) w := by
  unfold isRef at h
  unfold execOp
  simp only [ho, hv]
  split at h
  · rfl
  · rfl
  · cases h
theorem nilA_ok (x : AV) {v : Value} (hx : x.R ρ ι v) (o : Oper) (y : Operand) (ev : Operand → Value) (ho : o.op = .nilCheck y) (hv : ev y = v) : yields P w (execOp ev o) (nilA x) ρ ι := by
  unfold nilA
  have fin : ∀ x : AV, x.R ρ ι v → isRef v = true → yields P w (execOp ev o) (.one [] x) ρ ι := fun x hx hm K hk => ⟨v, x, isRef_run hm ho hv, hx, hk⟩
  split
  · refine fin _ hx ?_
    simp only [AV.R] at hx
    obtain ⟨_, _, _, _, rfl⟩ := hx
    rfl
  · refine fin _ hx ?_
    simp only [AV.R] at hx
    obtain ⟨_, _, _, _, rfl⟩ := hx
    rfl
  · refine fin _ hx ?_
    simp only [AV.R, IV.R] at hx
    obtain ⟨_, _, rfl, _⟩ := hx
    rfl
  · refine fin _ hx ?_
    simp only [AV.R] at hx
    obtain ⟨_, _, rfl, _⟩ := hx
    rfl
  · refine fin _ hx ?_
    simp only [AV.R] at hx
    obtain ⟨_, _, rfl, _⟩ := hx
    rfl
  · refine fin _ hx ?_
    simp only [AV.R, IV.R] at hx
    obtain ⟨_, _, rfl, _⟩ := hx
    rfl
  · refine fin _ hx ?_
    simp only [AV.R, IV.R] at hx
    subst hx
    rfl
  · refine fin _ hx ?_
    simp only [AV.R, IV.R] at hx
    subst hx
    rfl
  · exact yields_no
theorem oneOf_K {o : Option AV} {K : AV → Prop} (h : (oneOf o).K K) : ∃ x, o = some x ∧ K x := by
  unfold oneOf at h
  split at h
  · exact ⟨_, rfl, h⟩
  · exact h.elim
/-- **The operations that only read do what they come to.** -/
theorem rop_sound (hT : TOk P T) (wr : Bool) (hS : SR ρ ι H w) {g : Operand → AV} {ev : Operand → Value} (hg : ∀ x, (g x).R ρ ι (ev x)) (o : Oper) :
    yields P w (execOp ev o) (rop T wr g H o.op) ρ ι := by
  obtain ⟨dst, op, type, pos, after, guard⟩ := o
  cases op <;> simp only [rop] <;> try exact yields_no
  case move x => exact fun K hk => ⟨_, _, rfl, hg x, hk⟩
  case assign x => exact fun K hk => ⟨_, _, rfl, hg x, hk⟩
  case build t ps =>
    refine yields_of (buildA_ok hT t _ (ps.map fun p => (p.1, ev p.2)) ?_) (fun u h => run_v h)
    have := PartsR_map (ρ := ρ) (ι := ι) hg ps.toList
    simpa using this
  case load t a => exact yields_of (loadA_ok hT hS t _ (hg a)) (fun u h => run_v h)
  case nilCheck x => exact nilA_ok _ (hg x) _ x ev rfl rfl
  case binOp op t x y t2 => exact yields_of (bop_ok hT wr op t _ _ (hg x) (hg y) x y) (fun u h => run_v h)
  case unOp op t x =>
    have hx := hg x
    cases op <;> simp only <;> try exact yields_no
    all_goals split <;> try exact yields_no
    all_goals (rename_i he; rw [he] at hx; simp only [AV.R, IV.R] at hx)
    · exact yields_of (t := Op.unary .neg (ev x)) (arK_ok _ _ _ (by rw [hx]; simp [Op.unary, Op.intArith])) (fun u h => run_v h)
    · refine yields_of (t := Op.unary .xor (ev x)) (fun _ => ⟨_, ?_, R_v _⟩) (fun u h => run_v h)
      rw [hx]
      simp [Op.unary, Op.intBits, bitK]
    · refine yields_of (t := Op.unary .not (ev x)) (fun _ => ⟨_, ?_, R_v _⟩) (fun u h => run_v h)
      rw [hx]
      simp [Op.unary]
    · obtain ⟨b, hx⟩ := hx
      exact yields_of (t := Op.unary .not (ev x)) (fun _ => ⟨.bool (!b), by rw [hx]; simp [Op.unary], by simp only [AV.R]; exact ⟨_, rfl⟩⟩) (fun u h => run_v h)
  case pick c x y =>
    have hc := hg c
    split
    · rename_i b he
      rw [he] at hc
      simp only [AV.R, IV.R] at hc
      refine yields_of (t := Sem.pure (bif b then ev x else ev y)) (fun _ => ⟨_, rfl, ?_⟩) (fun u h => ?_)
      · cases b
        · exact hg y
        · exact hg x
      · simp only [execOp, hc]
        cases b
        · injection h with h1; subst h1; rfl
        · injection h with h1; subst h1; rfl
    · exact yields_no
  case convert s d x => exact yields_of (cop_ok hT hS wr s d _ (hg x)) (fun u h => run_v h)
  case makeInterface t x => exact yields_of (ifcA_ok hT t _ (hg x)) (fun u h => run_v h)
  case makeFunc fn a c =>
    refine yields_of (t := Instr.makeFunc fn (a.map ev) (c.map ev)) (fun _ => ⟨_, rfl, ?_⟩) (fun u h => run_v h)
    have ra := Rs_mapA g ev hg a.toList
    have rc := Rs_mapA g ev hg c.toList
    unfold fncA
    split
    · rename_i a' c' h1 h2
      simp only [AV.R, IV.R]
      exact ⟨a.toList.map ev, c.toList.map ev, by simp [← Array.toList_map], toIVs_spec _ _ _ h1 ra, toIVs_spec _ _ _ h2 rc⟩
    · simp only [AV.R]
      exact ⟨a.toList.map ev, c.toList.map ev, by simp [← Array.toList_map], ra, rc⟩
  case slice t x lo hi mx =>
    cases hm : (mx.isSome && !hi.isSome) with
    | true => exact yields_no
    | false => exact yields_of (sliceA_ok hT hg t _ lo hi mx (hg x) (fun h => by rw [h] at hm; simpa using hm)) (fun u h => run_v h)
  case fieldAddr t x f => exact yields_of (fieldA_ok hT t f _ (hg x)) (fun u h => run_v h)
  case field t x f =>
    have hx := hg x
    split
    · rename_i off ft cs hf hcs
      have agg : ∀ vs, ev x = .agg vs → yields P w (execOp ev ⟨dst, .field t x f, type, pos, after, guard⟩) (oneOf (partA T ft cs off)) ρ ι := by
        intro vs he K hk
        obtain ⟨y, h1, h2⟩ := oneOf_K hk
        obtain ⟨vs', e, hr⟩ := cells_spec hx hcs
        rw [he] at e
        have e : vs = vs'.toArray := e
        subst e
        obtain ⟨u, h3, h4⟩ := part_run (P := P) (w := w) hT hr h1
        obtain ⟨fs, fld, q1, q2, q3, q4⟩ := fieldOf_spec hT hf
        refine ⟨u, y, ?_, h4, h2⟩
        refine run_v (t := Instr.field t (ev x) f) ?_
        rw [he]
        simp [Instr.field, run_underlying q1, q2, q3, q4, asAgg, h3]
      split
      · rename_i he; rw [he] at hx; simp only [AV.R] at hx; obtain ⟨vs, e, _⟩ := hx; exact agg _ e
      · rename_i he; rw [he] at hx; simp only [AV.R, IV.R] at hx; obtain ⟨vs, e, _⟩ := hx; exact agg _ e
      · rename_i he; rw [he] at hx; simp only [AV.R, IV.R] at hx; exact agg _ hx
      · exact yields_no
    · exact yields_no
  case indexAddr t x i => exact yields_of (indexA_ok hT t _ _ (hg x) (hg i)) (fun u h => run_v h)
  case index t x i => exact yields_of (indexV_ok hT t _ _ (hg x) (hg i)) (fun u h => run_v h)
  case lookup t m k ok => exact yields_of (lookA_ok hT hS t _ _ ok (hg m) (hg k)) (fun u h => run_v h)
  case typeAssert x xt t ok => exact yields_of (assertA_ok hT t xt ok _ (hg x)) (fun u h => run_v h)
  case extract t i =>
    have hx := hg t
    split
    · rename_i l he
      rw [he] at hx
      simp only [AV.R] at hx
      obtain ⟨vs, e, hr⟩ := hx
      intro K hk
      obtain ⟨y, h1, h2⟩ := oneOf_K hk
      obtain ⟨u, h3, h4⟩ := Rs_getA _ _ _ _ hr h1
      refine ⟨u, y, run_v (t := Instr.extract (ev t) i) ?_, h4, h2⟩
      rw [e]
      simp [Instr.extract, h3]
    · exact yields_no
  case call c =>
    obtain ⟨callee, args, argTypes⟩ := c
    cases callee <;> simp only <;> try exact yields_no
    rename_i b
    unfold builtinA
    obtain ⟨args⟩ := args
    obtain ⟨ats⟩ := argTypes
    split
    · rename_i t ts x xs ht hx
      refine yields_of (lenA_ok hT hS t _ (hg x) ts (xs.map ev) type) (fun u h => ?_)
      simp only at *
      subst_vars
      simp [execOp, resolve, invoke, builtin, h]
    · rename_i x y hx
      refine yields_of (minA_ok _ _ (hg x) (hg y) ats.toArray type) (fun u h => ?_)
      simp only at *
      subst_vars
      simp [execOp, resolve, invoke, builtin, h]
    · rename_i x y hx
      refine yields_of (maxA_ok _ _ (hg x) (hg y) ats.toArray type) (fun u h => ?_)
      simp only at *
      subst_vars
      simp [execOp, resolve, invoke, builtin, h]
    · exact yields_no
end
end Go.Proofs.Yteeifedpabcehaa.Bm

namespace Go.Proofs.Yteeifedpabcehaa.Bm
open Go.RowKit

def AH.Sub (H H' : AH) : Prop := ∀ h c, H.get h = some c → H'.get h = some c
theorem AH.Sub.refl (H : AH) : AH.Sub H H := fun _ _ h => h
section
variable {T : TT}
theorem bytes_mono {H H' : AH} (hs : AH.Sub H H') {x : AV} {l : List UInt8} (h : H.bytes x = some l) : H'.bytes x = some l ∧ H'.bytesOk x = H.bytesOk x := by
  unfold AH.bytes at h
  split at h
  · exact ⟨by simpa [AH.bytes] using h, rfl⟩
  · exact ⟨by simpa [AH.bytes] using h, rfl⟩
  · split at h
    · rename_i hg
      have := hs _ _ hg
      exact ⟨by simp only [AH.bytes, this]; exact h, by simp only [AH.bytesOk, this, hg]⟩
    · cases h
  · cases h
theorem rop_mono (wr : Bool) (g : Operand → AV) {H H' : AH} (hs : AH.Sub H H') (op : Op) (hn : rop T wr g H op ≠ .no) : rop T wr g H' op = rop T wr g H op := by
  cases op <;> simp only [rop] at hn ⊢
  case unOp op t x => cases op <;> rfl
  case convert s d x =>
    unfold cop at hn ⊢
    cases hts : T.get s with
    | none => rfl
    | some ts =>
      cases htd : T.get d with
      | none => rfl
      | some td =>
        simp only [hts, htd] at hn ⊢
        obtain ⟨tk, tsz, tby, tz⟩ := td
        simp only at hn ⊢
        cases tk <;> try rfl
        case int k0 =>
          cases g x with
          | iv y => cases y with
            | v z => cases z <;> rfl
            | _ => rfl
          | _ => rfl
        case str =>
          have key : ∀ x : AV, copB T H ts x ≠ .no → copB T H' ts x = copB T H ts x := by
            intro x hx
            unfold copB at hx ⊢
            cases hu : isU8 T ts with
            | false => rfl
            | true =>
              simp only [hu, cond_true] at hx ⊢
              cases hb : H.bytes x with
              | none => simp only [hb] at hx; exact absurd rfl hx
              | some l =>
                obtain ⟨h1, h2⟩ := bytes_mono hs hb
                simp only [h1, h2]
          cases hx : g x with
          | iv y => cases y <;> first | rfl | (rw [hx] at hn; exact key _ hn)
          | _ => rw [hx] at hn; exact key _ hn
  case load t a =>
    unfold loadA at hn ⊢
    have : ptrCells H (g a) ≠ none → ptrCells H' (g a) = ptrCells H (g a) := by
      intro hp
      unfold ptrCells at hp ⊢
      split
      · rename_i h off he
        simp only [he] at hp
        cases hg : H.get h with
        | none => simp only [hg] at hp; exact absurd rfl hp
        | some c => rw [hs _ _ hg]
      · rename_i h sz i fo he
        simp only [he] at hp
        cases hg : H.get h with
        | none => simp only [hg] at hp; exact absurd rfl hp
        | some c => rw [hs _ _ hg]
      · rfl
      · rfl
      · rfl
    cases hp : ptrCells H (g a) with
    | none => rw [hp] at hn; exact absurd rfl hn
    | some p => rw [this (by rw [hp]; simp), hp]
  case lookup t m k ok =>
    unfold lookA at hn ⊢
    cases hx : g m with
    | mp h =>
      cases hg : H.get h with
      | some c => simp only [hs _ _ hg, hg]
      | none =>
        exfalso
        apply hn
        simp only [hx, hg]
        split <;> try rfl
        split <;> try rfl
        split <;> try rfl
        split <;> rfl
    | iv y => cases y with
      | v z => cases z with
        | map r => cases r <;> rfl
        | _ => rfl
      | _ => rfl
    | _ => rfl
  case call c =>
    obtain ⟨callee, args, ats⟩ := c
    cases callee <;> simp only at hn ⊢
    rename_i b
    unfold builtinA at hn ⊢
    split <;> try rfl
    rename_i t ts x xs h1 h2
    simp only [h1, h2] at hn
    unfold lenA at hn ⊢
    cases hd : T.get t with
    | none => rfl
    | some d =>
      simp only [hd] at hn ⊢
      cases hk : d.k <;> try rfl
      all_goals
        cases hx : g x with
        | mp h =>
          first
          | rfl
          | (cases hg : H.get h with
            | some c => simp only [hs _ _ hg, hg]
            | none => simp only [hk, hx, hg] at hn; exact absurd rfl hn)
        | iv y => cases y with
          | v z => cases z with
            | map r => cases r <;> rfl
            | _ => rfl
          | _ => rfl
        | _ => rfl
theorem map_congr' {α β : Type} {f g : α → β} {l : List α} (h : ∀ x ∈ l, f x = g x) : l.map f = l.map g := List.map_congr_left h
theorem optInt_congr {g g' : Operand → AV} {d : Int} {o : Option Operand} (h : ∀ x, o = some x → g x = g' x) : optInt g d o = optInt g' d o := by
  cases o with
  | none => rfl
  | some x => simp only [optInt, h x rfl]
theorem rop_congr (wr : Bool) {g g' : Operand → AV} (H : AH) (op : Op) (h : ∀ x ∈ op.operands, g x = g' x) : rop T wr g H op = rop T wr g' H op := by
  cases op <;> simp only [Op.operands] at h <;> simp only [rop]
  case pick c x y => rw [h c (by simp), h x (by simp), h y (by simp)]
  case build t ps => rw [map_congr' (l := ps.toList) (g := fun p => (p.1, g' p.2)) (fun p hp => by rw [h p.2 (by simp only [List.mem_toArray, List.mem_map]; exact ⟨p, hp, rfl⟩)])]
  case makeFunc fn a c =>
    rw [map_congr' (l := a.toList) (g := g') (fun x hx => h x (by simp at hx; simp [hx])), map_congr' (l := c.toList) (g := g') (fun x hx => h x (by simp at hx; simp [hx]))]
  case slice t x lo hi mx =>
    have h1 : g x = g' x := h x (by simp)
    have hl : ∀ d, optInt g d lo = optInt g' d lo := fun d => optInt_congr fun y hy => h y (by subst hy; simp)
    have hh : ∀ d, optInt g d hi = optInt g' d hi := fun d => optInt_congr fun y hy => h y (by subst hy; simp)
    have hm : ∀ d, optInt g d mx = optInt g' d mx := fun d => optInt_congr fun y hy => h y (by subst hy; simp)
    unfold sliceA
    simp only [h1, hl, hh, hm]
  case unOp op t x => cases op <;> simp only [h x (by simp)]
  case call c =>
    obtain ⟨callee, args, ats⟩ := c
    cases callee <;> simp only
    rename_i b
    have ha : ∀ x ∈ args.toList, g x = g' x := fun x hx => h x (by simp [Call.operands]; simpa using hx)
    generalize args.toList = al at ha ⊢
    unfold builtinA
    split
    · rw [ha _ (by simp)]
    · rw [ha _ (by simp), ha _ (by simp)]
    · rw [ha _ (by simp), ha _ (by simp)]
    · rename_i h1 h2 h3
      rfl
  all_goals first | rfl | (simp only [h _ (by simp)]; done) | (rw [h _ (by simp), h _ (by simp)]; done) | (rw [h _ (by simp)]; done)
end
end Go.Proofs.Yteeifedpabcehaa.Bm

namespace Go.Proofs.Yteeifedpabcehaa.Bm
open Go.RowKit

def toBytes : List AV → Option (List Cnd × List UInt8)
  | [] => some ([], [])
  | .iv (.v (.int .u8 n)) :: xs => match toBytes xs with
    | some (cs, l) => some (.le 0 n :: .le n 255 :: cs, UInt8.ofNat n.toNat :: l)
    | none => none
  | _ => none
def isByte (d : TD) : Bool := match d.k with | .int .u8 => true | _ => false
def repA (z : List AV) : Nat → List AV
  | 0 => []
  | n + 1 => z ++ repA z n
/-- A new row of elements whose cells are given. -/
def rowOf (e : Nat) (de : TD) (len : Nat) (flat : List AV) : Option (List Cnd × Chunk) :=
  bif isByte de then (toBytes flat).map fun p => (p.1, .brow e p.2) else
  bif !(flat.all AV.one) then none else
  (toIVs flat).map fun l => ([], .rowc e de.size len (bif Nat.beq len 1 then fun _ => l else fun i => (l.drop (i * de.size)).take de.size))
def xop (T : TT) (g : Operand → AV) : Op → Option (List Cnd × Chunk × (Nat → AV))
  | .alloc e => match T.get e with
    | some d => (zeroA d).map fun cs => ([], .cells e cs, fun h => .ptr h 0)
    | none => none
  | .box e x => (g x).cells.map fun cs => ([], .cells e cs, fun h => .ptr h 0)
  | .buildSlice t len ps => match elemOfT T t with
    | some (e, de) => match zeroA de with
      | some z => match fillA (fun i => some (i * de.size, de.size)) (repA z len) (ps.toList.map fun p => (p.1, g p.2)) with
        | some flat => bif Nat.beq z.length de.size && !(Nat.beq de.size 0) && Nat.ble (len * de.size) 1000 then (rowOf e de len flat).map fun p => (p.1, p.2, fun h => .row h de.size 0 len) else none
        | none => none
      | none => none
    | none => none
  | .makeMap t none => match T.get t with
    | some d => match d.k with
      | .mp kt _ => match (T.get kt).bind (·.k.key) with
        | some kk => some ([], .map kk [], fun h => .mp h)
        | none => none
      | _ => none
    | none => none
  | .makeSlice t l c => match elemOfT T t, g l, g c with
    | some (e, de), .iv (.v (.int .i64 n)), .iv (.v (.int .i64 m)) => match zeroA de with
      | some z => bif Nat.beq z.length de.size && !(Nat.beq de.size 0) then
          bif isByte de then some ([.le 0 n, .le n m, .le m 140737488355328], .brow e (List.replicate n.toNat 0), fun h => .row h 1 0 n.toNat)
          else bif !(z.all AV.one) then none else (toIVs z).map fun zi => ([.le 0 n, .le n m, .le (m * de.bytes) 140737488355328, .le m 140737488355328], .rowc e de.size n.toNat (fun _ => zi), fun h => .row h de.size 0 n.toNat)
        else none
      | none => none
    | _, _, _ => none
  | .convert s d x => match T.get s, elemOfT T d, g x with
    | some ts, some (e, de), .iv (.str l) => match ts.k, de.k with
      | .str, .int .u8 => some ([.nle l.length 140737488355328], .brow e l, fun h => .row h 1 0 l.length)
      | _, _ => none
    | _, _, _ => none
  | _ => none

section
variable {ρ : Rho} {ι : Imm} {P : Program} {w : World} {T : TT} {H : AH}
def one1 (b : Nat) (n : Nat) : HV := ⟨some b, n, fun k => k = b⟩
theorem touch_alloc (w : World) (o : Obj) : Touch (fun _ => False) w (w.alloc o) := ⟨rfl, rfl, rfl, by simp, fun k hk _ => heap_alloc_old w o hk⟩
/-- A new block: a chunk of it. -/
theorem SR.alloc (hS : SR ρ ι H w) (o : Obj) (n : Nat) (c : Chunk) (hc : c.R (ρ.upd H.next (one1 w.heap.size n)) ι (one1 w.heap.size n) (w.alloc o)) :
    SR (ρ.upd H.next (one1 w.heap.size n)) ι (H.add c) (w.alloc o) ∧ Went ρ ι H w (ρ.upd H.next (one1 w.heap.size n)) ι (H.add c) (w.alloc o) :=
  hS.add c (one1 w.heap.size n) (touch_alloc w o) (fun k hk => by have : k = w.heap.size := hk; subst this; exact ⟨Nat.le_refl _, by simp⟩) hc
theorem SR.alloc_cells (hS : SR ρ ι H w) (e : TypeId) (cs : List AV) (vs : List Value) (hr : AV.Rs ρ ι cs vs) :
    SR (ρ.upd H.next (one1 w.heap.size vs.length)) ι (H.add (.cells e cs)) (w.alloc (.cells vs.toArray e)) ∧ Went ρ ι H w (ρ.upd H.next (one1 w.heap.size vs.length)) ι (H.add (.cells e cs)) (w.alloc (.cells vs.toArray e)) :=
  hS.alloc _ _ _ ⟨w.heap.size, vs, rfl, fun _ => Iff.rfl, heap_alloc_new w _, AV.Rs_mono (Rho.le_upd _ (hS.fresh _ (Nat.le_refl _))) (Imm.le.refl _) _ _ hr⟩
theorem upd_ptr (n : Nat) : (AV.ptr H.next 0).R (ρ.upd H.next (one1 w.heap.size n)) ι (.pointer (some ⟨w.heap.size, 0, none⟩)) := by
  simp only [AV.R]
  exact ⟨_, _, Rho.upd_same _ _ _, rfl, rfl⟩
def TBytes (T : TT) : Prop := ∀ t d, T.get t = some d → isByte d = true → d.size = 1 ∧ d.bytes = 1 ∧ d.zero = some (.int .u8 0)
/-- The row that a chunk is. -/
def rowLen (c : Chunk) (f : Nat → AV) : Prop := match c with
  | .brow _ l => f = fun h => .row h 1 0 l.length
  | .rowc _ sz n _ => f = fun h => .row h sz 0 n
  | _ => True
def XOk (P : Program) (w : World) (s : Sem Next) (ρ : Rho) (ι : Imm) (H : AH) (c : Chunk) (f : Nat → AV) : Prop :=
  ∃ v w' ρ', s.run P w = .ok (.value v) w' ∧ SR ρ' ι (H.add c) w' ∧ Went ρ ι H w ρ' ι (H.add c) w' ∧ (f H.next).R ρ' ι v ∧ Touch (fun _ => False) w w' ∧ rowLen c f ∧ ∃ hu, ρ' = ρ.upd H.next hu
theorem toIVs_len : ∀ (l : List AV) (r : List IV), toIVs l = some r → r.length = l.length
  | [], r, h => by simp only [toIVs, Option.some.injEq] at h; subst h; rfl
  | x :: xs, r, h => by
    unfold toIVs at h
    split at h
    · rename_i y ys hy hys
      simp only [Option.some.injEq] at h
      subst h
      simp [toIVs_len xs ys hys]
    · cases h
theorem toBytes_len : ∀ (l : List AV) (cs : List Cnd) (r : List UInt8), toBytes l = some (cs, r) → r.length = l.length
  | [], cs, r, h => by simp only [toBytes, Option.some.injEq, Prod.mk.injEq] at h; obtain ⟨rfl, rfl⟩ := h; rfl
  | x :: xs, cs, r, h => by
    unfold toBytes at h
    split at h
    · rename_i he; cases he
    · rename_i n ys he
      simp only [List.cons.injEq] at he
      obtain ⟨rfl, rfl⟩ := he
      split at h
      · rename_i cs' l' hl
        simp only [Option.some.injEq, Prod.mk.injEq] at h
        obtain ⟨rfl, rfl⟩ := h
        simp [toBytes_len xs cs' l' hl]
      · cases h
    · cases h
theorem ofNat_toNat {n : Int} (h0 : 0 ≤ n) (h1 : n ≤ 255) : ((UInt8.ofNat n.toNat).toNat : Int) = n := by
  rw [UInt8.toNat_ofNat']; omega
theorem toBytes_spec : ∀ (l : List AV) (cs : List Cnd) (r : List UInt8) (vs : List Value), toBytes l = some (cs, r) → ands cs True → AV.Rs ρ ι l vs → vs = r.map fun c => .int .u8 (c.toNat : Int)
  | [], cs, r, vs, h, hc, hr => by simp only [toBytes, Option.some.injEq, Prod.mk.injEq] at h; obtain ⟨rfl, rfl⟩ := h; simpa [AV.Rs] using hr
  | x :: xs, cs, r, vs, h, hc, hr => by
    unfold toBytes at h
    split at h
    · rename_i he; cases he
    · rename_i n ys he
      simp only [List.cons.injEq] at he
      obtain ⟨rfl, rfl⟩ := he
      split at h
      · rename_i cs' l' hl
        simp only [Option.some.injEq, Prod.mk.injEq] at h
        obtain ⟨rfl, rfl⟩ := h
        obtain ⟨c0, c1, c2⟩ := hc
        simp only [AV.Rs, AV.R, IV.R] at hr
        obtain ⟨u, us, rfl, rfl, r2⟩ := hr
        have := toBytes_spec xs cs' l' us hl c2 r2
        rw [this, List.map_cons, ofNat_toNat c0 c1]
      · cases h
    · cases h
theorem Rs_take (cs : List IV) (n : Nat) (vs : List Value) (h : IV.Rs ι cs vs) : IV.Rs ι (cs.take n) (vs.take n) := by
  have := Rs_takeA (ρ := fun _ => none) (ι := ι) (cs.map AV.iv) n vs ((Rs_iv _ _).2 h)
  rw [← List.map_take] at this
  exact (Rs_iv _ _).1 this
theorem AV.one_ok {x : AV} {v : Value} (h : x.one = true) (hx : x.R ρ ι v) : v.oneCell' = true := by
  cases x with
  | iv y =>
    cases y with
    | v z => simp only [AV.R, IV.R] at hx; subst hx; exact h
    | agg l => cases h
    | str l => simp only [AV.R, IV.R] at hx; subst hx; rfl
    | bs l => simp only [AV.R, IV.R] at hx; obtain ⟨_, _, rfl, _⟩ := hx; rfl
    | sl sz n f => simp only [AV.R, IV.R] at hx; obtain ⟨_, _, rfl, _⟩ := hx; rfl
    | pp cs => simp only [AV.R, IV.R] at hx; obtain ⟨_, _, rfl, _⟩ := hx; rfl
    | ifc t x => simp only [AV.R, IV.R] at hx; obtain ⟨_, rfl, _⟩ := hx; rfl
    | fnc a b c => simp only [AV.R, IV.R] at hx; obtain ⟨_, _, rfl, _⟩ := hx; rfl
  | ptr h o => simp only [AV.R] at hx; obtain ⟨_, _, _, _, rfl⟩ := hx; rfl
  | el h sz i fo => simp only [AV.R] at hx; obtain ⟨_, _, _, _, rfl⟩ := hx; rfl
  | row h sz off len => simp only [AV.R] at hx; obtain ⟨_, _, rfl, _⟩ := hx; rfl
  | mp h => simp only [AV.R] at hx; obtain ⟨_, _, _, _, rfl⟩ := hx; rfl
  | ifc t x => simp only [AV.R] at hx; obtain ⟨_, rfl, _⟩ := hx; rfl
  | fnc a b c => simp only [AV.R] at hx; obtain ⟨_, _, rfl, _⟩ := hx; rfl
  | pp cs => simp only [AV.R] at hx; obtain ⟨_, _, rfl, _⟩ := hx; rfl
  | sl sz n f => simp only [AV.R] at hx; obtain ⟨_, _, rfl, _⟩ := hx; rfl
  | agg l => cases h
  | tup l => cases h
  | junk => cases h
  | anyb => simp only [AV.R] at hx; obtain ⟨_, rfl⟩ := hx; rfl
theorem all_one {xs : List AV} {vs : List Value} (h : xs.all AV.one = true) (hr : AV.Rs ρ ι xs vs) : ∀ v ∈ vs, v.oneCell' = true := by
  induction xs generalizing vs with
  | nil => simp only [AV.Rs] at hr; subst hr; intro v hv; cases hv
  | cons x xs ih =>
    simp only [AV.Rs] at hr
    obtain ⟨u, us, rfl, r, rs⟩ := hr
    simp only [List.all_cons, Bool.and_eq_true] at h
    intro v hv
    rcases List.mem_cons.1 hv with rfl | hv
    · exact AV.one_ok h.1 r
    · exact ih h.2 rs v hv
/-- Cells in memory are a row, as 'rowOf' says. -/
theorem rowOf_ok (e : Nat) (de : TD) (len : Nat) (flat : List AV) (vs : List Value) {cs : List Cnd} {c : Chunk} (h : rowOf e de len flat = some (cs, c)) (hc : ands cs True) (hr : AV.Rs ρ ι flat vs) (hl : vs.length = len * de.size) (_ : isByte de = true → de.size = 1)
    (hv : HV) (b : Nat) (h1 : hv.blk = some b) (h2 : ∀ k, hv.foot k ↔ k = b) (w : World) (rest : List Value) (h3 : w.heap[b]? = some (.cells (vs ++ rest).toArray e (0, 0))) (h4 : hv.room = vs.length + rest.length) : c.R ρ ι hv w := by
  unfold rowOf at h
  cases hby : isByte de with
  | true =>
    rw [hby] at h
    simp only [cond_true] at h
    obtain ⟨⟨cs', l⟩, hp, hq⟩ := Option.map_eq_some_iff.1 h
    simp only [Prod.mk.injEq] at hq
    obtain ⟨rfl, rfl⟩ := hq
    have hvs := toBytes_spec flat cs' l vs hp hc hr
    refine .inr ⟨b, _, (0, 0), h1, h2, h3, by simp [h4], FrOk.zero _, by simp [hvs], fun i hi => ?_⟩
    subst hvs
    simp only [List.getElem?_toArray]
    rw [List.getElem?_append_left (by simpa using hi), List.getElem?_map, List.getElem?_eq_getElem hi]
    simp [List.getD, hi]
  | false =>
    rw [hby] at h
    simp only [cond_false] at h
    cases hone : flat.all AV.one with
    | false => rw [hone] at h; cases h
    | true =>
    rw [hone] at h
    simp only [Bool.not_true, cond_false] at h
    have h1c := all_one hone hr
    obtain ⟨l, hp, hq⟩ := Option.map_eq_some_iff.1 h
    simp only [Prod.mk.injEq] at hq
    obtain ⟨rfl, rfl⟩ := hq
    have hiv := toIVs_spec flat l vs hp hr
    refine .inr ⟨b, _, (0, 0), h1, h2, h3, by simp [h4], FrOk.zero _, by simp [hl], fun i hi => ?_⟩
    have hfit : i * de.size + de.size ≤ len * de.size := by
      rw [← Nat.succ_mul]
      exact Nat.mul_le_mul_right _ hi
    refine ⟨(vs.drop (i * de.size)).take de.size, ?_, ?_, fun v hv => h1c v (List.mem_of_mem_drop (List.mem_of_mem_take hv)), fun j u hu => ?_⟩
    · cases hq1 : Nat.beq len 1 with
      | true =>
        have := Nat.eq_of_beq_eq_true hq1
        subst this
        have : i = 0 := by omega
        subst this
        simp only [cond_true, Nat.zero_mul, List.drop_zero]
        have hlen : vs.take de.size = vs := List.take_of_length_le (by omega)
        rw [hlen]
        exact hiv
      | false =>
        simp only [cond_false]
        exact Rs_take _ _ _ (Rs_drop _ _ _ hiv)
    · rw [List.length_take, List.length_drop]; omega
    · rw [List.getElem?_take] at hu
      split at hu
      · rename_i hj
        rw [List.getElem?_drop] at hu
        have : i * de.size + j < vs.length := by omega
        simp [List.getElem?_append_left this, hu]
      · cases hu
theorem zeroA_spec {d : TD} {cs : List AV} (h : zeroA d = some cs) : ∃ z, d.zero = some z ∧ cs = z.cells.toList.map fun x => AV.iv (.v x) := by
  unfold zeroA at h
  split at h
  · rename_i z hz
    injection h with h
    exact ⟨z, hz, h.symm⟩
  · cases h
theorem Rs_vals (l : List Value) : AV.Rs ρ ι (l.map fun x => AV.iv (.v x)) l := by
  induction l with
  | nil => simp [AV.Rs]
  | cons y ys ih => simp only [List.map_cons, AV.Rs, AV.R, IV.R]; exact ⟨_, _, rfl, rfl, ih⟩
theorem Rs_append {a b : List AV} {vs us : List Value} (h : AV.Rs ρ ι a vs) (h' : AV.Rs ρ ι b us) : AV.Rs ρ ι (a ++ b) (vs ++ us) := by
  induction a generalizing vs with
  | nil => simp only [AV.Rs] at h; subst h; exact h'
  | cons x xs ih =>
    simp only [AV.Rs] at h
    obtain ⟨u, us', rfl, r, rs⟩ := h
    simp only [List.cons_append, AV.Rs]
    exact ⟨_, _, rfl, r, ih rs⟩
def repV (z : List Value) : Nat → List Value
  | 0 => []
  | n + 1 => z ++ repV z n
theorem repA_ok {z : List AV} {zs : List Value} (h : AV.Rs ρ ι z zs) : ∀ n, AV.Rs ρ ι (repA z n) (repV zs n)
  | 0 => by simp [repA, repV, AV.Rs]
  | n + 1 => Rs_append h (repA_ok h n)
theorem repV_len (z : List Value) : ∀ n, (repV z n).length = n * z.length
  | 0 => by simp [repV]
  | n + 1 => by simp only [repV, List.length_append, repV_len z n, Nat.succ_mul]; omega
theorem repV_get (z : List Value) (hz : 0 < z.length) : ∀ (n i : Nat), i < n * z.length → (repV z n)[i]? = z[i % z.length]?
  | 0, i, h => by simp at h
  | n + 1, i, h => by
    simp only [repV]
    by_cases hi : i < z.length
    · rw [List.getElem?_append_left hi, Nat.mod_eq_of_lt hi]
    · have h2 : i - z.length < n * z.length := by rw [Nat.add_mul, Nat.one_mul] at h; omega
      rw [List.getElem?_append_right (by omega), repV_get z hz n (i - z.length) h2, ← Nat.mod_eq_sub_mod (by omega)]
theorem zeros_eq (z : Array Value) (n : Nat) (hz : 0 < z.size) : (Array.range (n * z.size)).map (fun i => z[i % z.size]!) = (repV z.toList n).toArray := by
  apply Array.ext'
  apply List.ext_getElem?
  intro i
  simp only [Array.toList_map, Array.toList_range, List.getElem?_map]
  have hz' : 0 < z.toList.length := by simpa using hz
  by_cases hi : i < n * z.size
  · rw [List.getElem?_range hi]
    have := repV_get z.toList hz' n i (by simpa using hi)
    simp only [Array.length_toList] at this
    rw [this]
    have hlt : i % z.size < z.size := Nat.mod_lt _ hz
    simp [hlt, getElem!_pos]
  · rw [List.getElem?_eq_none (by simpa using hi), List.getElem?_eq_none (by rw [repV_len]; simpa using hi)]
    rfl
theorem run_newRow (e : TypeId) (cells : Array Value) : (newRow e cells).run P w = .ok ⟨w.heap.size, 0, none⟩ (w.alloc (.cells cells e)) := rfl

theorem fill_cells (ps : List (Nat × AV)) (qs : List (Nat × Value)) (place : Nat → Option (Nat × Nat)) (cs cs' : List AV) (vs : List Value) (hp : PartsR ρ ι ps qs) (hr : AV.Rs ρ ι cs vs) (hf : fillA place cs ps = some cs') :
    ∃ vs', Instr.fill place vs.toArray qs = some vs'.toArray ∧ AV.Rs ρ ι cs' vs' := fillA_ok place ps qs cs cs' vs hp hr hf
theorem layA_len : ∀ (xs : List AV) (cs : List AV) (off : Nat), (layA cs off xs).length = cs.length
  | [], cs, off => rfl
  | x :: xs, cs, off => by simp only [layA]; rw [layA_len xs]; simp
theorem fillA_len (place : Nat → Option (Nat × Nat)) : ∀ (ps : List (Nat × AV)) (cs cs' : List AV), fillA place cs ps = some cs' → cs'.length = cs.length
  | [], cs, cs', h => by simp only [fillA, Option.some.injEq] at h; rw [h]
  | p :: ps, cs, cs', h => by
    unfold fillA at h
    split at h
    · rename_i off size xs _ _
      cases hb : (Nat.beq xs.length size && Nat.ble (off + xs.length) cs.length) with
      | false => rw [hb] at h; cases h
      | true =>
        rw [hb] at h
        simp only [cond_true] at h
        rw [fillA_len place ps _ _ h, layA_len]
    · cases h
theorem repA_len (z : List AV) : ∀ n, (repA z n).length = n * z.length
  | 0 => by simp [repA]
  | n + 1 => by simp only [repA, List.length_append, repA_len z n, Nat.succ_mul]; omega
def bytesCap (w : World) (l : List UInt8) (e : TypeId) : Nat := (Question.appendCap l.length 0 e).cut (w.tape w.drawn (.appendCap l.length 0 e))
/-- '[]byte(s)': a new row. -/
theorem strToBytes (hS : SR ρ ι H w) (e : TypeId) (l : List UInt8) (hl : l.length ≤ maxLen) : ∃ w', (Conv.stringToBytes e ⟨l.toArray⟩).run P w = .ok (.slice (some ⟨w.heap.size, 0, none⟩) l.length (bytesCap w l e)) w' ∧
    SR (ρ.upd H.next (one1 w.heap.size (bytesCap w l e))) ι (H.add (.brow e l)) w' ∧ Went ρ ι H w (ρ.upd H.next (one1 w.heap.size (bytesCap w l e))) ι (H.add (.brow e l)) w' ∧
    (AV.row H.next 1 0 l.length).R (ρ.upd H.next (one1 w.heap.size (bytesCap w l e))) ι (.slice (some ⟨w.heap.size, 0, none⟩) l.length (bytesCap w l e)) ∧ Touch (fun _ => False) w w' := by
  have hsz : (⟨l.toArray⟩ : ByteArray).size = l.length := by simp [ByteArray.size]
  have hc1 : l.length ≤ bytesCap w l e := by simp [bytesCap, Question.cut]
  have hc2 : bytesCap w l e ≤ maxLen := by
    have hlt := Nat.mod_lt (w.tape w.drawn (.appendCap l.length 0 e)) (show 0 < 2 ^ 63 - l.length by simp only [maxLen] at hl; omega)
    simp only [bytesCap, Question.cut, maxLen] at hl ⊢
    omega
  generalize hcap : bytesCap w l e = c at hc1 hc2 ⊢
  let arr : Array Value := (l.toArray.map fun b => Value.int .u8 (b.toNat : Int)) ++ Array.replicate (c - l.length) (.int .u8 0)
  have has : arr.size = c := by simp [arr]; omega
  let w' : World := { w.drew with heap := w.heap.push (.cells arr e (c, c + 1)) }
  have hlast : w'.heap[w.heap.size]? = some (.cells arr e (c, c + 1)) := by simp [w']
  have ht : Touch (fun _ => False) w w' := ⟨rfl, rfl, rfl, by simp [w'], fun k hk _ => by simp only [w']; rw [Array.getElem?_push, if_neg (by omega)]⟩
  obtain ⟨s1, s2⟩ := hS.add (.brow e l) (one1 w.heap.size c) ht (fun k hk => by have : k = w.heap.size := hk; subst this; exact ⟨Nat.le_refl _, by simp [w']⟩) (.inr ⟨w.heap.size, arr, (c, c + 1), rfl, fun _ => Iff.rfl, hlast, has, ⟨by simp, fun j hj => by simp; omega⟩, by omega, fun i hi => by
    simp only [arr]
    rw [Array.getElem?_append_left (by simpa using hi)]
    simp [hi, List.getD]⟩)
  refine ⟨w', ?_, s1, s2, ?_, ht⟩
  · have hcap' : (Question.appendCap l.length 0 e).cut (w.tape w.drawn (.appendCap l.length 0 e)) = c := hcap
    have hfr : ((w.drew.alloc (.cells arr e)).freeze ⟨w.heap.size, c, none⟩ 1) = w' := by
      have e1 : (w.heap.push (.cells arr e)).modify w.heap.size (fun x => match x with
          | .cells c1 elem (lo, hi) => .cells c1 elem (if lo == hi then (c, c + 1) else (min lo c, max hi (c + 1)))
          | o => o) = w.heap.push (.cells arr e (c, c + 1)) := by
        apply Array.ext_getElem?
        intro i
        rw [Array.getElem?_modify, Array.getElem?_push, Array.getElem?_push]
        by_cases hi : w.heap.size = i
        · subst hi; simp
        · rw [if_neg hi, if_neg (fun e => hi e.symm), if_neg (fun e => hi e.symm)]
      simp only [World.freeze, World.alloc, World.drew, w']
      rw [if_neg (by decide)]
      exact congrArg (fun h => ({ w with heap := h, drawn := w.drawn + 1 } : World)) e1
    simp only [Conv.stringToBytes, hsz, Sem.run_bind, run_choose, Question.forced, Bool.false_eq_true, if_false, Result.andThen_ok, hcap', run_newRow, World.drew_eq, markStringish, run_shape]
    have hsh : (w.drew.alloc (.cells arr e)).shape? w.heap.size = some (e, c) := by
      have h1 : (w.drew.alloc (.cells arr e)).heap[w.heap.size]? = some (.cells arr e) := heap_alloc_new w.drew _
      simp only [World.shape?, h1, has]
    have harr : (Array.map (fun b : UInt8 => Value.int .u8 (b.toNat : Int)) l.toArray ++ Array.replicate (c - l.length) (.int .u8 0)) = arr := rfl
    simp only [harr, World.size_drew, hsh, run_freeze, hfr, Result.andThen_ok, Sem.run_pure]
  · simp only [AV.R]
    exact ⟨_, c, rfl, hc1, hc2, fun _ => ⟨_, _, Rho.upd_same _ _ _, rfl, by simp, by simp [one1]⟩⟩
/-- **The operations that make memory do what they come to.** -/
theorem xop_sound (hT : TOk P T) (hby : TBytes T) (hS : SR ρ ι H w) {g : Operand → AV} {ev : Operand → Value} (hg : ∀ x, (g x).R ρ ι (ev x)) (o : Oper) {cs : List Cnd} {c : Chunk} {f : Nat → AV} (h : xop T g o.op = some (cs, c, f)) (hc : ands cs True) :
    XOk P w (execOp ev o) ρ ι H c f := by
  obtain ⟨dst, op, type, pos, after, guard⟩ := o
  have hfr := hS.fresh H.next (Nat.le_refl _)
  cases op <;> simp only [xop] at h <;> try cases h
  case alloc e =>
    split at h
    · rename_i d hd
      obtain ⟨zs, hz, hq⟩ := Option.map_eq_some_iff.1 h
      simp only [Prod.mk.injEq] at hq
      obtain ⟨rfl, rfl, rfl⟩ := hq
      obtain ⟨z, hz1, rfl⟩ := zeroA_spec hz
      have hzr := run_zero' hT hd hz1 w
      obtain ⟨h1, h2⟩ := hS.alloc_cells e _ _ (Rs_vals z.cells.toList)
      refine ⟨_, _, _, ?_, h1, h2, upd_ptr _, touch_alloc _ _, trivial, _, rfl⟩
      simp [execOp, Instr.alloc, hzr, newVar, newRow]
    · cases h
  case box e x =>
    obtain ⟨zs, hz, hq⟩ := Option.map_eq_some_iff.1 h
    simp only [Prod.mk.injEq] at hq
    obtain ⟨rfl, rfl, rfl⟩ := hq
    obtain ⟨vs, he, hr⟩ := cells_spec (hg x) hz
    obtain ⟨h1, h2⟩ := hS.alloc_cells e _ _ hr
    refine ⟨_, _, _, ?_, h1, h2, upd_ptr _, touch_alloc _ _, trivial, _, rfl⟩
    simp [execOp, Instr.box, newVar, newRow, he]
  case buildSlice t len ps =>
    split at h
    · rename_i e de he
      split at h
      · rename_i z hz
        split at h
        · rename_i flat hf
          cases hb : (Nat.beq z.length de.size && !(Nat.beq de.size 0) && Nat.ble (len * de.size) 1000) with
          | false => rw [hb] at h; cases h
          | true =>
            rw [hb] at h
            simp only [cond_true] at h
            obtain ⟨⟨cs', c'⟩, hp, hq⟩ := Option.map_eq_some_iff.1 h
            simp only [Prod.mk.injEq] at hq
            obtain ⟨rfl, rfl, rfl⟩ := hq
            simp only [Bool.and_eq_true, Bool.not_eq_true'] at hb
            obtain ⟨⟨b1, b2⟩, b3⟩ := hb
            have hzl := Nat.eq_of_beq_eq_true b1
            have hz0 : de.size ≠ 0 := fun e => by rw [e] at b2; simp at b2
            have hsm := Nat.le_of_ble_eq_true b3
            obtain ⟨hu, hde⟩ := elemOfT_spec hT he
            obtain ⟨zv, hz1, rfl⟩ := zeroA_spec hz
            have hzr := run_zero' hT hde hz1 w
            have hsz := run_sizeOf' hT hde w
            have hzc : zv.cells.size = de.size := by simpa using hzl
            have hps := PartsR_map (ρ := ρ) (ι := ι) hg ps.toList
            obtain ⟨vs, g1, g2⟩ := fillA_ok _ _ _ _ _ _ hps (repA_ok (Rs_vals zv.cells.toList) len) hf
            have hvl : vs.length = len * de.size := by
              rw [Rs_lenA _ _ g2, fillA_len _ _ _ _ hf, repA_len]
              simp [hzc]
            have hbyte := hby e de hde
            obtain ⟨s1, s2⟩ := hS.alloc (.cells vs.toArray e) vs.length c' (rowOf_ok e de len flat vs hp hc (AV.Rs_mono (Rho.le_upd _ hfr) (Imm.le.refl _) _ _ g2) hvl (fun hb => (hbyte hb).1) _ w.heap.size rfl (fun _ => Iff.rfl) _ [] (by simpa using heap_alloc_new w _) (by simp [one1]))
            refine ⟨.slice (some ⟨w.heap.size, 0, none⟩) len len, _, _, ?_, s1, s2, ?_, touch_alloc _ _, ?rl, _, rfl⟩
            case rl =>
              have hfl : flat.length = len * de.size := by rw [fillA_len _ _ _ _ hf, repA_len]; simp [hzc]
              unfold rowOf at hp
              cases hby' : isByte de with
              | true =>
                rw [hby'] at hp
                simp only [cond_true] at hp
                obtain ⟨⟨cs', l⟩, hp', hq'⟩ := Option.map_eq_some_iff.1 hp
                simp only [Prod.mk.injEq] at hq'
                obtain ⟨rfl, rfl⟩ := hq'
                have h1 := (hbyte hby').1
                have h2 : l.length = flat.length := toBytes_len _ _ _ hp'
                show (fun h => AV.row h de.size 0 len) = fun h => AV.row h 1 0 l.length
                rw [h1, h2, hfl, h1, Nat.mul_one]
              | false =>
                rw [hby'] at hp
                simp only [cond_false] at hp
                cases hone : flat.all AV.one with
                | false => rw [hone] at hp; cases hp
                | true =>
                  rw [hone] at hp
                  simp only [Bool.not_true, cond_false] at hp
                  obtain ⟨l, hp', hq'⟩ := Option.map_eq_some_iff.1 hp
                  simp only [Prod.mk.injEq] at hq'
                  obtain ⟨rfl, rfl⟩ := hq'
                  rfl
            · have hzz : (Array.range (len * de.size)).map (fun x => zv.cells[x % zv.cells.size]!) = (repV zv.cells.toList len).toArray := by
                rw [← hzc]; exact zeros_eq zv.cells len (by omega)
              have hno : ¬ (16777216 < len * de.size) := by omega
              have g1' : Instr.fill (fun i => some (i * de.size, de.size)) (repV zv.cells.toList len).toArray (ps.toList.map fun p => (p.1, ev p.2)) = some vs.toArray := g1
              by_cases hl0 : len = 0
              · subst hl0
                have g2' : Instr.fill (fun i => some (i * de.size, de.size)) #[] (ps.toList.map fun p => (p.1, ev p.2)) = some vs.toArray := g1'
                have hr0 : (Array.map (fun _ => (default : Value)) (Array.range 0)) = #[] := by simp [Array.range]
                simp [execOp, Instr.buildSlice, run_underlying hu, hsz, newRow, g2', hr0]
              · have hne : ¬ (len * de.size = 0) := by
                  intro h0
                  rcases Nat.mul_eq_zero.1 h0 with h0 | h0
                  · exact hl0 h0
                  · exact hz0 h0
                have hrun : (Instr.buildSlice t len (ps.map fun p => (p.1, ev p.2))).run P w = .ok (.slice (some ⟨w.heap.size, 0, none⟩) len len) (w.alloc (.cells vs.toArray e)) := by
                  have hno' : ¬ (len * de.size > 2 ^ 24) := by simpa using hno
                  simp only [Instr.buildSlice, Sem.run_bind, run_underlying hu, Result.andThen_ok, hsz, if_neg hno', if_neg hne, hzr, Sem.run_pure, Array.toList_map, hzz, g1', run_newRow]
                simp [execOp, hrun]
            · simp only [AV.R]
              refine ⟨_, len, rfl, Nat.le_refl _, ?_, fun _ => ⟨_, _, Rho.upd_same _ _ _, rfl, by simp, by simp [one1, hvl]⟩⟩
              unfold maxLen
              have : len ≤ len * de.size := Nat.le_mul_of_pos_right _ (by omega)
              omega
        · cases h
      · cases h
    · cases h
  case makeMap t r =>
    cases r with
    | some r => cases h
    | none =>
      simp only at h
      split at h
      · rename_i d hd
        split at h
        · rename_i kt et hk
          split at h
          · rename_i kk hkk
            simp only [Option.some.injEq, Prod.mk.injEq] at h
            obtain ⟨rfl, rfl, rfl⟩ := h
            obtain ⟨s1, s2⟩ := hS.alloc (.map #[] 0) 0 (.map kk []) ⟨w.heap.size, #[], 0, rfl, fun _ => Iff.rfl, heap_alloc_new w _, ⟨fun p hp => by simp at hp, ⟨[], List.Perm.refl _, rfl⟩, by simp, by simp, fun e he => by simp at he⟩⟩
            refine ⟨.map (some w.heap.size), _, _, ?_, s1, s2, ?_, touch_alloc _ _, trivial, _, rfl⟩
            · simp [execOp, Instr.makeMap]
            · simp only [AV.R]
              exact ⟨_, _, Rho.upd_same _ _ _, rfl, rfl⟩
          · cases h
        · cases h
      · cases h
  case makeSlice t l c0 =>
    split at h
    · rename_i e de n m he hl hm
      split at h
      · rename_i z hz
        cases hb : (Nat.beq z.length de.size && !(Nat.beq de.size 0)) with
        | false => rw [hb] at h; cases h
        | true =>
          rw [hb] at h
          simp only [cond_true] at h
          simp only [Bool.and_eq_true, Bool.not_eq_true'] at hb
          obtain ⟨b1, b2⟩ := hb
          have hzl := Nat.eq_of_beq_eq_true b1
          have hz0 : de.size ≠ 0 := fun e => by rw [e] at b2; simp at b2
          obtain ⟨hu, hde⟩ := elemOfT_spec hT he
          obtain ⟨zv, hz1, rfl⟩ := zeroA_spec hz
          have hzr := run_zero' hT hde hz1 w
          have hsz := run_sizeOf' hT hde w
          obtain ⟨i, hi1, hi2, hi3, hi4⟩ := td_info hT hde
          have hzc : zv.cells.size = de.size := by simpa using hzl
          have el : ev l = .int .i64 n := by have := hg l; rw [hl] at this; simpa [AV.R, IV.R] using this
          have em : ev c0 = .int .i64 m := by have := hg c0; rw [hm] at this; simpa [AV.R, IV.R] using this
          have run : 0 ≤ n → n ≤ m → m * de.bytes ≤ 140737488355328 → m ≤ 140737488355328 →
              (execOp ev ⟨dst, .makeSlice t l c0, type, pos, after, guard⟩).run P w = .ok (.value (.slice (some ⟨w.heap.size, 0, none⟩) n.toNat m.toNat)) (w.alloc (.cells (repV zv.cells.toList m.toNat).toArray e)) := by
            intro h0 h1 h2 h3
            have e1 : IntKind.i64.wrap n = n := IntWalk.i64_in n (by omega)
            have e2 : IntKind.i64.wrap m = m := IntWalk.i64_in m (by omega)
            have hzz : (Array.range (m.toNat * de.size)).map (fun x => zv.cells[x % zv.cells.size]!) = (repV zv.cells.toList m.toNat).toArray := by
              rw [← hzc]; exact zeros_eq zv.cells m.toNat (by omega)
            have c1 : ¬ (m < 0 ∨ 281474976710656 < (de.bytes : Int) * m) := by
              rw [Int.mul_comm]; omega
            have c2 : ¬ n < 0 := by omega
            have c3 : ¬ m < n := by omega
            have c4 : ¬ m < 0 := by omega
            have c5 : ¬ 281474976710656 < (de.bytes : Int) * m := by rw [Int.mul_comm]; omega
            by_cases hm0 : m = 0
            · subst hm0
              have hn0 : n = 0 := by omega
              subst hn0
              have hr0 : (Array.map (fun _ => (default : Value)) (Array.range 0)) = #[] := by simp [Array.range]
              simp [execOp, el, em, Instr.makeSlice, run_underlying hu, asInt, asIntOf, typeInfo, hi1, e1, sizeOf, newRow, repV, hr0]
            · have hmt : ¬ (m.toNat = 0) := by omega
              have hmt2 : ¬ m ≤ 0 := by omega
              have hne : ¬ (m.toNat * de.size = 0) := fun h0 => by
                rcases Nat.mul_eq_zero.1 h0 with h0 | h0
                · exact hmt h0
                · exact hz0 h0
              have hti : (typeInfo e).run P w = .ok i w := by simp [typeInfo, hi1]
              have hal : (askRoom (m.toNat * de.bytes)).run P w = .ok () w := run_askRoom ..
              have hcond : ((m < 0 || decide ((de.bytes : Int) * m > 2 ^ 48)) || decide (n < 0) || decide (n > m)) = false := by simp [c2, c3, c4, c5]
              have hrun : (Instr.makeSlice t (.int .i64 n) (.int .i64 m)).run P w = .ok (.slice (some ⟨w.heap.size, 0, none⟩) n.toNat m.toNat) (w.alloc (.cells (repV zv.cells.toList m.toNat).toArray e)) := by
                simp only [Instr.makeSlice, Sem.run_bind, run_underlying hu, Result.andThen_ok, asInt, asIntOf, Sem.run_pure, hti, hi3, e1, e2, hcond, Bool.false_eq_true, if_false, hal, hsz, if_neg hne, hzr, hzz, run_newRow]
              simp [execOp, el, em, hrun]
          cases hbt : isByte de with
          | true =>
            rw [hbt] at h
            simp only [cond_true, Option.some.injEq, Prod.mk.injEq] at h
            obtain ⟨rfl, rfl, rfl⟩ := h
            obtain ⟨h0, h1, h2, _⟩ := hc
            obtain ⟨q1, q2, q3⟩ := hby e de hde hbt
            have hzv : zv = .int .u8 0 := by rw [hz1] at q3; injection q3
            subst hzv
            have hrl : (repV (Value.int .u8 0).cells.toList m.toNat).length = m.toNat := by rw [repV_len]; simp [Value.cells]
            obtain ⟨s1, s2⟩ := hS.alloc (.cells (repV (Value.int .u8 0).cells.toList m.toNat).toArray e) m.toNat (.brow e (List.replicate n.toNat 0)) (.inr ⟨w.heap.size, _, (0, 0), rfl, fun _ => Iff.rfl, heap_alloc_new w _, by simpa [one1] using hrl, FrOk.zero _, by simp [hrl]; omega, fun i hi => by
              rw [List.length_replicate] at hi
              rw [List.getElem?_toArray, repV_get _ (by simp [Value.cells]) _ _ (by simp [Value.cells]; omega)]
              simp [Value.cells, List.getD, hi, Nat.mod_one]⟩)
            refine ⟨_, _, _, run h0 h1 (by rw [q2]; omega) h2, s1, s2, ?_, touch_alloc _ _, by simp [rowLen], _, rfl⟩
            simp only [AV.R]
            refine ⟨_, m.toNat, rfl, by omega, by unfold maxLen; omega, fun _ => ⟨_, _, Rho.upd_same _ _ _, rfl, by simp, by simp [one1]⟩⟩
          | false =>
            rw [hbt] at h
            simp only [cond_false] at h
            cases hone : (zv.cells.toList.map fun x => AV.iv (.v x)).all AV.one with
            | false => rw [hone] at h; cases h
            | true =>
            rw [hone] at h
            simp only [Bool.not_true, cond_false] at h
            have h1c := all_one hone (Rs_vals (ρ := ρ) (ι := ι) zv.cells.toList)
            obtain ⟨zi, hzi, hq⟩ := Option.map_eq_some_iff.1 h
            simp only [Prod.mk.injEq] at hq
            obtain ⟨rfl, rfl, rfl⟩ := hq
            obtain ⟨h0, h1, h2, h3, _⟩ := hc
            have hrl : (repV zv.cells.toList m.toNat).length = m.toNat * de.size := by rw [repV_len]; simp [hzc]
            have hiv := toIVs_spec _ _ _ hzi (Rs_vals (ρ := ρ) (ι := ι) zv.cells.toList)
            obtain ⟨s1, s2⟩ := hS.alloc (.cells (repV zv.cells.toList m.toNat).toArray e) (m.toNat * de.size) (.rowc e de.size n.toNat (fun _ => zi)) (.inr ⟨w.heap.size, _, (0, 0), rfl, fun _ => Iff.rfl, heap_alloc_new w _, by simpa [one1] using hrl, FrOk.zero _, by
                have : n.toNat * de.size ≤ m.toNat * de.size := Nat.mul_le_mul_right _ (by omega)
                simpa [hrl] using this, fun i hi => ⟨zv.cells.toList, hiv, by simpa using hzc, h1c, fun j u hu => by
              have hj : j < de.size := by
                rcases Nat.lt_or_ge j zv.cells.toList.length with h' | h'
                · simpa [hzc] using h'
                · rw [List.getElem?_eq_none h'] at hu; cases hu
              have hfit : i * de.size + j < m.toNat * de.size := by
                have : (i + 1) * de.size ≤ m.toNat * de.size := Nat.mul_le_mul_right _ (by omega)
                rw [Nat.add_mul, Nat.one_mul] at this
                omega
              have hzl2 : zv.cells.toList.length = de.size := by simpa using hzc
              rw [List.getElem?_toArray, repV_get _ (by omega) _ _ (by rw [hzl2]; exact hfit), hzl2, Nat.mul_comm, Nat.mul_add_mod, Nat.mod_eq_of_lt hj]
              exact hu⟩⟩)
            refine ⟨_, _, _, run h0 h1 h2 h3, s1, s2, ?_, touch_alloc _ _, rfl, _, rfl⟩
            simp only [AV.R]
            have hle : n.toNat ≤ m.toNat := by omega
            refine ⟨_, m.toNat, rfl, hle, by unfold maxLen; omega, fun _ => ⟨_, _, Rho.upd_same _ _ _, rfl, by simp, by simp [one1]⟩⟩
      · cases h
    · cases h
  case convert s d x =>
    split at h
    · rename_i ts e de l hs he hx
      split at h
      · rename_i hk1 hk2
        simp only [Option.some.injEq, Prod.mk.injEq] at h
        obtain ⟨rfl, rfl, rfl⟩ := h
        obtain ⟨hu, hde⟩ := elemOfT_spec hT he
        have hus := td_str hT hs hk1
        have hue := td_int hT hde hk2
        have ex : ev x = .string ⟨l.toArray⟩ := by have := hg x; rw [hx] at this; simpa [AV.R, IV.R] using this
        have hsz : (⟨l.toArray⟩ : ByteArray).size = l.length := by simp [ByteArray.size]
        obtain ⟨w', s1, s2, s3, s4, s5⟩ := strToBytes (P := P) hS e l (by have := hc.1; unfold maxLen; omega)
        have hsd : ∃ us, P.underlying s = some us := ⟨_, hus⟩
        refine ⟨_, w', _, ?_, s2, s3, s4, s5, rfl, _, rfl⟩
        have hr : (convert s d (.string ⟨l.toArray⟩)).run P w = .ok (.slice (some ⟨w.heap.size, 0, none⟩) l.length (bytesCap w l e)) w' := by
          rw [← s1]
          simp [convert, run_underlying hus, run_underlying hu, run_underlying hue]
        simp [execOp, ex, hr]
      · cases h
    · cases h
/-- New blocks, written no more. -/
theorem SR.addImm {w' : World} (hS : SR ρ ι H w) (ht : Touch (fun _ => False) w w') (b : Nat) (hb : w.heap.size ≤ b) (g : Nat → Option Value) (hg : ∀ o v, g o = some v → w'.cell? ⟨b, o, none⟩ = some v ∧ v.oneCell' = true) :
    Imm.le ι (fun b' o => if b' = b then g o else ι b' o) ∧ SR ρ (fun b' o => if b' = b then g o else ι b' o) H w' ∧ Went ρ ι H w ρ (fun b' o => if b' = b then g o else ι b' o) H w' := by
  have keepB : ∀ k, k < w.heap.size → w'.heap[k]? = w.heap[k]? := fun k hk => ht.block k hk fun f => f.elim
  have hlt : ∀ b' o v, ι b' o = some v → b' < w.heap.size := fun b' o v hi => World.block_lt_of_cell? w _ (hS.imm b' o v hi)
  have hle : Imm.le ι (fun b' o => if b' = b then g o else ι b' o) := fun b' o v hi => by
    by_cases e : b' = b
    · have := hlt b' o v hi; omega
    · simpa [e] using hi
  refine ⟨hle, ⟨fun b' o v hi => ?_, fun b' o v hi => ?_, fun p hp => ?_, hS.fresh, hS.nodup, hS.apart, fun p hp x hx k o v hk hi => ?_, fun p hp x hx k hk => Nat.lt_of_lt_of_le (hS.lt p hp x hx k hk) ht.size⟩, ⟨⟨ht.os, ht.tape, ht.output, ht.size, fun k hk _ => keepB k hk⟩, fun _ h => .inl h, hle, fun b' o v hi => ?_, Rho.le.refl _⟩⟩
  · by_cases e : b' = b
    · subst e; exact (hg o v (by simpa using hi)).1
    · have hi' : ι b' o = some v := by simpa [e] using hi
      have h1 := hS.imm b' o v hi'
      rw [← h1]
      exact World.cell?_of_block (keepB b' (hlt b' o v hi'))
  · by_cases e : b' = b
    · subst e; exact (hg o v (by simpa using hi)).2
    · exact hS.one b' o v (by simpa [e] using hi)
  · obtain ⟨u, hu, r⟩ := hS.rel p hp
    exact ⟨u, hu, r.keep (Rho.le.refl _) hle fun k hk => keepB k (hS.lt p hp u hu k hk)⟩
  · by_cases e : k = b
    · subst e; have := hS.lt p hp x hx k hk; omega
    · exact hS.iapart p hp x hx k o v hk (by simpa [e] using hi)
  · by_cases e : b' = b
    · subst e; exact .inr (.inr hb)
    · exact .inl (by simpa [e] using hi)
/-- A chunk's block is written no more: its cells are immutable from here on. -/
theorem SR.freeze {ρ : Rho} {ι : Imm} {H : AH} {w : World} (hS : SR ρ ι H w) {h b : Nat} {c : Chunk} {hv : HV} (hc : H.get h = some c) (hr : ρ h = some hv) (hb : hv.foot b) (g : Nat → Option Value)
    (hg : ∀ o v, g o = some v → w.cell? ⟨b, o, none⟩ = some v ∧ v.oneCell' = true) :
    Imm.le ι (fun b' o => if b' = b then g o else ι b' o) ∧ SR ρ (fun b' o => if b' = b then g o else ι b' o) (H.del h) w ∧ Went ρ ι H w ρ (fun b' o => if b' = b then g o else ι b' o) (H.del h) w := by
  have hm := AH.get_mem hc
  have hle : Imm.le ι (fun b' o => if b' = b then g o else ι b' o) := fun b' o v hi => by
    by_cases e : b' = b
    · subst e; exact absurd hi (hS.iapart _ hm hv hr b' o v hb)
    · simpa [e] using hi
  refine ⟨hle, ⟨fun b' o v hi => ?_, fun b' o v hi => ?_, fun p hp => ?_, hS.fresh, AH.nodup_del h hS.nodup, fun p hp q hq => hS.apart p (AH.mem_del p hp) q (AH.mem_del q hq), fun p hp x hx k o v hk hi => ?_, fun p hp => hS.lt p (AH.mem_del p hp)⟩, ⟨Touch.refl _ _, fun _ ⟨p, hp, x⟩ => .inl ⟨p, AH.mem_del p hp, x⟩, hle, fun b' o v hi => ?_, Rho.le.refl _⟩⟩
  · by_cases e : b' = b
    · subst e; exact (hg o v (by simpa using hi)).1
    · exact hS.imm b' o v (by simpa [e] using hi)
  · by_cases e : b' = b
    · subst e; exact (hg o v (by simpa using hi)).2
    · exact hS.one b' o v (by simpa [e] using hi)
  · obtain ⟨u, hu, r⟩ := hS.rel p (AH.mem_del p hp)
    exact ⟨u, hu, r.keep (Rho.le.refl _) hle fun _ _ => rfl⟩
  · by_cases e : k = b
    · subst e; exact hS.apart p (AH.mem_del p hp) _ hm (AH.key_del hS.nodup p hp) x hv hx hr k hk hb
    · exact hS.iapart p (AH.mem_del p hp) x hx k o v hk (by simpa [e] using hi)
  · by_cases e : b' = b
    · subst e; exact .inr (.inl ⟨_, hm, hv, hr, hb⟩)
    · exact .inl (by simpa [e] using hi)
/-- A new row as an immutable value. -/
def frzV : Chunk → Option AV
  | .brow _ l => some (.iv (.bs l))
  | .rowc _ sz n f => some (.iv (.sl sz n f))
  | .cells _ cs => (toIVs cs).map fun l => .iv (.pp l)
  | _ => none
theorem cellOf {w : World} {b : Nat} {arr : Array Value} {e : TypeId} {fr : Nat × Nat} (hb : w.heap[b]? = some (.cells arr e fr)) {o : Nat} {v : Value} (hv : arr[o]? = some v) : w.cell? ⟨b, o, none⟩ = some v := by
  simp [World.cell?, hb, hv]
/-- **A new row, or cell, that is written no more.** -/
theorem XOk.frz {s : Sem Next} {c : Chunk} {f : Nat → AV} (hS : SR ρ ι H w) (h : XOk P w s ρ ι H c f) {r : AV} (hr : frzV c = some r) (hcell : ∀ e cs, c = .cells e cs → (cs.all AV.one = true) ∧ f = fun h => .ptr h 0) :
    ∃ v w' ι', s.run P w = .ok (.value v) w' ∧ SR ρ ι' H w' ∧ Went ρ ι H w ρ ι' H w' ∧ r.R ρ ι' v := by
  obtain ⟨v, w', ρ', h1, h2, h3, h4, h5, h6, hu0, rfl⟩ := h
  have hn : (H.add c).get H.next = some c ∨ True := .inr trivial
  have hmem : (H.next, c) ∈ (H.add c).ch := by unfold AH.add; simp
  obtain ⟨hv, e1, e2⟩ := h2.rel _ hmem
  have hfoot : ∀ k, hv.foot k → w.heap.size ≤ k := fun k hk => by
    rcases h3.grow k ⟨_, hmem, hv, e1, hk⟩ with ⟨p, hp, u, hu, hk2⟩ | h
    · have hne : p.1 ≠ H.next := fun e => by
        rw [e, hS.fresh H.next (Nat.le_refl _)] at hu; cases hu
      have hp' : p ∈ (H.add c).ch := by unfold AH.add; exact List.mem_append_left _ hp
      exact absurd hk (h2.apart p hp' _ hmem hne u hv (Rho.upd_old (hS.fresh H.next (Nat.le_refl _)) hu) e1 k hk2)
    · exact h
  cases c with
  | brow e l =>
    simp only [frzV, Option.some.injEq] at hr
    subst hr
    simp only [rowLen] at h6
    subst h6
    rcases e2 with ⟨g1, g2, _⟩ | ⟨b, arr, fr, g1, g2, g3, g4, g5, g6, g7⟩
    · subst g2
      obtain ⟨q1, q2, q3⟩ := hS.addImm h5 w.heap.size (Nat.le_refl _) (fun _ => none) (fun o v h => by cases h)
      refine ⟨v, w', _, h1, q2, q3, ?_⟩
      simp only [AV.R, IV.R] at h4 ⊢
      obtain ⟨A, cp, rfl, i2, i3, _⟩ := h4
      exact ⟨A, cp, rfl, i2, i3, fun k hk => by simp at hk⟩
    · obtain ⟨q1, q2, q3⟩ := hS.addImm h5 b (hfoot b ((g2 b).2 rfl)) (fun o => if o < l.length then some (.int .u8 ((l.getD o 0).toNat : Int)) else none) (fun o v hg => by
        split at hg
        · rename_i ho
          injection hg with hg
          subst hg
          exact ⟨cellOf g3 (g7 o ho), rfl⟩
        · cases hg)
      refine ⟨v, w', _, h1, q2, q3, ?_⟩
      simp only [AV.R, IV.R] at h4 ⊢
      obtain ⟨A, cp, rfl, i2, i3, i4⟩ := h4
      refine ⟨A, cp, rfl, i2, i3, fun k hk => ?_⟩
      obtain ⟨hv', b', j1, j2, j3, j4⟩ := i4 (by omega)
      rw [e1] at j1
      injection j1 with j1
      subst j1
      rw [g1] at j2
      injection j2 with j2
      subst j2
      exact ⟨_, j3, rfl, by simp [hk]⟩
  | rowc e sz n fn =>
    simp only [frzV, Option.some.injEq] at hr
    subst hr
    simp only [rowLen] at h6
    subst h6
    rcases e2 with ⟨g1, g2, _⟩ | ⟨b, arr, fr, g1, g2, g3, g4, g5, g6, g7⟩
    · subst g2
      obtain ⟨q1, q2, q3⟩ := hS.addImm h5 w.heap.size (Nat.le_refl _) (fun _ => none) (fun o v h => by cases h)
      refine ⟨v, w', _, h1, q2, q3, ?_⟩
      simp only [AV.R, IV.R] at h4 ⊢
      obtain ⟨A, cp, rfl, i2, i3, _⟩ := h4
      exact ⟨A, cp, rfl, i2, i3, fun k hk => by omega⟩
    · obtain ⟨q1, q2, q3⟩ := hS.addImm h5 b (hfoot b ((g2 b).2 rfl)) (fun o => if o < n * sz then arr[o]? else none) (fun o v hg => by
        split at hg
        · rename_i ho
          refine ⟨cellOf g3 hg, ?_⟩
          have hsz : 0 < sz := by
            rcases Nat.eq_zero_or_pos sz with h0 | h0
            · subst h0; omega
            · exact h0
          obtain ⟨vs, _, k2, k3, k4⟩ := g7 (o / sz) (by rw [Nat.div_lt_iff_lt_mul hsz]; exact ho)
          have hlt : o % sz < vs.length := by rw [k2]; exact Nat.mod_lt _ hsz
          have h8 := k4 (o % sz) vs[o % sz] (List.getElem?_eq_getElem hlt)
          have h9 : o / sz * sz + o % sz = o := by rw [Nat.mul_comm]; exact Nat.div_add_mod o sz
          rw [h9, hg] at h8
          injection h8 with h8
          rw [h8]
          exact k3 _ (List.getElem_mem hlt)
        · cases hg)
      refine ⟨v, w', _, h1, q2, q3, ?_⟩
      simp only [AV.R, IV.R] at h4 ⊢
      obtain ⟨A, cp, rfl, i2, i3, i4⟩ := h4
      refine ⟨A, cp, rfl, i2, i3, fun k hk => ?_⟩
      obtain ⟨hv', b', j1, j2, j3, j4⟩ := i4 (by omega)
      rw [e1] at j1
      injection j1 with j1
      subst j1
      rw [g1] at j2
      injection j2 with j2
      subst j2
      obtain ⟨vs, k1, k2, k3, k4⟩ := g7 k hk
      refine ⟨_, vs, j3, rfl, IV.Rs_mono q1 _ _ k1, k2, fun j u hj => ?_⟩
      have hj' : j < sz := by rw [← k2]; exact (List.getElem?_eq_some_iff.1 hj).1
      have hlt : k * sz + j < n * sz := by
        have : (k + 1) * sz ≤ n * sz := Nat.mul_le_mul_right sz hk
        rw [Nat.add_mul, Nat.one_mul] at this
        omega
      simp only [Nat.zero_mul, Nat.zero_add, if_true, if_pos hlt]
      exact k4 j u hj
  | cells e cs =>
    obtain ⟨hone, rfl⟩ := hcell e cs rfl
    simp only [frzV] at hr
    obtain ⟨l, hl, rfl⟩ := Option.map_eq_some_iff.1 hr
    obtain ⟨b, vs, g1, g2, g3, g4⟩ := e2
    have hone' := all_one hone g4
    have hiv := toIVs_spec _ _ _ hl g4
    obtain ⟨q1, q2, q3⟩ := hS.addImm h5 b (hfoot b ((g2 b).2 rfl)) (fun o => vs[o]?) (fun o v hg => ⟨cellOf g3 (by simpa using hg), hone' v (List.mem_of_getElem? hg)⟩)
    refine ⟨v, w', _, h1, q2, q3, ?_⟩
    simp only [AV.R, IV.R] at h4 ⊢
    obtain ⟨hv', b', j1, j2, rfl⟩ := h4
    rw [e1] at j1
    injection j1 with j1
    subst j1
    rw [g1] at j2
    injection j2 with j2
    subst j2
    exact ⟨_, vs, rfl, rfl, IV.Rs_mono q1 _ _ hiv, fun j u hj => by simpa using hj⟩
  | _ => cases hr
end
end Go.Proofs.Yteeifedpabcehaa.Bm

namespace Go.Proofs.Yteeifedpabcehaa.Bm
open Go.RowKit

section
variable {ρ : Rho} {ι : Imm} {P : Program} {w : World} {T : TT} {H : AH}
def putObj (w : World) (b : Nat) (o : Obj) : World := { w with heap := w.heap.setIfInBounds b o }
theorem putObj_same {b : Nat} {o o' : Obj} (h : w.heap[b]? = some o) : (putObj w b o').heap[b]? = some o' := by
  have hb : b < w.heap.size := (Array.getElem?_eq_some_iff.1 h).1
  simp [putObj, hb]
theorem putObj_put (w : World) (b : Nat) (o o' : Obj) : putObj (putObj w b o) b o' = putObj w b o' := by
  simp [putObj]
theorem putObj_touch (w : World) (b : Nat) (o : Obj) : Touch (fun k => k = b) w (putObj w b o) :=
  ⟨rfl, rfl, rfl, by simp [putObj], fun k _ hs => by simp only [putObj]; rw [Array.getElem?_setIfInBounds_ne (fun e => hs e.symm)]⟩
theorem putObj_id {b : Nat} {o : Obj} (h : w.heap[b]? = some o) : putObj w b o = w := by
  obtain ⟨hb, he⟩ := Array.getElem?_eq_some_iff.1 h
  have : w.heap.setIfInBounds b o = w.heap := by
    apply Array.ext_getElem?
    intro i
    by_cases hi : b = i
    · subst hi; rw [h]; simp [hb]
    · rw [Array.getElem?_setIfInBounds_ne hi]
  simp [putObj, this]
theorem setCell_put {b o : Nat} {arr : Array Value} {e : TypeId} {fr : Nat × Nat} (h : w.heap[b]? = some (.cells arr e fr)) (v : Value) : w.setCell ⟨b, o, none⟩ v = putObj w b (.cells (arr.setIfInBounds o v) e fr) := by
  have hb : b < w.heap.size := (Array.getElem?_eq_some_iff.1 h).1
  simp only [World.setCell, putObj]
  congr 1
  apply Array.ext_getElem?
  intro i
  rw [Array.getElem?_modify]
  by_cases hi : b = i
  · subst hi
    rw [if_pos rfl, h]
    simp [hb]
  · rw [if_neg hi, Array.getElem?_setIfInBounds_ne hi]
def layArr (arr : Array Value) (o : Nat) : List Value → Array Value
  | [] => arr
  | v :: vs => layArr (arr.setIfInBounds o v) (o + 1) vs
theorem layArr_eq : ∀ (us : List Value) (vs : List Value) (o : Nat), layArr vs.toArray o us = (layV vs o us).toArray
  | [], vs, o => rfl
  | u :: us, vs, o => by
    simp only [layArr, layV]
    rw [← layArr_eq us]
    simp
theorem layArr_size : ∀ (us : List Value) (arr : Array Value) (o : Nat), (layArr arr o us).size = arr.size
  | [], arr, o => rfl
  | u :: us, arr, o => by simp only [layArr]; rw [layArr_size us]; simp
theorem layArr_out : ∀ (us : List Value) (arr : Array Value) (o j : Nat), (j < o ∨ o + us.length ≤ j) → (layArr arr o us)[j]? = arr[j]?
  | [], arr, o, j, _ => rfl
  | u :: us, arr, o, j, h => by
    simp only [List.length_cons] at h
    simp only [layArr]
    rw [layArr_out us _ _ _ (by omega), Array.getElem?_setIfInBounds_ne (by omega)]
theorem layArr_in : ∀ (us : List Value) (arr : Array Value) (o j : Nat), o + us.length ≤ arr.size → j < us.length → (layArr arr o us)[o + j]? = us[j]?
  | [], arr, o, j, _, h => by simp at h
  | u :: us, arr, o, j, hs, h => by
    simp only [List.length_cons] at hs h
    simp only [layArr]
    cases j with
    | zero =>
      rw [layArr_out us _ _ _ (by omega)]
      simp only [Nat.add_zero, List.getElem?_cons_zero]
      rw [Array.getElem?_setIfInBounds_self_of_lt (by omega)]
    | succ j =>
      rw [show o + (j + 1) = (o + 1) + j by omega, layArr_in us _ _ _ (by simp; omega) (by omega), List.getElem?_cons_succ]
theorem run_stores {b : Nat} {e : TypeId} {fr : Nat × Nat} (off : Nat) : ∀ (vs : List Value) (i : Nat) (arr : Array Value) (w : World), w.heap[b]? = some (.cells arr e fr) → FrOk fr arr.size →
    off + i + vs.length ≤ arr.size → (∀ v ∈ vs, v.oneCell' = true) → (storeCells ⟨b, off, none⟩ vs i).run P w = .ok () (putObj w b (.cells (layArr arr (off + i) vs) e fr))
  | [], i, arr, w, h, _, _, _ => by simp [storeCells, layArr, putObj_id h]
  | v :: vs, i, arr, w, h, hf, hl, h1 => by
    simp only [List.length_cons] at hl
    have hv := h1 v (List.mem_cons_self ..)
    have hlt : off + i < arr.size := by omega
    have hcell : w.cell? ⟨b, off + i, none⟩ = some arr[off + i] := by rw [heap_cell h]; simp [hlt]
    have hfz : w.frozen? ⟨b, off + i, none⟩ = false := by simp only [World.frozen?, h]; exact hf.2 _ hlt
    have hst := run_store P w ⟨b, off + i, none⟩ v .plain hv
    rw [hcell] at hst
    simp only [hfz, Bool.false_eq_true, if_false] at hst
    have h2 : (w.setCell ⟨b, off + i, none⟩ v).heap[b]? = some (.cells (arr.setIfInBounds (off + i) v) e fr) := by
      rw [setCell_put h]; exact putObj_same h
    have ih := run_stores off vs (i + 1) (arr.setIfInBounds (off + i) v) _ h2 ⟨hf.1, fun j hj => hf.2 j (by simpa using hj)⟩ (by simp; omega) (fun u hu => h1 u (List.mem_cons_of_mem _ hu))
    simp only [storeCells, Sem.run_bind, add_none, hst, Result.andThen_ok, ih, layArr]
    rw [setCell_put h, putObj_put]
    rfl
theorem layV_one : ∀ (us vs : List Value) (o : Nat), (∀ v ∈ vs, v.oneCell' = true) → (∀ v ∈ us, v.oneCell' = true) → ∀ v ∈ layV vs o us, v.oneCell' = true
  | [], vs, o, h, _ => h
  | u :: us, vs, o, h, h' => by
    simp only [layV]
    refine layV_one us _ _ (fun v hv => ?_) (fun v hv => h' v (List.mem_cons_of_mem _ hv))
    rcases List.mem_or_eq_of_mem_set hv with hv | rfl
    · exact h v hv
    · exact h' v (List.mem_cons_self ..)
def layI (cs : List IV) (off : Nat) : List IV → List IV
  | [] => cs
  | x :: xs => layI (cs.set off x) (off + 1) xs
theorem layI_map : ∀ (xs cs : List IV) (off : Nat), (layI cs off xs).map AV.iv = layA (cs.map AV.iv) off (xs.map AV.iv)
  | [], cs, off => rfl
  | x :: xs, cs, off => by simp only [layI, layA, List.map_cons]; rw [layI_map xs, List.map_set]
theorem toIVs_map : ∀ (xs : List AV) (ys : List IV), toIVs xs = some ys → xs = ys.map AV.iv
  | [], ys, h => by simp only [toIVs, Option.some.injEq] at h; subst h; rfl
  | x :: xs, ys, h => by
    unfold toIVs at h
    split at h
    · rename_i y zs hy hzs
      simp only [Option.some.injEq] at h
      subst h
      cases x <;> simp only [AV.toIV] at hy <;> cases hy
      simp [toIVs_map xs zs hzs]
    · cases h
theorem layV_len : ∀ (us vs : List Value) (o : Nat), (layV vs o us).length = vs.length
  | [], vs, o => rfl
  | u :: us, vs, o => by simp only [layV]; rw [layV_len us]; simp
/-- A write: conditions, what it leaves, memory behind it. -/
abbrev WOut := Option (List Cnd × AV × AH)
def storeW (T : TT) (H : AH) (t : TypeId) (a x : AV) : WOut :=
  match T.get t, x.cells with
  | some d, some xs =>
    bif Nat.beq xs.length d.size && xs.all AV.one then
      match a with
      | .ptr h off => match H.get h with
        | some (.cells e cs) => bif Nat.ble (off + xs.length) cs.length then some ([], .junk, H.set h (.cells e (layA cs off xs))) else none
        | _ => none
      | .el h sz i fo => match H.get h with
        | some (.rowc e sz' n f) => match toIVs xs with
          | some ys => bif Nat.beq sz sz' && Nat.ble (fo + xs.length) sz then some ([.nlt i n], .junk, H.set h (.rowc e sz n (fun j => if j = i then layI (f i) fo ys else f j))) else none
          | none => none
        | some (.brow e l) => match xs with
          | [.iv (.v (.int .u8 n))] => bif Nat.beq sz 1 && Nat.beq fo 0 then some ([.nlt i l.length, .le 0 n, .le n 255], .junk, H.set h (.brow e (l.set i (UInt8.ofNat n.toNat)))) else none
          | _ => none
        | _ => none
      | _ => none
    else none
  | _, _ => none
def WOk (P : Program) (w : World) (s : Sem Next) (ρ : Rho) (ι : Imm) (H : AH) (x : AV) (H' : AH) : Prop :=
  ∃ n w' ρ', (s.run P w = .ok (.value n) w' ∨ (s.run P w = .ok .skip w' ∧ n = undef)) ∧ SR ρ' ι H' w' ∧ Went ρ ι H w ρ' ι H' w' ∧ x.R ρ' ι n
theorem SR.put (hS : SR ρ ι H w) {h b : Nat} {c c' : Chunk} {hv : HV} (hc : H.get h = some c) (hr : ρ h = some hv) (hf : ∀ k, hv.foot k ↔ k = b) (o : Obj) (hc' : c'.R ρ ι hv (putObj w b o)) :
    SR ρ ι (H.set h c') (putObj w b o) ∧ Went ρ ι H w ρ ι (H.set h c') (putObj w b o) :=
  hS.turn hc hr (by have := putObj_touch w b o; exact ⟨this.os, this.tape, this.output, this.size, fun k hk hs => this.block k hk fun e => hs ((hf k).2 e)⟩) hc'
theorem storeW_ok (hT : TOk P T) (hS : SR ρ ι H w) (t : TypeId) (a x : AV) {u v : Value} (ha : a.R ρ ι u) (hx : x.R ρ ι v) {cs : List Cnd} {r : AV} {H' : AH} (h : storeW T H t a x = some (cs, r, H')) (hc : ands cs True) :
    ∃ w', (Instr.storeAt t u v).run P w = .ok () w' ∧ r = .junk ∧ SR ρ ι H' w' ∧ Went ρ ι H w ρ ι H' w' := by
  unfold storeW at h
  split at h
  · rename_i d xs hd hxs
    cases hb : (Nat.beq xs.length d.size && xs.all AV.one) with
    | false => rw [hb] at h; cases h
    | true =>
      rw [hb] at h
      simp only [cond_true] at h
      rw [Bool.and_eq_true] at hb
      have hl := Nat.eq_of_beq_eq_true hb.1
      obtain ⟨us, he, hr⟩ := cells_spec hx hxs
      have h1 := all_one hb.2 hr
      have hul := Rs_lenA _ _ hr
      have hsz := run_sizeOf' hT hd w
      have run : ∀ (b off : Nat) (arr : Array Value) (e : TypeId) (fr : Nat × Nat), u = .pointer (some ⟨b, off, none⟩) → w.heap[b]? = some (.cells arr e fr) → FrOk fr arr.size → off + us.length ≤ arr.size →
          (Instr.storeAt t u v).run P w = .ok () (putObj w b (.cells (layArr arr off us) e fr)) := by
        intro b off arr e fr hu hh hf hfit
        have hst := run_stores (P := P) (b := b) (e := e) (fr := fr) off us 0 arr w hh hf (by simpa using hfit) h1
        rw [Nat.add_zero] at hst
        subst hu
        have hne : us.length = d.size := by omega
        simp [Instr.storeAt, Instr.sureAddr, storeVar, hsz, he, hne, hst]
      split at h
      · rename_i h0 off
        simp only [AV.R] at ha
        obtain ⟨hv, b, g1, g2, hu⟩ := ha
        split at h
        · rename_i e cs0 hg
          cases hb2 : Nat.ble (off + xs.length) cs0.length with
          | false => rw [hb2] at h; cases h
          | true =>
            rw [hb2] at h
            simp only [cond_true, Option.some.injEq, Prod.mk.injEq] at h
            obtain ⟨rfl, rfl, rfl⟩ := h
            have hle := Nat.le_of_ble_eq_true hb2
            obtain ⟨hv', g3, b', vs, g4, g5, g6, g7⟩ := hS.hv hg
            rw [g1] at g3
            injection g3 with g3
            subst g3
            rw [g2] at g4
            injection g4 with g4
            subst g4
            have hvl := Rs_lenA _ _ g7
            have hrun := run b off vs.toArray e (0, 0) hu g6 (FrOk.zero _) (by simp; omega)
            obtain ⟨s1, s2⟩ := hS.put hg g1 g5 (.cells (layArr vs.toArray off us) e (0, 0)) (c' := .cells e (layA cs0 off xs)) ⟨b, layV vs off us, g2, g5, by rw [layArr_eq]; exact putObj_same g6, layA_ok xs us off cs0 vs hr g7⟩
            exact ⟨_, hrun, rfl, s1, s2⟩
        · cases h
      · rename_i h0 sz i fo
        simp only [AV.R] at ha
        obtain ⟨hv, b, g1, g2, hu⟩ := ha
        split at h
        · rename_i e sz' n f hg
          split at h
          · rename_i ys hys
            cases hb2 : (Nat.beq sz sz' && Nat.ble (fo + xs.length) sz) with
            | false => rw [hb2] at h; cases h
            | true =>
              rw [hb2] at h
              simp only [cond_true, Option.some.injEq, Prod.mk.injEq] at h
              obtain ⟨rfl, rfl, rfl⟩ := h
              rw [Bool.and_eq_true] at hb2
              have hsz2 := Nat.eq_of_beq_eq_true hb2.1
              have hle := Nat.le_of_ble_eq_true hb2.2
              subst hsz2
              obtain ⟨hi, _⟩ := hc
              obtain ⟨hv', g3, g4⟩ := hS.hv hg
              rw [g1] at g3
              injection g3 with g3
              subst g3
              rcases g4 with ⟨g4, _⟩ | ⟨b', arr, fr, q1, q2, q3, q4, q5, q6, q7⟩
              · rw [g2] at g4; cases g4
              · rw [g2] at q1
                injection q1 with q1
                subst q1
                have hfit : i * sz + sz ≤ n * sz := by rw [← Nat.succ_mul]; exact Nat.mul_le_mul_right _ hi
                have hrun := run b (i * sz + fo) arr e fr hu q3 q5 (by omega)
                obtain ⟨s1, s2⟩ := hS.put hg g1 q2 (.cells (layArr arr (i * sz + fo) us) e fr) (c' := .rowc e sz n (fun j => if j = i then layI (f i) fo ys else f j)) (.inr ⟨b, layArr arr (i * sz + fo) us, fr, g2, q2, putObj_same q3, by rw [layArr_size]; exact q4, by rw [layArr_size]; exact q5, by rw [layArr_size]; exact q6, fun j hj => by
                  obtain ⟨vs, r1, r2, ro, r3⟩ := q7 j hj
                  by_cases hji : j = i
                  · subst hji
                    simp only [if_true]
                    refine ⟨layV vs fo us, ?_, by rw [layV_len]; exact r2, layV_one us vs fo ro h1, fun k u hu => ?_⟩
                    · have := layA_ok (ρ := ρ) (ι := ι) xs us fo ((f j).map AV.iv) vs hr ((Rs_iv _ _).2 r1)
                      rw [toIVs_map xs ys hys, ← layI_map] at this
                      exact (Rs_iv _ _).1 this
                    · have hk : k < sz := by
                        rcases Nat.lt_or_ge k (layV vs fo us).length with h' | h'
                        · rw [layV_len, r2] at h'; exact h'
                        · rw [List.getElem?_eq_none h'] at hu; cases hu
                      have hlv : (layV vs fo us)[k]? = (layArr vs.toArray fo us)[k]? := by rw [layArr_eq]; simp
                      rw [hlv] at hu
                      by_cases hin : fo ≤ k ∧ k < fo + us.length
                      · obtain ⟨m, rfl⟩ : ∃ m, k = fo + m := ⟨k - fo, by omega⟩
                        rw [layArr_in us _ _ _ (by simp; omega) (by omega)] at hu
                        rw [← Nat.add_assoc, layArr_in us _ _ _ (by omega) (by omega)]
                        exact hu
                      · rw [layArr_out us _ _ _ (by omega)] at hu
                        rw [layArr_out us _ _ _ (by omega)]
                        exact r3 k u (by simpa using hu)
                  · simp only [if_neg hji]
                    refine ⟨vs, r1, r2, ro, fun k u hu => ?_⟩
                    have hk : k < sz := by
                      rcases Nat.lt_or_ge k vs.length with h' | h'
                      · omega
                      · rw [List.getElem?_eq_none h'] at hu; cases hu
                    rw [layArr_out us _ _ _ ?_]
                    · exact r3 k u hu
                    · rcases Nat.lt_or_gt_of_ne hji with h' | h'
                      · left
                        have : (j + 1) * sz ≤ i * sz := Nat.mul_le_mul_right _ h'
                        rw [Nat.succ_mul] at this
                        omega
                      · right
                        have : (i + 1) * sz ≤ j * sz := Nat.mul_le_mul_right _ h'
                        rw [Nat.succ_mul] at this
                        omega⟩)
                exact ⟨_, hrun, rfl, s1, s2⟩
          · cases h
        · rename_i e l hg
          split at h
          · rename_i n
            cases hb2 : (Nat.beq sz 1 && Nat.beq fo 0) with
            | false => rw [hb2] at h; cases h
            | true =>
              rw [hb2] at h
              simp only [cond_true, Option.some.injEq, Prod.mk.injEq] at h
              obtain ⟨rfl, rfl, rfl⟩ := h
              rw [Bool.and_eq_true] at hb2
              have hsz2 := Nat.eq_of_beq_eq_true hb2.1
              have hfo := Nat.eq_of_beq_eq_true hb2.2
              subst hsz2 hfo
              obtain ⟨hi, n0, n1, _⟩ := hc
              obtain ⟨hv', g3, g4⟩ := hS.hv hg
              rw [g1] at g3
              injection g3 with g3
              subst g3
              simp only [AV.Rs, AV.R, IV.R] at hr
              obtain ⟨u0, us0, rfl, rfl, rfl⟩ := hr
              rcases g4 with ⟨g4, _⟩ | ⟨b', arr, fr, q1, q2, q3, q4, q5, q6, q7⟩
              · rw [g2] at g4; cases g4
              · rw [g2] at q1
                injection q1 with q1
                subst q1
                have hrun := run b (i * 1 + 0) arr e fr hu q3 q5 (by simp; omega)
                obtain ⟨s1, s2⟩ := hS.put hg g1 q2 (.cells (layArr arr (i * 1 + 0) [.int .u8 n]) e fr) (c' := .brow e (l.set i (UInt8.ofNat n.toNat))) (.inr ⟨b, layArr arr (i * 1 + 0) [.int .u8 n], fr, g2, q2, putObj_same q3, by rw [layArr_size]; exact q4, by rw [layArr_size]; exact q5, by rw [layArr_size]; simpa using q6, fun j hj => by
                  rw [List.length_set] at hj
                  by_cases hji : j = i
                  · subst hji
                    have := layArr_in [.int .u8 n] arr j 0 (by simp; omega) (by simp)
                    simp only [Nat.mul_one, Nat.add_zero] at this ⊢
                    rw [this]
                    simp only [List.getElem?_cons_zero]
                    have e1 : (l.set j (UInt8.ofNat n.toNat)).getD j 0 = UInt8.ofNat n.toNat := by simp [List.getD, hj]
                    rw [e1, ofNat_toNat n0 n1]
                  · rw [layArr_out _ _ _ _ (by simp; omega)]
                    rw [q7 j hj]
                    simp [List.getD, Ne.symm hji]⟩)
                exact ⟨_, hrun, rfl, s1, s2⟩
          · cases h
        · cases h
      · cases h
  · cases h
/-! A literal of bytes, that is marked as a string's. -/
def litW (fz : Bool) (T : TT) (H : AH) (s d : TypeId) (x : AV) : WOut :=
  match elemOfT T d with
  | some (_, de) => bif Nat.beq s d && isByte de then
      match x with
      | .row h 1 0 len => match H.get h with
        | some (.brow _ l) => bif fz then some ([.nle 1 len, .nle len l.length], .iv (.bs (l.take len)), H.del h) else some ([.nle 1 len], .row h 1 0 len, H)
        | _ => none
      | _ => none
    else none
  | none => none
theorem AH.set_get {H : AH} {h : Nat} {c : Chunk} (e : H.get h = some c) : H.set h c = H := by
  obtain ⟨n, l⟩ := H
  unfold AH.set AH.get at *
  simp only [AH.mk.injEq, true_and]
  simp only at e
  induction l with
  | nil => rfl
  | cons p ps ih =>
    simp only [AH.get.go, AH.set.go] at e ⊢
    cases hb : Nat.beq p.1 h with
    | true =>
      rw [hb] at e
      simp only [cond_true, Option.some.injEq] at e ⊢
      rw [← e]
    | false =>
      rw [hb] at e
      simp only [cond_false] at e ⊢
      rw [ih e]
theorem isByte_spec {d : TD} (h : isByte d = true) : d.k = .int .u8 := by
  unfold isByte at h
  split at h
  · assumption
  · cases h
theorem run_mark {b : Nat} {arr : Array Value} {e : TypeId} {fr : Nat × Nat} (h : w.heap[b]? = some (.cells arr e fr)) : (markStringish ⟨b, 0, none⟩).run P w = .ok () (putObj w b (.cells arr e (if fr.1 = fr.2 then (arr.size, arr.size + 1) else (min fr.1 arr.size, max fr.2 (arr.size + 1))))) := by
  have hsh : w.shape? b = some (e, arr.size) := by simp [World.shape?, h]
  have hfz : w.freeze ⟨b, arr.size, none⟩ 1 = putObj w b (.cells arr e (if fr.1 = fr.2 then (arr.size, arr.size + 1) else (min fr.1 arr.size, max fr.2 (arr.size + 1)))) := by
    obtain ⟨lo, hi⟩ := fr
    have hb : b < w.heap.size := (Array.getElem?_eq_some_iff.1 h).1
    have hx : w.heap[b] = .cells arr e (lo, hi) := (Array.getElem?_eq_some_iff.1 h).2
    unfold World.freeze putObj
    rw [if_neg (by decide)]
    simp only
    congr 1
    apply Array.ext_getElem?
    intro i
    rw [Array.getElem?_modify, Array.getElem?_setIfInBounds]
    by_cases hi : b = i
    · subst hi
      simp only [if_true, h, Option.map_some, if_pos hb]
      by_cases hq : lo = ‹Nat›
      all_goals simp_all
    · simp [hi]
  simp [markStringish, hsh, hfz]
theorem FrOk.mark {fr : Nat × Nat} {n : Nat} (h : FrOk fr n) : FrOk (if fr.1 = fr.2 then (n, n + 1) else (min fr.1 n, max fr.2 (n + 1))) n := by
  obtain ⟨lo, hi⟩ := fr
  obtain ⟨h1, h2⟩ := h
  simp only at h1 h2 ⊢
  split
  · exact ⟨by simp, fun j hj => by simp; omega⟩
  · rename_i hne
    have hge : n ≤ lo := by
      rcases Nat.lt_or_ge lo n with h | h
      · have := h2 lo h
        simp at this
        omega
      · exact h
    refine ⟨by simp; omega, fun j hj => by simp; omega⟩
theorem litW_ok (fz : Bool) (hT : TOk P T) (hS : SR ρ ι H w) (s d : TypeId) (x : AV) {v : Value} (hx : x.R ρ ι v) {cs : List Cnd} {r : AV} {H' : AH} (h : litW fz T H s d x = some (cs, r, H')) (hc : ands cs True) :
    (fz = false → H' = H) ∧ ∃ w' ι', (convert s d v).run P w = .ok v w' ∧ SR ρ ι' H' w' ∧ Went ρ ι H w ρ ι' H' w' ∧ r.R ρ ι' v := by
  unfold litW at h
  split at h
  · rename_i e de he
    cases hb : (Nat.beq s d && isByte de) with
    | false => rw [hb] at h; cases h
    | true =>
      rw [hb] at h
      simp only [cond_true] at h
      rw [Bool.and_eq_true] at hb
      have hsd := Nat.eq_of_beq_eq_true hb.1
      subst hsd
      split at h
      · rename_i k len
        split at h
        · rename_i e0 l hg
          have hlen : 1 ≤ len := by
            cases fz with
            | true => simp only [cond_true, Option.some.injEq, Prod.mk.injEq] at h; obtain ⟨rfl, _, _⟩ := h; exact hc.1
            | false => simp only [cond_false, Option.some.injEq, Prod.mk.injEq] at h; obtain ⟨rfl, _, _⟩ := h; exact hc.1
          have hx' := hx
          simp only [AV.R] at hx
          obtain ⟨A, c, rfl, h1, h2, h3⟩ := hx
          obtain ⟨hv, b, g1, g2, rfl, g4⟩ := h3 (by omega)
          obtain ⟨hv', g5, g6⟩ := hS.hv hg
          rw [g1] at g5
          injection g5 with g5
          subst g5
          obtain ⟨hu, hde⟩ := elemOfT_spec hT he
          have hue := td_int hT hde (isByte_spec hb.2)
          rcases g6 with ⟨q1, _⟩ | ⟨b', arr, fr, q1, q2, q3, q4, q5, q6, q7⟩
          · rw [g2] at q1; cases q1
          · rw [g2] at q1
            injection q1 with q1
            subst q1
            obtain ⟨s1, s2⟩ := hS.put hg g1 q2 (.cells arr e0 (if fr.1 = fr.2 then (arr.size, arr.size + 1) else (min fr.1 arr.size, max fr.2 (arr.size + 1)))) (c' := .brow e0 l) (.inr ⟨b, arr, _, g2, q2, putObj_same q3, q4, q5.mark, q6, q7⟩)
            rw [AH.set_get hg] at s1 s2
            have hm := run_mark (P := P) q3
            have hrun : (convert s s (.slice (some ⟨b, 0 * 1, none⟩) len c)).run P w = .ok (.slice (some ⟨b, 0 * 1, none⟩) len c) (putObj w b (.cells arr e0 (if fr.1 = fr.2 then (arr.size, arr.size + 1) else (min fr.1 arr.size, max fr.2 (arr.size + 1))))) := by
              simp only [Nat.zero_mul] at hm ⊢
              simp [convert, run_underlying hu, run_underlying hue, hm]
            cases fz with
            | false =>
              simp only [cond_false, Option.some.injEq, Prod.mk.injEq] at h
              obtain ⟨rfl, rfl, rfl⟩ := h
              exact ⟨fun _ => rfl, _, ι, hrun, s1, s2, hx'⟩
            | true =>
              simp only [cond_true, Option.some.injEq, Prod.mk.injEq] at h
              obtain ⟨rfl, rfl, rfl⟩ := h
              have hll : len ≤ l.length := hc.2.1
              have hobj := putObj_same (w := w) (o' := Obj.cells arr e0 (if fr.1 = fr.2 then (arr.size, arr.size + 1) else (min fr.1 arr.size, max fr.2 (arr.size + 1)))) q3
              obtain ⟨k1, k2, k3⟩ := s1.freeze hg g1 ((q2 b).2 rfl) (fun o => if o < l.length then some (.int .u8 ((l.getD o 0).toNat : Int)) else none) (fun o v hv => by
                split at hv
                · rename_i ho
                  injection hv with hv
                  subst hv
                  refine ⟨?_, rfl⟩
                  simp only [World.cell?, hobj]
                  exact q7 o ho
                · cases hv)
              refine ⟨(fun h => by cases h), _, _, hrun, k2, s2.trans k3, ?_⟩
              simp only [AV.R, IV.R]
              have hlt : (l.take len).length = len := by simp; omega
              refine ⟨_, c, by rw [hlt], by omega, h2, fun k hk => ⟨_, rfl, rfl, ?_⟩⟩
              have hk' : k < len := by omega
              have h6 : (l.take len).getD k 0 = l.getD k 0 := by
                rw [List.getD_eq_getElem?_getD, List.getD_eq_getElem?_getD, List.getElem?_take_of_lt hk']
              simp only [Nat.zero_mul, Nat.zero_add, if_true, h6]
              rw [if_pos (by omega)]
        · cases h
      · cases h
  · cases h
end
end Go.Proofs.Yteeifedpabcehaa.Bm

namespace Go.Proofs.Yteeifedpabcehaa.Bm
open Go.RowKit

def mput {X : Type} (m : List (MK × X)) (k : MK) (x : X) : List (MK × X) :=
  match m with
  | [] => [(k, x)]
  | p :: ps => if p.1 = k then (k, x) :: ps else p :: mput ps k x
def mdel {X : Type} (m : List (MK × X)) (k : MK) : List (MK × X) := m.filter fun p => decide (p.1 ≠ k)
def mapKey (T : TT) (t : TypeId) (k : AV) : Option MK :=
  match T.get t with
  | some d => match d.k with
    | .mp kt _ => match keyA k, (T.get kt).bind (·.k.key) with
      | some key, some kk => if key.kind = kk then some key else none
      | _, _ => none
    | _ => none
  | none => none
def updW (T : TT) (H : AH) (t : TypeId) (m k x : AV) : WOut :=
  match mapKey T t k, m with
  | some key, .mp h => match H.get h with
    | some (.map kk es) => match x.toIV2 with
      | some y => if key.kind = kk then some ([], .junk, H.set h (.map kk (mput es key y))) else none
      | none => none
    | some (.maph kk es) => if key.kind = kk then some ([], .junk, H.set h (.maph kk (mput es key x))) else none
    | _ => none
  | _, _ => none
def delW (T : TT) (H : AH) (t : TypeId) (m k : AV) : WOut :=
  match mapKey T t k, m with
  | some key, .mp h => match H.get h with
    | some (.map kk es) => if key.kind = kk then some ([], .junk, H.set h (.map kk (mdel es key))) else none
    | some (.maph kk es) => if key.kind = kk then some ([], .junk, H.set h (.maph kk (mdel es key))) else none
    | _ => none
  | _, _ => none
section
variable {ρ : Rho} {ι : Imm} {P : Program} {w : World} {T : TT} {H : AH}
theorem mapKey_spec (hT : TOk P T) {t : TypeId} {k : AV} {key : MK} (h : mapKey T t k = some key) : ∃ kt et, P.underlying t = some (.map kt et) ∧ P.underlying kt = some (keyDesc key.kind) ∧ keyA k = some key := by
  unfold mapKey at h
  split at h
  · rename_i d hd
    split at h
    · rename_i kt et hk
      split at h
      · rename_i key' kk h1 h2
        split at h
        · rename_i h3
          injection h with h
          subst h
          obtain ⟨dk, hdk, hkk⟩ := Option.bind_eq_some_iff.1 h2
          obtain ⟨uk, ik, g1, _, rfl⟩ := td hT hdk
          have hku := TK.key_spec hkk
          subst hku
          exact ⟨kt, et, td_mp hT hd hk, by rw [h3]; exact g1, h1⟩
        · cases h
      · cases h
    · cases h
  · cases h
section
variable {X : Type} {R : X → Value → Prop}
theorem ZipR.split {e : MapEntry} : ∀ {C D : List MapEntry} {m : List (MK × X)}, ZipR R (C ++ e :: D) m → ∃ m1 p m2, m = m1 ++ p :: m2 ∧ ZipR R C m1 ∧ e.key = p.1.val ∧ R p.2 e.val ∧ ZipR R D m2
  | [], D, m, h => by
    obtain ⟨p, ps, rfl, h1, h2, h3⟩ := h
    exact ⟨[], p, ps, rfl, rfl, h1, h2, h3⟩
  | c :: C, D, m, h => by
    obtain ⟨p, ps, rfl, h1, h2, h3⟩ := h
    obtain ⟨m1, q, m2, rfl, g1, g2, g3, g4⟩ := ZipR.split h3
    exact ⟨p :: m1, q, m2, rfl, ⟨p, m1, rfl, h1, h2, g1⟩, g2, g3, g4⟩
theorem ZipR.join : ∀ {C D : List MapEntry} {m1 m2 : List (MK × X)}, ZipR R C m1 → ZipR R D m2 → ZipR R (C ++ D) (m1 ++ m2)
  | [], D, m1, m2, h, h' => by simp only [ZipR] at h; subst h; exact h'
  | c :: C, D, m1, m2, h, h' => by
    obtain ⟨p, ps, rfl, h1, h2, h3⟩ := h
    exact ⟨p, ps ++ m2, rfl, h1, h2, ZipR.join h3 h'⟩
theorem mput_split {m1 m2 : List (MK × X)} {k : MK} {x y : X} (h : ∀ p ∈ m1, p.1 ≠ k) : mput (m1 ++ (k, y) :: m2) k x = m1 ++ (k, x) :: m2 := by
  induction m1 with
  | nil => simp [mput]
  | cons p ps ih =>
    have h1 := h p (List.mem_cons_self ..)
    simp only [List.cons_append, mput, if_neg h1]
    rw [ih fun q hq => h q (List.mem_cons_of_mem _ hq)]
theorem mput_new {m : List (MK × X)} {k : MK} {x : X} (h : ∀ p ∈ m, p.1 ≠ k) : mput m k x = m ++ [(k, x)] := by
  induction m with
  | nil => rfl
  | cons p ps ih =>
    have h1 := h p (List.mem_cons_self ..)
    simp only [mput, if_neg h1, List.cons_append]
    rw [ih fun q hq => h q (List.mem_cons_of_mem _ hq)]
theorem split_at {α : Type} {l : List α} {j : Nat} {e : α} (h : l[j]? = some e) : ∃ A B, l = A ++ e :: B ∧ A.length = j := by
  have hj : j < l.length := by
    rcases Nat.lt_or_ge j l.length with h' | h'
    · exact h'
    · rw [List.getElem?_eq_none h'] at h; cases h
  refine ⟨l.take j, l.drop (j + 1), ?_, by rw [List.length_take]; omega⟩
  rw [List.getElem?_eq_getElem hj] at h
  injection h with h
  rw [← h, ← List.drop_eq_getElem_cons hj, List.take_append_drop]
theorem modify_at {α : Type} (f : α → α) : ∀ (A : List α) (e : α) (B : List α), (A ++ e :: B).modify A.length f = A ++ f e :: B
  | [], e, B => by simp
  | a :: A, e, B => by
    simp only [List.cons_append, List.length_cons, List.modify_succ_cons]
    rw [modify_at f A e B]
/-- An entry at a place: the map's list around it. -/
theorem MapR.around {kk : Option IntKind} {m : List (MK × X)} {es : Array MapEntry} {clock : Nat} (h : MapR R kk m es clock) {key : MK} {j : Nat} {e : MapEntry} (hj : es.toList[j]? = some e) (he : e.key = key.val) :
    ∃ A B C D m1 m2 y, es.toList = A ++ e :: B ∧ A.length = j ∧ (C ++ D).Perm (A ++ B) ∧ ZipR R C m1 ∧ ZipR R D m2 ∧ m = m1 ++ (key, y) :: m2 ∧ ∀ p ∈ m1 ++ m2, p.1 ≠ key := by
  obtain ⟨l, hp, hz⟩ := h.zip
  obtain ⟨A, B, hAB, hA⟩ := split_at hj
  have hel : e ∈ l := hp.mem_iff.2 (by rw [hAB]; simp)
  obtain ⟨C, D, rfl⟩ := List.append_of_mem hel
  obtain ⟨m1, p, m2, rfl, g1, g2, g3, g4⟩ := hz.split
  have hpk : p.1 = key := MK.val_inj (g2.symm.trans he)
  refine ⟨A, B, C, D, m1, m2, p.2, hAB, hA, ?_, g1, g4, by rw [← hpk], fun q hq hqk => ?_⟩
  · rw [hAB] at hp
    have h1 : (e :: (C ++ D)).Perm (e :: (A ++ B)) := (List.perm_middle.symm.trans hp).trans List.perm_middle
    exact h1.cons_inv
  · have hn := h.keys
    simp only [List.map_append, List.map_cons] at hn
    rw [List.nodup_append] at hn
    obtain ⟨n1, n2, n3⟩ := hn
    rw [List.nodup_cons] at n2
    rcases List.mem_append.1 hq with hq | hq
    · exact n3 q.1 (List.mem_map_of_mem hq) p.1 (by simp) (by rw [hqk, hpk])
    · exact n2.1 (by rw [hpk, ← hqk]; exact List.mem_map_of_mem hq)
theorem run_setObj {b : Nat} {o o' : Obj} (h : w.heap[b]? = some o) (hn : ∀ c e f, o ≠ .cells c e f) : (setObj b o').run P w = .ok () (putObj w b o') := by
  cases o with
  | cells c e f => exact absurd rfl (hn c e f)
  | _ => simp [setObj, Sem.run, h, putObj]
theorem sameBits_key (a : MK) : Instr.sameBits 10000 a.val a.val = true := by
  cases a with
  | s l => show ((⟨l.toArray⟩ : ByteArray) == ⟨l.toArray⟩) = true
           have e : ((⟨l.toArray⟩ : ByteArray) == ⟨l.toArray⟩) = (l.toArray == l.toArray) := rfl
           rw [e]; simp
  | i k n => simp [MK.val, Instr.sameBits]
theorem MapR.update {kk : Option IntKind} {m : List (MK × X)} {es : Array MapEntry} {clock : Nat} (h : MapR R kk m es clock) {key : MK} {j : Nat} {e : MapEntry} (hj : es.toList[j]? = some e) (he : e.key = key.val) {x : X} {v : Value} (hx : R x v) :
    MapR R kk (mput m key x) (es.modify j fun e => { e with key := key.val, val := v }) clock := by
  obtain ⟨A, B, C, D, m1, m2, y, hAB, hA, hp, z1, z2, hm, hne⟩ := h.around hj he
  have hkind := h.kind
  have hkeys := h.keys
  have hborn := h.born
  have hclock := h.clock
  subst hm
  have hl : (es.modify j fun e => { e with key := key.val, val := v }).toList = A ++ { e with key := key.val, val := v } :: B := by
    rw [Array.toList_modify, hAB]
    subst hA
    exact modify_at _ A e B
  rw [mput_split fun p hp => hne p (List.mem_append_left _ hp)]
  refine ⟨fun p hp => ?_, ⟨C ++ { e with key := key.val, val := v } :: D, ?_, z1.join ⟨(key, x), m2, rfl, rfl, hx, z2⟩⟩, ?_, ?_, fun e' he' => ?_⟩
  · rcases List.mem_append.1 hp with hp | hp
    · exact hkind p (List.mem_append_left _ hp)
    · rcases List.mem_cons.1 hp with rfl | hp
      · exact hkind (key, y) (by simp)
      · exact hkind p (List.mem_append_right _ (List.mem_cons_of_mem _ hp))
  · rw [hl]
    exact (List.perm_middle.trans (hp.cons _)).trans List.perm_middle.symm
  · simpa using hkeys
  · rw [hl]
    rw [hAB] at hborn
    simpa using hborn
  · rw [hl] at he'
    rcases List.mem_append.1 he' with he' | he'
    · exact hclock e' (by rw [hAB]; exact List.mem_append_left _ he')
    · rcases List.mem_cons.1 he' with rfl | he'
      · exact hclock e (by rw [hAB]; simp)
      · exact hclock e' (by rw [hAB]; exact List.mem_append_right _ (List.mem_cons_of_mem _ he'))
theorem MapR.push {kk : Option IntKind} {m : List (MK × X)} {es : Array MapEntry} {clock : Nat} (h : MapR R kk m es clock) {key : MK} (hk : key.kind = kk) (hne : ∀ e ∈ es.toList, e.key ≠ key.val) {x : X} {v : Value} (hx : R x v) :
    MapR R kk (mput m key x) (es.push { key := key.val, val := v, born := clock }) (clock + 1) := by
  obtain ⟨l, hp, hz⟩ := h.zip
  have hnm : ∀ p ∈ m, p.1 ≠ key := fun p hpm e => by
    obtain ⟨e', he', hke, _⟩ := hz.mem' p hpm
    exact hne e' (hp.mem_iff.1 he') (by rw [hke, e])
  rw [mput_new hnm]
  refine ⟨fun p hp => ?_, ⟨l ++ [{ key := key.val, val := v, born := clock }], ?_, hz.join ⟨(key, x), [], rfl, rfl, hx, rfl⟩⟩, ?_, ?_, fun e he => ?_⟩
  · rcases List.mem_append.1 hp with hp | hp
    · exact h.kind p hp
    · simp at hp; subst hp; exact hk
  · rw [Array.toList_push]; exact hp.append_right _
  · simp only [List.map_append, List.map_cons, List.map_nil]
    rw [List.nodup_append]
    refine ⟨h.keys, by simp, fun a ha b hb => ?_⟩
    simp at hb
    subst hb
    obtain ⟨p, hpm, rfl⟩ := List.mem_map.1 ha
    exact hnm p hpm
  · rw [Array.toList_push]
    simp only [List.map_append, List.map_cons, List.map_nil]
    rw [List.nodup_append]
    refine ⟨h.born, by simp, fun a ha b hb => ?_⟩
    simp at hb
    subst hb
    obtain ⟨e, he, rfl⟩ := List.mem_map.1 ha
    have := h.clock e he
    omega
  · rw [Array.toList_push] at he
    rcases List.mem_append.1 he with he | he
    · have := h.clock e he; omega
    · simp at he; subst he; exact Nat.lt_succ_self _
theorem MapR.erase {kk : Option IntKind} {m : List (MK × X)} {es : Array MapEntry} {clock : Nat} (h : MapR R kk m es clock) {key : MK} {j : Nat} {e : MapEntry} (hj : es.toList[j]? = some e) (he : e.key = key.val) :
    MapR R kk (mdel m key) (es.eraseIdxIfInBounds j) clock := by
  obtain ⟨A, B, C, D, m1, m2, y, hAB, hA, hp, z1, z2, hm, hne⟩ := h.around hj he
  have hkind := h.kind
  have hkeys := h.keys
  have hborn := h.born
  have hclock := h.clock
  subst hm
  have hl : (es.eraseIdxIfInBounds j).toList = A ++ B := by
    rw [Array.toList_eraseIdxIfInBounds, hAB]
    subst hA
    simp [List.eraseIdx_append_of_length_le]
  have hd : mdel (m1 ++ (key, y) :: m2) key = m1 ++ m2 := by
    unfold mdel
    rw [List.filter_append, List.filter_cons]
    simp only [ne_eq, not_true_eq_false, decide_false, Bool.false_eq_true, if_false]
    rw [← List.filter_append, List.filter_eq_self]
    intro p hp
    simpa using hne p hp
  rw [hd]
  refine ⟨fun p hp => hkind p ?_, ⟨C ++ D, by rw [hl]; exact hp, z1.join z2⟩, ?_, ?_, fun e' he' => hclock e' ?_⟩
  · rcases List.mem_append.1 hp with hp | hp
    · exact List.mem_append_left _ hp
    · exact List.mem_append_right _ (List.mem_cons_of_mem _ hp)
  · refine List.Sublist.nodup ?_ hkeys
    simp only [List.map_append, List.map_cons]
    exact List.Sublist.append (List.Sublist.refl _) (List.sublist_cons_self _ _)
  · rw [hl]
    rw [hAB] at hborn
    refine List.Sublist.nodup ?_ hborn
    simp only [List.map_append, List.map_cons]
    exact List.Sublist.append (List.Sublist.refl _) (List.sublist_cons_self _ _)
  · rw [hl] at he'
    rw [hAB]
    rcases List.mem_append.1 he' with he' | he'
    · exact List.mem_append_left _ he'
    · exact List.mem_append_right _ (List.mem_cons_of_mem _ he')
end
section
variable {X : Type} {R : X → Value → Prop} {kk : Option IntKind} {m0 : List (MK × X)} {es : Array MapEntry} {clock b t kt et : Nat} {key : MK}
theorem upd_run {x : X} {vx : Value} (hu : P.underlying t = some (.map kt et)) (huk : P.underlying kt = some (keyDesc kk)) (hkk : key.kind = kk) (hx : R x vx) (g6 : w.heap[b]? = some (.map es clock)) (g7 : MapR R kk m0 es clock) :
    ∃ es' clock', (Instr.mapUpdate t (.map (some b)) key.val vx).run P w = .ok () (putObj w b (.map es' clock')) ∧ MapR R kk (mput m0 key x) es' clock' := by
  have hobj := run_getObj (P := P) g6 (fun _ _ _ => by simp)
  have hck := run_checkKey (P := P) (w := w) false 9999 huk hkk
  rcases g7.find hkk with ⟨f1, f2, f3⟩ | ⟨z, j, e, f1, f2, f3, f4, f5⟩
  · have hfk := run_findKey (P := P) (w := w) huk f2
    have hset := run_setObj (P := P) (o' := .map (es.push { key := key.val, val := vx, born := clock }) (clock + 1)) g6 (fun _ _ _ => by simp)
    exact ⟨_, _, by simp [Instr.mapUpdate, run_underlying hu, hobj, hck, hfk, hset], g7.push hkk f3 hx⟩
  · have hfk := run_findKey (P := P) (w := w) huk f2
    have hset := run_setObj (P := P) (o' := .map (es.modify j fun e => { e with key := key.val, val := vx }) clock) g6 (fun _ _ _ => by simp)
    have hej : es[j]? = some e := by simpa using f3
    have hstay : (Instr.keyThatStays (((es[j]?).map (·.key)).getD key.val) key.val).run P w = .ok key.val w := by
      simp [Instr.keyThatStays, hej, f4, sameBits_key]
    refine ⟨_, _, ?_, g7.update f3 f4 hx⟩
    simp only [Instr.mapUpdate, Sem.run_bind, run_underlying hu, Result.andThen_ok, hobj, hck, hfk, hstay, hset]
theorem del_run {ts : List TypeId} {ty : TypeId} (hu : P.underlying t = some (.map kt et)) (huk : P.underlying kt = some (keyDesc kk)) (hkk : key.kind = kk) (g6 : w.heap[b]? = some (.map es clock)) (g7 : MapR R kk m0 es clock) :
    ∃ es', (Builtin.delete_ (t :: ts).toArray ty #[.map (some b), key.val]).run P w = .ok (.tuple #[]) (putObj w b (.map es' clock)) ∧ MapR R kk (mdel m0 key) es' clock := by
  have hobj := run_getObj (P := P) g6 (fun _ _ _ => by simp)
  have hck := run_checkKey (P := P) (w := w) es.isEmpty 9999 huk hkk
  rcases g7.find hkk with ⟨f1, f2, f3⟩ | ⟨z, j, e, f1, f2, f3, f4, f5⟩
  · have hfk := run_findKey (P := P) (w := w) huk f2
    have hset := run_setObj (P := P) (o' := .map es clock) g6 (fun _ _ _ => by simp)
    have hd : mdel m0 key = m0 := by
      unfold mdel
      rw [List.filter_eq_self]
      intro p hp
      simpa using mfind_none f1 p hp
    exact ⟨es, by simp [Builtin.delete_, run_underlying hu, hobj, hck, hfk, hset], by rw [hd]; exact g7⟩
  · have hfk := run_findKey (P := P) (w := w) huk f2
    have hset := run_setObj (P := P) (o' := .map (es.eraseIdxIfInBounds j) clock) g6 (fun _ _ _ => by simp)
    exact ⟨_, by simp [Builtin.delete_, run_underlying hu, hobj, hck, hfk, hset], g7.erase f3 f4⟩
end
theorem updW_ok (hT : TOk P T) (hS : SR ρ ι H w) (t : TypeId) (m k x : AV) {vm vk vx : Value} (hm : m.R ρ ι vm) (hk : k.R ρ ι vk) (hx : x.R ρ ι vx) {cs : List Cnd} {r : AV} {H' : AH} (h : updW T H t m k x = some (cs, r, H')) :
    ∃ w', (Instr.mapUpdate t vm vk vx).run P w = .ok () w' ∧ r = .junk ∧ SR ρ ι H' w' ∧ Went ρ ι H w ρ ι H' w' := by
  unfold updW at h
  split at h
  · rename_i key h0 hkey
    obtain ⟨kt, et, hu, huk, hka⟩ := mapKey_spec hT hkey
    have hvk := keyA_spec hk hka
    subst hvk
    simp only [AV.R] at hm
    obtain ⟨hv, b, g1, g2, rfl⟩ := hm
    split at h
    · rename_i kk es0 hg
      split at h
      · rename_i y hy
        split at h
        · rename_i hkk
          simp only [Option.some.injEq, Prod.mk.injEq] at h
          obtain ⟨rfl, rfl, rfl⟩ := h
          have hyx : IV.R ι y vx := toIV2_spec hy hx
          obtain ⟨hv', g3, b', es, clock, g4, g5, g6, g7⟩ := hS.hv hg
          rw [g1] at g3
          injection g3 with g3
          subst g3
          rw [g2] at g4
          injection g4 with g4
          subst g4
          rw [hkk] at huk
          obtain ⟨es', clock', q1, q2⟩ := upd_run (P := P) hu huk hkk hyx g6 g7
          obtain ⟨s1, s2⟩ := hS.put hg g1 g5 (.map es' clock') (c' := .map kk (mput es0 key y)) ⟨b, _, _, g2, g5, putObj_same g6, q2⟩
          exact ⟨_, q1, rfl, s1, s2⟩
        · cases h
      · cases h
    · rename_i kk es0 hg
      split at h
      · rename_i hkk
        simp only [Option.some.injEq, Prod.mk.injEq] at h
        obtain ⟨rfl, rfl, rfl⟩ := h
        obtain ⟨hv', g3, b', es, clock, g4, g5, g6, g7⟩ := hS.hv hg
        rw [g1] at g3
        injection g3 with g3
        subst g3
        rw [g2] at g4
        injection g4 with g4
        subst g4
        rw [hkk] at huk
        obtain ⟨es', clock', q1, q2⟩ := upd_run (P := P) (R := AV.R ρ ι) hu huk hkk hx g6 g7
        obtain ⟨s1, s2⟩ := hS.put hg g1 g5 (.map es' clock') (c' := .maph kk (mput es0 key x)) ⟨b, _, _, g2, g5, putObj_same g6, q2⟩
        exact ⟨_, q1, rfl, s1, s2⟩
      · cases h
    · cases h
  · cases h
theorem delW_ok (hT : TOk P T) (hS : SR ρ ι H w) (t : TypeId) (ts : List TypeId) (ty : TypeId) (m k : AV) {vm vk : Value} (hm : m.R ρ ι vm) (hk : k.R ρ ι vk) {cs : List Cnd} {r : AV} {H' : AH} (h : delW T H t m k = some (cs, r, H')) :
    ∃ w', (Builtin.delete_ (t :: ts).toArray ty #[vm, vk]).run P w = .ok (.tuple #[]) w' ∧ r = .junk ∧ SR ρ ι H' w' ∧ Went ρ ι H w ρ ι H' w' := by
  unfold delW at h
  split at h
  · rename_i key h0 hkey
    obtain ⟨kt, et, hu, huk, hka⟩ := mapKey_spec hT hkey
    have hvk := keyA_spec hk hka
    subst hvk
    simp only [AV.R] at hm
    obtain ⟨hv, b, g1, g2, rfl⟩ := hm
    split at h
    · rename_i kk es0 hg
      split at h
      · rename_i hkk
        simp only [Option.some.injEq, Prod.mk.injEq] at h
        obtain ⟨rfl, rfl, rfl⟩ := h
        obtain ⟨hv', g3, b', es, clock, g4, g5, g6, g7⟩ := hS.hv hg
        rw [g1] at g3
        injection g3 with g3
        subst g3
        rw [g2] at g4
        injection g4 with g4
        subst g4
        rw [hkk] at huk
        obtain ⟨es', q1, q2⟩ := del_run (P := P) (ts := ts) (ty := ty) hu huk hkk g6 g7
        obtain ⟨s1, s2⟩ := hS.put hg g1 g5 (.map es' clock) (c' := .map kk (mdel es0 key)) ⟨b, _, _, g2, g5, putObj_same g6, q2⟩
        exact ⟨_, q1, rfl, s1, s2⟩
      · cases h
    · rename_i kk es0 hg
      split at h
      · rename_i hkk
        simp only [Option.some.injEq, Prod.mk.injEq] at h
        obtain ⟨rfl, rfl, rfl⟩ := h
        obtain ⟨hv', g3, b', es, clock, g4, g5, g6, g7⟩ := hS.hv hg
        rw [g1] at g3
        injection g3 with g3
        subst g3
        rw [g2] at g4
        injection g4 with g4
        subst g4
        rw [hkk] at huk
        obtain ⟨es', q1, q2⟩ := del_run (P := P) (R := AV.R ρ ι) (ts := ts) (ty := ty) hu huk hkk g6 g7
        obtain ⟨s1, s2⟩ := hS.put hg g1 g5 (.map es' clock) (c' := .maph kk (mdel es0 key)) ⟨b, _, _, g2, g5, putObj_same g6, q2⟩
        exact ⟨_, q1, rfl, s1, s2⟩
      · cases h
    · cases h
  · cases h
end
end Go.Proofs.Yteeifedpabcehaa.Bm

namespace Go.Proofs.Yteeifedpabcehaa.Bm
open Go.RowKit

def isMp (d : TD) : Bool := match d.k with | .mp .. => true | _ => false
def rangeW (T : TT) (H : AH) (t : TypeId) (x : AV) : WOut :=
  match T.get t, x with
  | some d, .mp h => bif isMp d then
      match H.get h with
      | some (.map kk m) => some ([], .ptr H.next 0, ⟨H.next + 1, (H.set h (.mapit kk m (m.map (·.1)) H.next)).ch⟩)
      | _ => none
    else none
  | _, _ => none
/-- A block about which nothing is said. -/
def blankS : SemP := ⟨fun _ _ _ => True, fun _ _ _ _ _ _ _ _ => trivial⟩
theorem AH.del_add {H : AH} (c : Chunk) (h : ∀ p ∈ H.ch, p.1 ≠ H.next) : ((H.add c).del H.next).ch = H.ch := by
  unfold AH.add AH.del
  simp only
  have key : ∀ l : List (Nat × Chunk), (∀ p ∈ l, p.1 ≠ H.next) → AH.del.go H.next (l ++ [(H.next, c)]) = l := by
    intro l
    induction l with
    | nil => intro _; simp [AH.del.go]
    | cons p ps ih =>
      intro hp
      have h1 : Nat.beq p.1 H.next = false := by rw [Bool.eq_false_iff]; simpa using hp p (List.mem_cons_self ..)
      simp only [List.cons_append, AH.del.go, h1, cond_false]
      rw [ih fun q hq => hp q (List.mem_cons_of_mem _ hq)]
  exact key H.ch h
theorem AH.get_add_old {H : AH} {c d : Chunk} {h : Nat} (hc : H.get h = some c) : (H.add d).get h = some c := by
  unfold AH.get AH.add at *
  simp only
  generalize H.ch = l at hc
  induction l with
  | nil => cases hc
  | cons p ps ih =>
    simp only [List.cons_append, AH.get.go] at hc ⊢
    cases hb : Nat.beq p.1 h with
    | true => rw [hb] at hc; exact hc
    | false => rw [hb] at hc; exact ih hc
theorem AH.get_add_new {H : AH} {d : Chunk} (h : ∀ p ∈ H.ch, p.1 ≠ H.next) : (H.add d).get H.next = some d := by
  unfold AH.get AH.add
  simp only
  generalize H.ch = l at h
  induction l with
  | nil => simp [AH.get.go]
  | cons p ps ih =>
    have h1 : Nat.beq p.1 H.next = false := by rw [Bool.eq_false_iff]; simpa using h p (List.mem_cons_self ..)
    simp only [List.cons_append, AH.get.go, h1, cond_false]
    exact ih fun q hq => h q (List.mem_cons_of_mem _ hq)
section
variable {ρ : Rho} {ι : Imm} {P : Program} {w : World} {T : TT} {H : AH}
theorem SR.key_ne (hS : SR ρ ι H w) : ∀ p ∈ H.ch, p.1 ≠ H.next := fun p hp e => by
  obtain ⟨hv, h1, _⟩ := hS.rel p hp
  rw [e, hS.fresh _ (Nat.le_refl _)] at h1
  cases h1
theorem rangeW_ok (hT : TOk P T) (hS : SR ρ ι H w) (t : TypeId) (x : AV) {v : Value} (hx : x.R ρ ι v) {cs : List Cnd} {r : AV} {H' : AH} (h : rangeW T H t x = some (cs, r, H')) :
    ∃ u w' ρ', (Instr.range t v).run P w = .ok u w' ∧ r.R ρ' ι u ∧ SR ρ' ι H' w' ∧ Went ρ ι H w ρ' ι H' w' := by
  unfold rangeW at h
  split at h
  · rename_i d h0 hd
    cases hb : isMp d with
    | false => rw [hb] at h; cases h
    | true =>
      rw [hb] at h
      simp only [cond_true] at h
      split at h
      · rename_i kk m hg
        simp only [Option.some.injEq, Prod.mk.injEq] at h
        obtain ⟨rfl, rfl, rfl⟩ := h
        have hk : ∃ k e, d.k = .mp k e := by
          unfold isMp at hb
          split at hb
          · exact ⟨_, _, by assumption⟩
          · cases hb
        obtain ⟨k, e, hk⟩ := hk
        have hu := td_mp hT hd hk
        simp only [AV.R] at hx
        obtain ⟨hv, b, g1, g2, rfl⟩ := hx
        obtain ⟨hv', g3, b', es, clock, g4, g5, g6, g7⟩ := hS.hv hg
        rw [g1] at g3
        injection g3 with g3
        subst g3
        rw [g2] at g4
        injection g4 with g4
        subst g4
        have hobj := run_getObj (P := P) g6 (fun _ _ _ => by simp)
        have hblt : b < w.heap.size := (Array.getElem?_eq_some_iff.1 g6).1
        have hne := hS.key_ne
        have hlt := hS.key_lt g1
        let o : Obj := .mapIter (some b) clock #[] clock
        obtain ⟨s1, s2⟩ := hS.add (w' := w.alloc o) (.sem blankS) (one1 w.heap.size 0) (touch_alloc w o) (fun k hk => by have : k = w.heap.size := hk; subst this; exact ⟨Nat.le_refl _, by simp⟩) trivial
        have c1 := AH.get_add_old (d := .sem blankS) hg
        have c2 := AH.get_add_new (d := .sem blankS) hne
        have r1 : (ρ.upd H.next (one1 w.heap.size 0)) h0 = some hv := Rho.upd_old (hS.fresh _ (Nat.le_refl _)) g1
        have r2 := Rho.upd_same ρ H.next (one1 w.heap.size 0)
        have hnew : (w.alloc o).heap[w.heap.size]? = some o := by
          show (w.heap.push o)[w.heap.size]? = some o
          simp
        have hold : (w.alloc o).heap[b]? = some (.map es clock) := (heap_alloc_old w o hblt).trans g6
        obtain ⟨j1, j2⟩ := s1.join (k := h0) (i := H.next) (c' := .mapit kk m (m.map (·.1)) H.next) (by omega) c1 c2 r1 r2 (fun ρ' hle => by
          obtain ⟨hi, q1, q2, _⟩ := hle _ _ r2
          refine ⟨b, w.heap.size, hi, es, clock, clock, #[], clock, g2, q1, q2, by omega, fun k => ?_, hold, hnew, g7, Nat.le_refl _, fun e he => g7.clock e he, fun e he => ?_⟩
          · exact or_congr (g5 k) Iff.rfl
          · refine ⟨fun _ => ?_, fun _ => by simp⟩
            obtain ⟨l, hp, hz⟩ := g7.zip
            obtain ⟨p, hpm, hkey, _⟩ := hz.mem e (hp.mem_iff.2 he)
            exact ⟨p.1, List.mem_map_of_mem hpm, hkey⟩)
        have hH : ((H.add (.sem blankS)).del H.next).set h0 (.mapit kk m (m.map (·.1)) H.next) = ⟨H.next + 1, (H.set h0 (.mapit kk m (m.map (·.1)) H.next)).ch⟩ := by
          unfold AH.set
          rw [AH.del_add _ hne]
          rfl
        rw [hH] at j1 j2
        refine ⟨.pointer (some ⟨w.heap.size, 0, none⟩), w.alloc o, _, ?_, ?_, j1, s2.trans j2⟩
        · simp [Instr.range, run_underlying hu, hobj, o]
        · simp only [AV.R]
          have hne2 : H.next ≠ h0 := by omega
          exact ⟨one1 w.heap.size 0, w.heap.size, (Rho.refoot_other hne2).trans r2, rfl, rfl⟩
      · cases h
  · cases h
def keyAV : MK → AV
  | .s l => .str l
  | .i k n => .int k n
theorem keyAV_R (k : MK) : (keyAV k).R ρ ι k.val := by cases k <;> simp [keyAV, MK.val, AV.R, IV.R]
/-- The map that an iterator goes through, and the keys that are left. -/
def iterOf (i : Nat) : List (Nat × Chunk) → Option (Nat × Option IntKind × List (MK × IV) × List MK)
  | [] => none
  | p :: ps => match p.2 with
    | .mapit kk m left j => bif Nat.beq j i then some (p.1, kk, m, left) else iterOf i ps
    | _ => iterOf i ps
theorem iterOf_mem {i : Nat} {h : Nat} {kk : Option IntKind} {m : List (MK × IV)} {left : List MK} : ∀ {l : List (Nat × Chunk)}, iterOf i l = some (h, kk, m, left) → (h, .mapit kk m left i) ∈ l
  | [], e => by cases e
  | p :: ps, e => by
    unfold iterOf at e
    split at e
    · rename_i kk' m' left' j hp
      cases hb : Nat.beq j i with
      | true =>
        rw [hb] at e
        have := Nat.eq_of_beq_eq_true hb
        subst this
        simp only [cond_true, Option.some.injEq, Prod.mk.injEq] at e
        obtain ⟨rfl, rfl, rfl, rfl⟩ := e
        rw [← hp]
        exact List.mem_cons_self ..
      | false => rw [hb] at e; exact List.mem_cons_of_mem _ (iterOf_mem e)
    · exact List.mem_cons_of_mem _ (iterOf_mem e)
theorem zip_inj {X : Type} {R : X → Value → Prop} : ∀ {l : List MapEntry} {m : List (MK × X)}, ZipR R l m → (m.map (·.1)).Nodup → (l.map (·.key)).Nodup
  | [], _, _, _ => List.nodup_nil
  | e :: es, m, h, hn => by
    obtain ⟨p, ps, rfl, h1, h2, h3⟩ := h
    simp only [List.map_cons, List.nodup_cons] at hn ⊢
    refine ⟨fun hm => hn.1 ?_, zip_inj h3 hn.2⟩
    obtain ⟨e', he', e1⟩ := List.mem_map.1 hm
    obtain ⟨q, hq, hqk, _⟩ := h3.mem e' he'
    have : q.1 = p.1 := MK.val_inj (by rw [← hqk, e1, h1])
    exact this ▸ List.mem_map_of_mem hq
theorem nodup_inj {α β : Type} {f : α → β} {l : List α} (h : (l.map f).Nodup) {a b : α} (ha : a ∈ l) (hb : b ∈ l) (e : f a = f b) : a = b := by
  induction l with
  | nil => cases ha
  | cons x xs ih =>
    simp only [List.map_cons, List.nodup_cons] at h
    rcases List.mem_cons.1 ha with ea | ha' <;> rcases List.mem_cons.1 hb with eb | hb'
    · rw [ea, eb]
    · refine absurd ?_ h.1
      rw [← ea, e]; exact List.mem_map_of_mem hb'
    · refine absurd ?_ h.1
      rw [← eb, ← e]; exact List.mem_map_of_mem ha'
    · exact ih h.2 ha' hb'
theorem MapR.key_inj {X : Type} {R : X → Value → Prop} {kk : Option IntKind} {m : List (MK × X)} {es : Array MapEntry} {clock : Nat} (h : MapR R kk m es clock) {e e' : MapEntry} (he : e ∈ es.toList) (he' : e' ∈ es.toList) (hk : e.key = e'.key) : e = e' := by
  obtain ⟨l, hp, hz⟩ := h.zip
  exact nodup_inj ((hp.map _).nodup_iff.1 (zip_inj hz h.keys)) he he' hk
theorem MapR.born_inj {X : Type} {R : X → Value → Prop} {kk : Option IntKind} {m : List (MK × X)} {es : Array MapEntry} {clock : Nat} (h : MapR R kk m es clock) {e e' : MapEntry} (he : e ∈ es.toList) (he' : e' ∈ es.toList) (hk : e.born = e'.born) : e = e' := nodup_inj h.born he he' hk
/-- One step of an iterator. -/
theorem next_run {b it since last clock : Nat} {seen : Array Nat} {es : Array MapEntry} (ty : TypeId) (h1 : w.heap[it]? = some (.mapIter (some b) since seen last)) (h2 : w.heap[b]? = some (.map es clock)) (hs : since ≤ last) (h3 : ∀ e ∈ es.toList, e.born < since) :
    (∃ e w1, e ∈ es.toList ∧ e.born ∉ seen.toList ∧ (w1 = w ∨ w1 = w.drew) ∧ (Instr.next (.pointer (some ⟨it, 0, none⟩)) false ty).run P w = .ok (.tuple #[.bool true, e.key, e.val]) (putObj w1 it (.mapIter (some b) since (seen.push e.born) clock))) ∨
    ((∀ e ∈ es.toList, e.born ∈ seen.toList) ∧ (Instr.next (.pointer (some ⟨it, 0, none⟩)) false ty).run P w = .ok (.tuple #[.bool false]) w) := by
  have hl : ∀ e, e ∈ (leftOf es seen).toList ↔ e ∈ es.toList ∧ e.born ∉ seen.toList := by
    intro e
    simp [leftOf]
  rcases run_next_at (P := P) w ty it b since last seen es clock h1 h2 h3 hs with ⟨g1, g2⟩ | ⟨e, g1, w1, g2, g3⟩
  · refine .inr ⟨fun e he => ?_, g2⟩
    refine Classical.byContradiction fun hn => ?_
    have := (hl e).2 ⟨he, hn⟩
    have h0 : leftOf es seen = #[] := Array.eq_empty_of_size_eq_zero g1
    rw [h0] at this
    simp at this
  · exact .inl ⟨e, w1, ((hl e).1 g1).1, ((hl e).1 g1).2, g2, g3⟩
end
end Go.Proofs.Yteeifedpabcehaa.Bm

namespace Go.Proofs.Yteeifedpabcehaa.Bm
open Go.RowKit

section
variable {ρ : Rho} {ι : Imm} {P : Program} {w : World} {T : TT} {H : AH}
theorem app_room {t t2 ty e : TypeId} {u2 : TypeDesc} (ht : P.underlying t = some (.slice e)) (h2 : P.underlying t2 = some u2) (hn : (∃ e2, u2 = .slice e2) ∨ u2 = .string) {i : TypeInfo} (hi : P.info? e = some i) (A : Option Addr) (len cap : Nat) (x : Value) (m : Nat) (news : Array Value)
    (hlen : (Builtin.lenOf x).run P w = .ok m w) (hf : (Builtin.firstCells i.size m x).run P w = .ok news w) (hroom : len + m ≤ cap) (w' : World) (hst : ∀ a, A = some a → (storeCells (a.add (len * i.size)) news.toList).run P w = .ok () w') (hnone : A = none → w' = w) :
    (Builtin.append_ #[t, t2] ty #[.slice A len cap, x]).run P w = .ok (.slice A (len + m) cap) w' := by
  cases A with
  | none =>
    have := hnone rfl
    subst this
    rcases hn with ⟨e2, rfl⟩ | rfl
    · simp [Builtin.append_, run_underlying ht, run_underlying h2, sizeOf, typeInfo, hi, hlen, hroom, hf]
    · simp [Builtin.append_, run_underlying ht, run_underlying h2, sizeOf, typeInfo, hi, hlen, hroom, hf]
  | some a =>
    have hs := hst a rfl
    rcases hn with ⟨e2, rfl⟩ | rfl
    · simp [Builtin.append_, run_underlying ht, run_underlying h2, sizeOf, typeInfo, hi, hlen, hroom, hf, hs]
    · simp [Builtin.append_, run_underlying ht, run_underlying h2, sizeOf, typeInfo, hi, hlen, hroom, hf, hs]
theorem app_grow {t t2 ty e : TypeId} {u2 : TypeDesc} (ht : P.underlying t = some (.slice e)) (h2 : P.underlying t2 = some u2) (hn : (∃ e2, u2 = .slice e2) ∨ u2 = .string) {i : TypeInfo} {z : Value} (hi : P.info? e = some i) (hz : i.zero = some z) (A : Option Addr) (len cap : Nat) (x : Value) (m : Nat) (olds news : Array Value)
    (hlen : (Builtin.lenOf x).run P w = .ok m w) (hfo : (Builtin.firstCells i.size len (.slice A len cap)).run P w.drew = .ok olds w.drew) (hf : (Builtin.firstCells i.size m x).run P w.drew = .ok news w.drew) (hg : cap < len + m) (h63 : len + m ≤ 9223372036854775807) (hfit : Builtin.nextslicecap (len + m) cap * i.bytes ≤ 281474976710656) :
    (Builtin.append_ #[t, t2] ty #[.slice A len cap, x]).run P w = .ok (.slice (some ⟨w.heap.size, 0, none⟩) (len + m) (grownCap w (len + m) cap e))
      (w.drew.alloc (.cells (olds ++ news ++ Builtin.zeroCells z.cells (grownCap w (len + m) cap e - (len + m))) e)) := by
  have hn' : ¬ (len + m ≤ cap) := by omega
  have h63' : ¬ (9223372036854775807 < ((len : Int) + (m : Int))) := by omega
  have h48' : ¬ (281474976710656 < Builtin.nextslicecap (len + m) cap * i.bytes) := by omega
  rcases hn with ⟨e2, rfl⟩ | rfl
  · simp [Builtin.append_, run_underlying ht, run_underlying h2, sizeOf, typeInfo, zeroValue, hi, hz, hlen, hn', h63', h48', Question.forced, hf, hfo, newRow, grownCap]
  · simp [Builtin.append_, run_underlying ht, run_underlying h2, sizeOf, typeInfo, zeroValue, hi, hz, hlen, hn', h63', h48', Question.forced, hf, hfo, newRow, grownCap]
/-- The cells that are added. -/
structure News (P : Program) (w : World) (size : Nat) (x : Value) (m : Nat) (news : List Value) : Prop where
  lenR : (Builtin.lenOf x).run P w = .ok m w
  first : (Builtin.firstCells size m x).run P w = .ok news.toArray w
  firstD : (Builtin.firstCells size m x).run P w.drew = .ok news.toArray w.drew
  many : news.length = m * size
  one : ∀ v ∈ news, v.oneCell' = true
theorem News.of_cells {size m c : Nat} {B : Option Addr} {news : List Value} (hl : news.length = m * size) (h1 : ∀ v ∈ news, v.oneCell' = true) (hc : ∀ j u, news[j]? = some u → ∃ ad, B = some ad ∧ ad.spot = none ∧ w.cell? ⟨ad.block, ad.off + j, none⟩ = some u) : News P w size (.slice B m c) m news := by
  cases B with
  | none =>
    have : news = [] := by
      cases news with
      | nil => rfl
      | cons u us => obtain ⟨_, e, _⟩ := hc 0 u rfl; cases e
    subst this
    exact ⟨by simp [Builtin.lenOf], by simp [Builtin.firstCells], by simp [Builtin.firstCells], hl, h1⟩
  | some ad =>
    have hc' : ∀ j v, news[j]? = some v → w.cell? (ad.add j) = some v := fun j v hv => by
      obtain ⟨ad', e, s, r⟩ := hc j v hv
      injection e with e
      subst e
      rw [add_none' s]; exact r
    exact ⟨by simp [Builtin.lenOf], run_firstCells_some w size m ad m c news hl hc', run_firstCells_some w.drew size m ad m c news hl (by simpa using hc'), hl, h1⟩
/-- The row's cells, as they lie at the head of its block. -/
structure Olds (w : World) (size len : Nat) (A : Option Addr) (cap : Nat) (hv : HV) (e : TypeId) (olds : List Value) : Prop where
  le : len ≤ cap
  max : cap ≤ maxLen
  many : olds.length = len * size
  at_ : cap ≠ 0 → ∃ (b : Nat) (arr : Array Value) (fr : Nat × Nat), hv.blk = some b ∧ A = some ⟨b, 0, none⟩ ∧ cap * size ≤ hv.room ∧ w.heap[b]? = some (.cells arr e fr) ∧ arr.size = hv.room ∧ FrOk fr arr.size ∧ (∀ k, hv.foot k ↔ k = b) ∧ ∀ (j : Nat) (u : Value), olds[j]? = some u → arr[j]? = some u
/-- **append**: a row's cells and new ones, in place or in a new block. -/
theorem app_any (hT : TOk P T) {t t2 ty e : TypeId} {de : TD} {u2 : TypeDesc} (he : elemOfT T t = some (e, de)) (h2 : P.underlying t2 = some u2) (hn : (∃ e2, u2 = .slice e2) ∨ u2 = .string) (hz : (zeroA de).isSome = true) (_ : de.size ≠ 0) (hzl : ∀ z, de.zero = some z → z.cells.size = de.size)
    {A : Option Addr} {len cap m : Nat} {x : Value} {hv : HV} {olds news : List Value} (ho : Olds w de.size len A cap hv e olds) (hx : News P w de.size x m news) (hbytes : (len + m) * de.bytes ≤ 140737488355328) (hmany : len + m ≤ 140737488355328) :
    ∃ A' cap' w', (Builtin.append_ #[t, t2] ty #[.slice A len cap, x]).run P w = .ok (.slice A' (len + m) cap') w' ∧ len + m ≤ cap' ∧ cap' ≤ maxLen ∧
      ((len + m ≤ cap ∧ A' = A ∧ cap' = cap ∧ ((cap = 0 ∧ w' = w) ∨ ∃ (b : Nat) (arr : Array Value) (fr : Nat × Nat), hv.blk = some b ∧ A = some ⟨b, 0, none⟩ ∧ cap * de.size ≤ hv.room ∧ arr.size = hv.room ∧ FrOk fr arr.size ∧ w.heap[b]? = some (.cells arr e fr) ∧ (∀ k, hv.foot k ↔ k = b) ∧ w' = putObj w b (.cells (layArr arr (len * de.size) news) e fr) ∧ ∀ (j : Nat) (u : Value), olds[j]? = some u → arr[j]? = some u)) ∨
       (A' = some ⟨w.heap.size, 0, none⟩ ∧ ∃ rest : List Value, w' = w.drew.alloc (.cells (olds ++ news ++ rest).toArray e) ∧ (olds ++ news ++ rest).length = cap' * de.size)) := by
  obtain ⟨hu, hde⟩ := elemOfT_spec hT he
  obtain ⟨i, hi1, hi2, hi3, hi4⟩ := td_info hT hde
  obtain ⟨zs, hzs⟩ := Option.isSome_iff_exists.1 hz
  obtain ⟨z, hz1, _⟩ := zeroA_spec hzs
  have hzc := hzl z hz1
  by_cases hroom : len + m ≤ cap
  · by_cases hc0 : cap = 0
    · have hm0 : m = 0 := by omega
      have hnews : news = [] := List.eq_nil_of_length_eq_zero (by rw [hx.many, hm0]; simp)
      refine ⟨A, cap, w, app_room hu h2 hn hi1 A len cap x m news.toArray hx.lenR (by rw [hi2]; exact hx.first) hroom w (fun a _ => by rw [hnews]; rfl) (fun _ => rfl), hroom, ho.max, .inl ⟨hroom, rfl, rfl, .inl ⟨hc0, rfl⟩⟩⟩
    · obtain ⟨b, arr, fr, q1, q2, q3, q4, q5, q6, q7, q8⟩ := ho.at_ hc0
      have hfit : len * de.size + news.length ≤ arr.size := by
        rw [hx.many, ← Nat.add_mul, q5]
        exact Nat.le_trans (Nat.mul_le_mul_right _ hroom) q3
      have hst := run_stores (P := P) (b := b) (e := e) (fr := fr) (len * de.size) news 0 arr w q4 q6 (by simpa using hfit) hx.one
      rw [Nat.add_zero] at hst
      refine ⟨A, cap, _, app_room hu h2 hn hi1 A len cap x m news.toArray hx.lenR (by rw [hi2]; exact hx.first) hroom (putObj w b (.cells (layArr arr (len * de.size) news) e fr)) (fun a ha => ?_) (fun h => by rw [q2] at h; cases h), hroom, ho.max, .inl ⟨hroom, rfl, rfl, .inr ⟨b, arr, fr, q1, q2, q3, q5, q6, q4, q7, rfl, q8⟩⟩⟩
      rw [q2] at ha
      injection ha with ha
      subst ha
      rw [add_none, hi2, Nat.zero_add]
      exact hst
  · have hfo : (Builtin.firstCells i.size len (.slice A len cap)).run P w.drew = .ok olds.toArray w.drew := by
      rw [hi2]
      by_cases hc0 : cap = 0
      · have hl0 : len = 0 := by have := ho.le; omega
        have holds : olds = [] := List.eq_nil_of_length_eq_zero (by rw [ho.many, hl0]; simp)
        subst hl0
        subst holds
        cases A with
        | none => simp [Builtin.firstCells]
        | some a => simp [Builtin.firstCells, loadCells, loadCellsFrom]
      · obtain ⟨b, arr, fr, q1, q2, q3, q4, q5, q6, q7, q8⟩ := ho.at_ hc0
        subst q2
        refine run_firstCells_some w.drew de.size len ⟨b, 0, none⟩ len cap olds ho.many (fun j v hv => ?_)
        rw [add_none, Nat.zero_add, World.cell?_drew, heap_cell q4]
        exact q8 j v hv
    have hfit := growslice_fits (need := len + m) (old := cap) (bytes := i.bytes) (by omega) (by rw [hi3]; exact hbytes)
    have hrun := app_grow (ty := ty) hu h2 hn hi1 (by rw [hi4]; exact hz1) A len cap x m olds.toArray news.toArray hx.lenR hfo (by rw [hi2]; exact hx.firstD) (by omega) (by omega) hfit
    have hge := grownCap_ge w (len + m) cap e
    have hle := grownCap_le_maxLen w (len + m) cap e (by unfold maxLen; omega)
    refine ⟨_, _, _, hrun, hge, hle, .inr ⟨rfl, (Builtin.zeroCells z.cells (grownCap w (len + m) cap e - (len + m))).toList, ?_, ?_⟩⟩
    · congr 2
      apply Array.ext'
      simp
    · rw [List.length_append, List.length_append, ho.many, hx.many, Array.length_toList, size_zeroCells, hzc, ← Nat.add_mul, ← Nat.add_mul]
      congr 1
      omega
end
end Go.Proofs.Yteeifedpabcehaa.Bm

namespace Go.Proofs.Yteeifedpabcehaa.Bm
open Go.RowKit

/-- What is appended to bytes. -/
def srcB (H : AH) (x : AV) : Option (List Cnd × List UInt8) :=
  match x with
  | .iv (.str l) => some ([.nle l.length 140737488355328], l)
  | x => (H.bytes x).map fun l => (H.bytesOk x, l)
/-- What is appended to a row of elements. -/
def srcR (H : AH) (sz : Nat) (x : AV) : Option (List Cnd × Nat × (Nat → List IV)) :=
  match x with
  | .iv (.sl s m g) => bif Nat.beq s sz then some ([], m, g) else none
  | .iv (.v (.slice none 0 0)) => some ([], 0, fun _ => [])
  | .row h s off m => match H.get h with
    | some (.rowc _ s' n f) => bif Nat.beq s sz && Nat.beq s' sz then some ([.nle (off + m) n], m, bif Nat.beq off 0 then f else fun i => f (off + i)) else none
    | _ => none
  | _ => none
def isSeq (d : TD) : Bool := match d.k with | .sl _ | .str => true | _ => false
def zeroFits (d : TD) : Bool := match zeroA d with | some z => Nat.beq z.length d.size | none => false
def appW (T : TT) (H : AH) (t t2 : TypeId) (s x : AV) : WOut :=
  match elemOfT T t, T.get t2 with
  | some (e, de), some d2 =>
    bif isSeq d2 && zeroFits de && !(Nat.beq de.size 0) then
      bif isByte de then
        match srcB H x, s with
        | some (c, l), .iv (.v (.slice none 0 0)) => some (c ++ [.nle l.length 140737488355328], .row H.next 1 0 l.length, H.add (.brow e l))
        | some (c, l), .row h 1 0 len => match H.get h with
          | some (.brow e' l0) => bif Nat.beq e e' then some (c ++ [.nle len l0.length, .nle (len + l.length) 140737488355328], .row H.next 1 0 (len + l.length), (H.del h).add (.brow e (l0.take len ++ l))) else none
          | _ => none
        | _, _ => none
      else
        match srcR H de.size x, s with
        | some (c, m, g), .iv (.v (.slice none 0 0)) => some (c ++ [.nle (m * de.bytes) 140737488355328, .nle m 140737488355328], .row H.next de.size 0 m, H.add (.rowc e de.size m g))
        | some (c, m, g), .row h sz 0 len => match H.get h with
          | some (.rowc e' sz' n f) => bif Nat.beq e e' && Nat.beq sz de.size && Nat.beq sz' de.size then some (c ++ [.nle len n, .nle ((len + m) * de.bytes) 140737488355328, .nle (len + m) 140737488355328], .row H.next de.size 0 (len + m), (H.del h).add (.rowc e de.size (len + m) (fun i => if i < len then f i else g (i - len)))) else none
          | _ => none
        | _, _ => none
    else none
  | _, _ => none
section
variable {ρ : Rho} {ι : Imm} {P : Program} {w : World} {T : TT} {H : AH}
theorem ands_append (a b : List Cnd) : ands (a ++ b) True → ands a True ∧ ands b True := by
  induction a with
  | nil => intro h; exact ⟨trivial, h⟩
  | cons c cs ih =>
    rw [List.cons_append, ands_cons, ands_cons]
    exact fun h => ⟨⟨h.1, (ih h.2).1⟩, (ih h.2).2⟩
structure RowL (ι : Imm) (sz n : Nat) (f : Nat → List IV) (l : List Value) : Prop where
  len : l.length = n * sz
  at_ : ∀ i, i < n → IV.Rs ι (f i) ((l.drop (i * sz)).take sz)
  one : ∀ v ∈ l, v.oneCell' = true
theorem in_row {i n sz j : Nat} (hi : i < n) (hj : j < sz) : i * sz + j < n * sz := by
  have : (i + 1) * sz ≤ n * sz := Nat.mul_le_mul_right _ hi
  rw [Nat.succ_mul] at this
  omega
theorem RowAt.list {sz n len : Nat} {f : Nat → List IV} {arr : Array Value} (h : RowAt ι sz n f arr) (hn : len ≤ n) (hs : n * sz ≤ arr.size) (hz : sz ≠ 0) : RowL ι sz len f (arr.toList.take (len * sz)) := by
  have hle : len * sz ≤ arr.size := Nat.le_trans (Nat.mul_le_mul_right _ hn) hs
  have key : ∀ i, i < len → ∃ vs, IV.Rs ι (f i) vs ∧ (∀ v ∈ vs, v.oneCell' = true) ∧ ((arr.toList.take (len * sz)).drop (i * sz)).take sz = vs := fun i hi => by
    obtain ⟨vs, h1, h2, h3, h4⟩ := h i (by omega)
    refine ⟨vs, h1, h3, ?_⟩
    apply List.ext_getElem?
    intro j
    by_cases hj : j < sz
    · rw [List.getElem?_take, if_pos hj, List.getElem?_drop, List.getElem?_take, if_pos (in_row hi hj)]
      have hv : j < vs.length := by omega
      rw [List.getElem?_eq_getElem hv]
      have := h4 j vs[j] (List.getElem?_eq_getElem hv)
      simpa using this
    · rw [List.getElem?_take, if_neg hj, List.getElem?_eq_none (by omega)]
  refine ⟨by rw [List.length_take, Array.length_toList]; omega, fun i hi => ?_, fun v hv => ?_⟩
  · obtain ⟨vs, h1, _, h3⟩ := key i hi
    rw [h3]; exact h1
  · obtain ⟨j, hj⟩ := List.mem_iff_getElem?.1 hv
    have hjl : j < len * sz := by
      rcases Nat.lt_or_ge j (len * sz) with h' | h'
      · exact h'
      · rw [List.getElem?_take, if_neg (by omega)] at hj; cases hj
    have hq : j / sz < len := Nat.div_lt_of_lt_mul (by rw [Nat.mul_comm]; exact hjl)
    obtain ⟨vs, _, h2, h3⟩ := key (j / sz) hq
    refine h2 v ?_
    rw [← h3]
    refine List.mem_iff_getElem?.2 ⟨j % sz, ?_⟩
    rw [List.getElem?_take, if_pos (Nat.mod_lt _ (Nat.pos_of_ne_zero hz)), List.getElem?_drop, Nat.div_add_mod']
    exact hj
theorem RowL.join {sz n m : Nat} {f g : Nat → List IV} {a b : List Value} (h : RowL ι sz n f a) (h' : RowL ι sz m g b) : RowL ι sz (n + m) (fun i => if i < n then f i else g (i - n)) (a ++ b) := by
  refine ⟨by rw [List.length_append, h.len, h'.len, Nat.add_mul], fun i hi => ?_, fun v hv => ?_⟩
  · by_cases hin : i < n
    · simp only [if_pos hin]
      have e : ((a ++ b).drop (i * sz)).take sz = (a.drop (i * sz)).take sz := by
        have hfit : i * sz + sz ≤ a.length := by rw [h.len, ← Nat.succ_mul]; exact Nat.mul_le_mul_right _ hin
        rw [List.drop_append_of_le_length (by omega), List.take_append_of_le_length (by rw [List.length_drop]; omega)]
      rw [e]
      exact h.at_ i hin
    · simp only [if_neg hin]
      have e : ((a ++ b).drop (i * sz)).take sz = (b.drop ((i - n) * sz)).take sz := by
        have e1 : i * sz = a.length + (i - n) * sz := by rw [h.len, ← Nat.add_mul]; congr 1; omega
        rw [e1, ← List.drop_drop, List.drop_left]
      rw [e]
      exact h'.at_ (i - n) (by omega)
  · rcases List.mem_append.1 hv with hv | hv
    · exact h.one v hv
    · exact h'.one v hv
theorem RowL.at {sz n : Nat} {f : Nat → List IV} {l : List Value} {arr : Array Value} (h : RowL ι sz n f l) (ha : ∀ (j : Nat) (u : Value), l[j]? = some u → arr[j]? = some u) : RowAt ι sz n f arr := by
  intro i hi
  refine ⟨_, h.at_ i hi, ?_, fun v hv => h.one v (List.mem_of_mem_drop (List.mem_of_mem_take hv)), fun j u hu => ?_⟩
  · have : i * sz + sz ≤ l.length := by rw [h.len, ← Nat.succ_mul]; exact Nat.mul_le_mul_right _ hi
    rw [List.length_take, List.length_drop]; omega
  · rw [List.getElem?_take] at hu
    split at hu
    · rw [List.getElem?_drop] at hu
      exact ha _ _ hu
    · cases hu
theorem RowL.nil (sz : Nat) (f : Nat → List IV) : RowL ι sz 0 f [] := ⟨by simp, fun i hi => absurd hi (Nat.not_lt_zero i), fun v hv => by cases hv⟩
def bvals (l : List UInt8) : List Value := l.map fun c => .int .u8 (c.toNat : Int)
theorem bvals_get {l : List UInt8} {arr : Array Value} (h : ∀ i, i < l.length → arr[i]? = some (.int .u8 ((l.getD i 0).toNat : Int))) : ∀ (j : Nat) (u : Value), (bvals l)[j]? = some u → arr[j]? = some u := by
  intro j u hu
  have hj : j < l.length := by
    rcases Nat.lt_or_ge j (bvals l).length with h' | h'
    · simpa [bvals] using h'
    · rw [List.getElem?_eq_none h'] at hu; cases hu
  rw [h j hj]
  simp only [bvals, List.getElem?_map, List.getElem?_eq_getElem hj, Option.map_some, Option.some.injEq] at hu
  rw [← hu]
  simp [List.getD, hj]
theorem bvals_arr {l : List UInt8} {arr : Array Value} (h : ∀ (j : Nat) (u : Value), (bvals l)[j]? = some u → arr[j]? = some u) : ∀ i, i < l.length → arr[i]? = some (.int .u8 ((l.getD i 0).toNat : Int)) := by
  intro i hi
  refine h i _ ?_
  simp [bvals, hi, List.getD]
theorem srcB_ok (hS : SR ρ ι H w) {x : AV} {v : Value} (hx : x.R ρ ι v) {c : List Cnd} {l : List UInt8} (h : srcB H x = some (c, l)) (hc : ands c True) : News P w 1 v l.length (bvals l) := by
  have hone : ∀ v ∈ bvals l, v.oneCell' = true := fun v hv => by
    obtain ⟨a, _, rfl⟩ := List.mem_map.1 hv
    rfl
  unfold srcB at h
  split at h
  · rename_i l'
    simp only [Option.some.injEq, Prod.mk.injEq] at h
    obtain ⟨rfl, rfl⟩ := h
    simp only [AV.R, IV.R] at hx
    subst hx
    have hsz : (⟨l'.toArray⟩ : ByteArray).size = l'.length := by simp [ByteArray.size]
    have hf : ∀ w : World, (Builtin.firstCells 1 l'.length (.string ⟨l'.toArray⟩)).run P w = .ok (bvals l').toArray w := fun w => by
      have e : ((⟨l'.toArray⟩ : ByteArray).extract 0 l'.length).data = l'.toArray := by
        rw [ByteArray.data_extract]
        simp
      simp only [Builtin.firstCells, Sem.run_pure, e]
      congr 1
      simp [bvals]
    exact ⟨by simp [Builtin.lenOf, hsz], hf w, hf w.drew, by simp [bvals], hone⟩
  · obtain ⟨l', hl, hq⟩ := Option.map_eq_some_iff.1 h
    simp only [Prod.mk.injEq] at hq
    obtain ⟨rfl, rfl⟩ := hq
    obtain ⟨A, c', rfl, _, _, hb⟩ := bytes_read hS hx hl hc
    refine News.of_cells (by simp [bvals]) hone fun j u hu => ?_
    have hj : j < l'.length := by
      rcases Nat.lt_or_ge j (bvals l').length with h' | h'
      · simpa [bvals] using h'
      · rw [List.getElem?_eq_none h'] at hu; cases hu
    obtain ⟨ad, e1, s1, r1⟩ := hb j hj
    refine ⟨ad, e1, s1, ?_⟩
    rw [r1]
    simp only [bvals, List.getElem?_map, List.getElem?_eq_getElem hj, Option.map_some, Option.some.injEq] at hu
    rw [← hu]
    simp [List.getD, hj]
theorem choose_list {sz m : Nat} {g : Nat → List IV} {C : Nat → Value → Prop} : (∀ k, k < m → ∃ vs : List Value, IV.Rs ι (g k) vs ∧ vs.length = sz ∧ (∀ v ∈ vs, v.oneCell' = true) ∧ ∀ (j : Nat) (u : Value), vs[j]? = some u → C (k * sz + j) u) →
    ∃ l, RowL ι sz m g l ∧ ∀ (j : Nat) (u : Value), l[j]? = some u → C j u := by
  induction m with
  | zero => intro _; exact ⟨[], RowL.nil _ _, fun j u hu => by simp at hu⟩
  | succ m ih =>
    intro h
    obtain ⟨l, h1, h2⟩ := ih fun k hk => h k (by omega)
    obtain ⟨vs, g1, g2, g3, g4⟩ := h m (by omega)
    have hone : RowL ι sz 1 (fun _ => g m) vs := ⟨by omega, fun i hi => by
      have : i = 0 := by omega
      subst this
      rw [Nat.zero_mul, List.drop_zero, List.take_of_length_le (by omega)]
      exact g1, g3⟩
    have hj := h1.join hone
    refine ⟨l ++ vs, ⟨hj.len, fun i hi => ?_, hj.one⟩, fun j u hu => ?_⟩
    · have := hj.at_ i hi
      by_cases him : i < m
      · simpa only [if_pos him] using this
      · have : i = m := by omega
        subst this
        have := hj.at_ i hi
        simpa only [if_neg him] using this
    · by_cases hjl : j < l.length
      · rw [List.getElem?_append_left hjl] at hu
        exact h2 j u hu
      · rw [List.getElem?_append_right (by omega)] at hu
        have := g4 _ _ hu
        rw [h1.len] at this hjl
        rwa [show m * sz + (j - m * sz) = j by omega] at this
theorem srcR_ok (hS : SR ρ ι H w) {sz : Nat} (hz : sz ≠ 0) {x : AV} {v : Value} (hx : x.R ρ ι v) {c : List Cnd} {m : Nat} {g : Nat → List IV} (h : srcR H sz x = some (c, m, g)) (hc : ands c True) : ∃ news, News P w sz v m news ∧ RowL ι sz m g news := by
  unfold srcR at h
  split at h
  · rename_i s m' g'
    cases hb : Nat.beq s sz with
    | false => rw [hb] at h; cases h
    | true =>
      rw [hb] at h
      simp only [cond_true, Option.some.injEq, Prod.mk.injEq] at h
      obtain ⟨rfl, rfl, rfl⟩ := h
      have := Nat.eq_of_beq_eq_true hb
      subst this
      simp only [AV.R, IV.R] at hx
      obtain ⟨A, c', rfl, h2, h3, h4⟩ := hx
      obtain ⟨l, l1, l2⟩ := choose_list (ι := ι) (sz := s) (m := m') (g := g') (C := fun j u => ∃ ad, A = some ad ∧ ad.spot = none ∧ w.cell? ⟨ad.block, ad.off + j, none⟩ = some u) (fun k hk => by
        obtain ⟨ad, vs, e1, s1, r1, r2, r3⟩ := h4 k hk
        refine ⟨vs, r1, r2, fun v hv => ?_, fun j u hu => ⟨ad, e1, s1, ?_⟩⟩
        · obtain ⟨j, hj⟩ := List.mem_iff_getElem?.1 hv
          exact hS.one _ _ _ (r3 j v hj)
        · have := hS.imm _ _ _ (r3 j u hu)
          rwa [← Nat.add_assoc])
      exact ⟨l, News.of_cells l1.len l1.one l2, l1⟩
  · simp only [Option.some.injEq, Prod.mk.injEq] at h
    obtain ⟨rfl, rfl, rfl⟩ := h
    simp only [AV.R, IV.R] at hx
    subst hx
    exact ⟨[], News.of_cells (by simp) (fun v hv => by cases hv) (fun j u hu => by simp at hu), RowL.nil _ _⟩
  · rename_i h0 s off m'
    split at h
    · rename_i e s' n f hg
      cases hb : (Nat.beq s sz && Nat.beq s' sz) with
      | false => rw [hb] at h; cases h
      | true =>
        rw [hb] at h
        rw [Bool.and_eq_true] at hb
        simp only [cond_true, Option.some.injEq, Prod.mk.injEq] at h
        obtain ⟨rfl, rfl, rfl⟩ := h
        have e1 := Nat.eq_of_beq_eq_true hb.1
        have e2 := Nat.eq_of_beq_eq_true hb.2
        subst e1
        subst e2
        obtain ⟨hle, _⟩ := hc
        have hgf : ∀ i, (bif Nat.beq off 0 then f else fun i => f (off + i)) i = f (off + i) := fun i => by
          cases ho : Nat.beq off 0 with
          | true =>
            have := Nat.eq_of_beq_eq_true ho
            subst this
            simp
          | false => rfl
        simp only [AV.R] at hx
        obtain ⟨A, c', rfl, h2, h3, h4⟩ := hx
        obtain ⟨l, l1, l2⟩ := choose_list (ι := ι) (sz := s') (m := m') (g := bif Nat.beq off 0 then f else fun i => f (off + i)) (C := fun j u => ∃ ad, A = some ad ∧ ad.spot = none ∧ w.cell? ⟨ad.block, ad.off + j, none⟩ = some u) (fun k hk => by
          obtain ⟨hv, b, g1, g2, g3, g4⟩ := h4 (by omega)
          obtain ⟨hv', g5, g6⟩ := hS.hv hg
          rw [g1] at g5
          injection g5 with g5
          subst g5
          rcases g6 with ⟨g6, _⟩ | ⟨b', arr, fr, q1, q2, q3, q4, q5, q6, q7⟩
          · rw [g2] at g6; cases g6
          · rw [g2] at q1
            injection q1 with q1
            subst q1
            obtain ⟨vs, r1, r2, r3, r4⟩ := q7 (off + k) (by omega)
            refine ⟨vs, by rw [hgf]; exact r1, r2, r3, fun j u hu => ⟨_, g3, rfl, ?_⟩⟩
            rw [heap_cell q3]
            have := r4 j u hu
            rw [Nat.add_mul] at this
            rw [← Nat.add_assoc]
            exact this)
        exact ⟨l, News.of_cells l1.len l1.one l2, l1⟩
    · cases h
  · cases h
end
end Go.Proofs.Yteeifedpabcehaa.Bm

namespace Go.Proofs.Yteeifedpabcehaa.Bm
open Go.RowKit

section
variable {ρ : Rho} {ι : Imm} {P : Program} {w : World} {T : TT} {H : AH}
theorem Touch.weaken {S S' : Nat → Prop} {w w' : World} (h : Touch S w w') (hs : ∀ k, S k → S' k) : Touch S' w w' := ⟨h.os, h.tape, h.output, h.size, fun k hk hn => h.block k hk fun e => hn (hs k e)⟩
theorem touch_drawn (w : World) (o : Obj) (S : Nat → Prop) : Touch S w (w.drew.alloc o) := ⟨rfl, rfl, rfl, by simp, fun k hk _ => heap_alloc_old w.drew o hk⟩
/-- Where the cells lie behind an append. -/
def Lies (w' : World) (hu : HV) (e : TypeId) (l : List Value) : Prop :=
  (hu.blk = none ∧ l = [] ∧ ∀ k, ¬ hu.foot k) ∨ ∃ (b : Nat) (arr : Array Value) (fr : Nat × Nat), hu.blk = some b ∧ (∀ k, hu.foot k ↔ k = b) ∧ w'.heap[b]? = some (.cells arr e fr) ∧ arr.size = hu.room ∧ FrOk fr arr.size ∧ l.length ≤ arr.size ∧ ∀ (j : Nat) (u : Value), l[j]? = some u → arr[j]? = some u
theorem Lies.brow {w' : World} {hu : HV} {e : TypeId} {l : List UInt8} (h : Lies w' hu e (bvals l)) (ρ : Rho) (ι : Imm) : (Chunk.brow e l).R ρ ι hu w' := by
  rcases h with ⟨h1, h2, h3⟩ | ⟨b, arr, fr, h1, h2, h3, h4, h5, h6, h7⟩
  · exact .inl ⟨h1, by simpa [bvals] using h2, h3⟩
  · exact .inr ⟨b, arr, fr, h1, h2, h3, h4, h5, by simpa [bvals] using h6, bvals_arr h7⟩
theorem Lies.rowc {w' : World} {hu : HV} {e : TypeId} {sz n : Nat} {f : Nat → List IV} {l : List Value} (hz : sz ≠ 0) (h : Lies w' hu e l) (hl : RowL ι sz n f l) (ρ : Rho) : (Chunk.rowc e sz n f).R ρ ι hu w' := by
  rcases h with ⟨h1, h2, h3⟩ | ⟨b, arr, fr, h1, h2, h3, h4, h5, h6, h7⟩
  · refine .inl ⟨h1, ?_, h3⟩
    have := hl.len
    rw [h2] at this
    rcases Nat.mul_eq_zero.1 this.symm with h0 | h0
    · exact h0
    · exact absurd h0 hz
  · exact .inr ⟨b, arr, fr, h1, h2, h3, h4, h5, by rw [← hl.len]; exact h6, hl.at h7⟩
/-- The value that an append leaves fits its chunk. -/
theorem row_val {ρ' : Rho} {h sz n : Nat} {hu : HV} {A : Option Addr} {cap : Nat} (hr : ρ' h = some hu) (h1 : n ≤ cap) (h2 : cap ≤ maxLen) (h3 : cap ≠ 0 → ∃ b, hu.blk = some b ∧ A = some ⟨b, 0, none⟩ ∧ cap * sz ≤ hu.room) : (AV.row h sz 0 n).R ρ' ι (.slice A n cap) := by
  simp only [AV.R]
  refine ⟨A, cap, rfl, h1, h2, fun hc => ?_⟩
  obtain ⟨b, g1, g2, g3⟩ := h3 hc
  exact ⟨hu, b, hr, g1, by simpa using g2, by simpa using g3⟩
/-- What 'app_any' leaves, for whatever chunk there was. -/
theorem app_lies {e : TypeId} {size len m cap : Nat} {A : Option Addr} {hv : HV} {olds news : List Value} {A' : Option Addr} {cap' : Nat} {w' : World} (hol : olds.length = len * size) (hnl : news.length = m * size) (_ : hv.blk = none → ∀ k, ¬ hv.foot k)
    (_ : cap' ≠ 0 ∨ len + m = 0)
    (h : (len + m ≤ cap ∧ A' = A ∧ cap' = cap ∧ ((cap = 0 ∧ w' = w) ∨ ∃ (b : Nat) (arr : Array Value) (fr : Nat × Nat), hv.blk = some b ∧ A = some ⟨b, 0, none⟩ ∧ cap * size ≤ hv.room ∧ arr.size = hv.room ∧ FrOk fr arr.size ∧ w.heap[b]? = some (.cells arr e fr) ∧ (∀ k, hv.foot k ↔ k = b) ∧ w' = putObj w b (.cells (layArr arr (len * size) news) e fr) ∧ ∀ (j : Nat) (u : Value), olds[j]? = some u → arr[j]? = some u)) ∨
       (A' = some ⟨w.heap.size, 0, none⟩ ∧ ∃ rest : List Value, w' = w.drew.alloc (.cells (olds ++ news ++ rest).toArray e) ∧ (olds ++ news ++ rest).length = cap' * size)) :
    ∃ hu : HV, Touch hv.foot w w' ∧ (∀ j, hu.foot j → (hv.foot j ∨ w.heap.size ≤ j) ∧ (j < w.heap.size ∨ j < w'.heap.size)) ∧ Lies w' hu e (olds ++ news) ∧ (cap' ≠ 0 → ∃ b, hu.blk = some b ∧ A' = some ⟨b, 0, none⟩ ∧ cap' * size ≤ hu.room) := by
  rcases h with ⟨h1, rfl, rfl, ⟨h2, rfl⟩ | ⟨b, arr, fr, q1, q2, q3, q4, q5, q6, q7, rfl, q8⟩⟩ | ⟨rfl, rest, rfl, hlen⟩
  · have hl0 : len = 0 := by omega
    have hm0 : m = 0 := by omega
    have e1 : olds = [] := List.eq_nil_of_length_eq_zero (by rw [hol, hl0]; simp)
    have e2 : news = [] := List.eq_nil_of_length_eq_zero (by rw [hnl, hm0]; simp)
    subst e1
    subst e2
    exact ⟨⟨none, 0, fun _ => False⟩, Touch.refl _ _, fun j hj => hj.elim, .inl ⟨rfl, rfl, fun _ h => h⟩, fun h => absurd h2 h⟩
  · have hb : b < w.heap.size := (Array.getElem?_eq_some_iff.1 q6).1
    have hfit : len * size + news.length ≤ arr.size := by
      rw [hnl, ← Nat.add_mul, q4]
      exact Nat.le_trans (Nat.mul_le_mul_right _ h1) q3
    refine ⟨hv, (putObj_touch w b _).weaken fun k hk => (q7 k).2 hk, fun j hj => ⟨.inl hj, .inl (by rw [(q7 j).1 hj]; exact hb)⟩, .inr ⟨b, _, fr, q1, q7, putObj_same q6, by rw [layArr_size]; exact q4, by rw [layArr_size]; exact q5, by rw [layArr_size, List.length_append, hol]; exact hfit, fun j u hu => ?_⟩, fun _ => ⟨b, q1, q2, q3⟩⟩
    by_cases hj : j < olds.length
    · rw [List.getElem?_append_left hj] at hu
      rw [layArr_out news _ _ _ (by omega)]
      exact q8 j u hu
    · rw [List.getElem?_append_right (by omega)] at hu
      have hjl : j - olds.length < news.length := by
        rcases Nat.lt_or_ge (j - olds.length) news.length with h' | h'
        · exact h'
        · rw [List.getElem?_eq_none h'] at hu; cases hu
      have := layArr_in news arr (len * size) (j - olds.length) hfit hjl
      rw [hol] at this hu hj
      rw [show len * size + (j - len * size) = j by omega] at this
      rw [this]
      exact hu
  · have hlast : (w.drew.alloc (.cells (olds ++ news ++ rest).toArray e)).heap[w.heap.size]? = some (.cells (olds ++ news ++ rest).toArray e (0, 0)) := heap_alloc_new w.drew _
    refine ⟨one1 w.heap.size (cap' * size), touch_drawn w _ _, fun j hj => ?_, .inr ⟨w.heap.size, _, (0, 0), rfl, fun _ => Iff.rfl, hlast, by simpa [one1] using hlen, FrOk.zero _, by simp, fun j u hu => ?_⟩, fun _ => ⟨w.heap.size, rfl, rfl, by simp [one1]⟩⟩
    · have : j = w.heap.size := hj
      subst this
      exact ⟨.inr (Nat.le_refl _), .inr (by simp)⟩
    · have hj : j < (olds ++ news).length := by
        rcases Nat.lt_or_ge j (olds ++ news).length with h' | h'
        · exact h'
        · rw [List.getElem?_eq_none h'] at hu; cases hu
      simp only [List.getElem?_toArray]
      rw [List.getElem?_append_left hj]
      exact hu
theorem appW_ok (hT : TOk P T) (hby : TBytes T) (hS : SR ρ ι H w) (t t2 ty : TypeId) (s x : AV) {vs vx : Value} (hs : s.R ρ ι vs) (hx : x.R ρ ι vx) {cs : List Cnd} {r : AV} {H' : AH} (h : appW T H t t2 s x = some (cs, r, H')) (hc : ands cs True) :
    ∃ v w' ρ', (Builtin.append_ #[t, t2] ty #[vs, vx]).run P w = .ok v w' ∧ SR ρ' ι H' w' ∧ Went ρ ι H w ρ' ι H' w' ∧ r.R ρ' ι v := by
  unfold appW at h
  split at h
  · rename_i e de d2 he hd2
    cases hb : (isSeq d2 && zeroFits de && !(Nat.beq de.size 0)) with
    | false => rw [hb] at h; cases h
    | true =>
      rw [hb] at h
      simp only [cond_true] at h
      simp only [Bool.and_eq_true, Bool.not_eq_true'] at hb
      obtain ⟨⟨c1, c2⟩, c3⟩ := hb
      have hz0 : de.size ≠ 0 := fun e => by rw [e] at c3; simp at c3
      obtain ⟨u2, i2, hu2, _, rfl⟩ := td hT hd2
      have hn : (∃ e2, u2 = .slice e2) ∨ u2 = .string := by
        unfold isSeq at c1
        cases u2 <;> simp_all [TK.of]
      have hz : (zeroA de).isSome = true := by
        cases hza : zeroA de with
        | none => unfold zeroFits at c2; rw [hza] at c2; cases c2
        | some z => rfl
      have hzl : ∀ z, de.zero = some z → z.cells.size = de.size := fun z hz1 => by
        simp only [zeroFits, zeroA, hz1] at c2
        simpa using c2
      obtain ⟨hu, hde⟩ := elemOfT_spec hT he
      -- nothing there before
      have fromNil : ∀ (sz m : Nat) (news : List Value) (c : Chunk), sz = de.size → vs = .slice none 0 0 → News P w de.size vx m news → m * de.bytes ≤ 140737488355328 → m ≤ 140737488355328 → (∀ hu ρ' w', Lies w' hu e news → c.R ρ' ι hu w') →
          ∃ v w' ρ', (Builtin.append_ #[t, t2] ty #[vs, vx]).run P w = .ok v w' ∧ SR ρ' ι (H.add c) w' ∧ Went ρ ι H w ρ' ι (H.add c) w' ∧ (AV.row H.next sz 0 m).R ρ' ι v := by
        intro sz m news c hsz hvs hnews hby1 hmany hcr
        subst hsz
        subst hvs
        obtain ⟨A', cap', w', g1, g2, g3, g4⟩ := app_any (ty := ty) (A := none) (len := 0) (cap := 0) (hv := ⟨none, 0, fun _ => False⟩) (olds := []) hT he hu2 hn hz hz0 hzl ⟨Nat.le_refl _, Nat.zero_le _, by simp, fun h => absurd rfl h⟩ hnews (by simpa using hby1) (by omega)
        simp only [Nat.zero_add] at g1 g2
        have hcap : cap' ≠ 0 ∨ 0 + m = 0 := by omega
        obtain ⟨hu, k1, k2, k3, k4⟩ := app_lies (by simp) hnews.many (fun _ _ h => h) hcap g4
        simp only [List.nil_append] at k3
        obtain ⟨s1, s2⟩ := hS.add (w' := w') c hu (k1.weaken fun _ h => h) (fun j hj => by
          obtain ⟨a, b⟩ := k2 j hj
          rcases a with a | a
          · exact a.elim
          · exact ⟨a, by rcases b with b | b <;> omega⟩) (hcr _ _ _ k3)
        exact ⟨_, w', _, g1, s1, s2, row_val (Rho.upd_same _ _ _) g2 g3 k4⟩
      -- a row that is there
      have fromRow : ∀ (h0 sz len m n : Nat) (olds news : List Value) (c c' : Chunk) (hv : HV), sz = de.size → (AV.row h0 sz 0 len).R ρ ι vs → H.get h0 = some c → ρ h0 = some hv → (hv.blk = none → ∀ k, ¬ hv.foot k) → olds.length = len * de.size → News P w de.size vx m news →
          (∀ b, hv.blk = some b → ∃ (arr : Array Value) (fr : Nat × Nat), w.heap[b]? = some (.cells arr e fr) ∧ arr.size = hv.room ∧ FrOk fr arr.size ∧ (∀ k, hv.foot k ↔ k = b) ∧ ∀ (j : Nat) (u : Value), olds[j]? = some u → arr[j]? = some u) →
          (len + m) * de.bytes ≤ 140737488355328 → len + m ≤ 140737488355328 → n = len + m → (∀ hu ρ' w', Lies w' hu e (olds ++ news) → c'.R ρ' ι hu w') →
          ∃ v w' ρ', (Builtin.append_ #[t, t2] ty #[vs, vx]).run P w = .ok v w' ∧ SR ρ' ι ((H.del h0).add c') w' ∧ Went ρ ι H w ρ' ι ((H.del h0).add c') w' ∧ (AV.row H.next sz 0 n).R ρ' ι v := by
        intro h0 sz len m n olds news c c' hv hsz hrow hg hr hnf hol hnews hblk hby1 hmany hnn hcr
        subst hsz
        subst hnn
        simp only [AV.R] at hrow
        obtain ⟨A, cap, rfl, r2, r3, r4⟩ := hrow
        obtain ⟨A', cap', w', g1, g2, g3, g4⟩ := app_any (ty := ty) (A := A) (len := len) (cap := cap) (hv := hv) (olds := olds) hT he hu2 hn hz hz0 hzl ⟨r2, r3, hol, fun hc0 => by
          obtain ⟨hv', b, k1, k2, k3, k4⟩ := r4 hc0
          rw [hr] at k1
          injection k1 with k1
          subst k1
          obtain ⟨arr, fr, p1, p2, p3, p4, p5⟩ := hblk b k2
          exact ⟨b, arr, fr, k2, by simpa using k3, by simpa using k4, p1, p2, p3, p4, p5⟩⟩ hnews hby1 hmany
        have hcap : cap' ≠ 0 ∨ len + m = 0 := by omega
        obtain ⟨hu, k1, k2, k3, k4⟩ := app_lies hol hnews.many hnf hcap g4
        have hsize := k1.size
        obtain ⟨s1, s2⟩ := hS.move (w' := w') hg hr c' hu k1 (fun j hj => by
          obtain ⟨a, b⟩ := k2 j hj
          exact ⟨a, by rcases b with b | b <;> omega⟩) (hcr _ _ _ k3)
        exact ⟨_, w', _, g1, s1, s2, row_val (Rho.upd_same _ _ _) g2 g3 k4⟩
      cases hbt : isByte de with
      | true =>
        rw [hbt] at h
        simp only [cond_true] at h
        obtain ⟨b1, b2, b3⟩ := hby e de hde hbt
        split at h
        · rename_i c l hsrc
          simp only [Option.some.injEq, Prod.mk.injEq] at h
          obtain ⟨rfl, rfl, rfl⟩ := h
          obtain ⟨k1, k2⟩ := ands_append _ _ hc
          have hnews := srcB_ok (P := P) hS hx hsrc k1
          simp only [AV.R, IV.R] at hs
          exact fromNil 1 l.length (bvals l) (.brow e l) b1.symm hs (by rw [b1]; exact hnews) (by rw [b2]; have := k2.1; omega) k2.1 (fun hu ρ' w' hl => hl.brow ρ' ι)
        · rename_i c l h0 len hsrc
          split at h
          · rename_i e' l0 hg
            cases hee : Nat.beq e e' with
            | false => rw [hee] at h; cases h
            | true =>
              have := Nat.eq_of_beq_eq_true hee
              subst this
              rw [hee] at h
              simp only [cond_true, Option.some.injEq, Prod.mk.injEq] at h
              obtain ⟨rfl, rfl, rfl⟩ := h
              obtain ⟨k1, k2, k3, _⟩ := ands_append _ _ hc
              have hnews := srcB_ok (P := P) hS hx hsrc k1
              obtain ⟨hv, hr, hcr⟩ := hS.hv hg
              have hlen : (bvals (l0.take len)).length = len := by simp [bvals]; omega
              refine fromRow h0 1 len l.length (len + l.length) (bvals (l0.take len)) (bvals l) (.brow e l0) (.brow e (l0.take len ++ l)) hv b1.symm hs hg hr ?_ (by rw [b1]; simpa using hlen) (by rw [b1]; exact hnews) ?_ (by rw [b2]; omega) k3 rfl (fun hu ρ' w' hl => ?_)
              · intro hb
                rcases hcr with ⟨_, _, h3⟩ | ⟨b, _, _, h3, _⟩
                · exact h3
                · rw [hb] at h3; cases h3
              · intro b hb
                rcases hcr with ⟨h3, _⟩ | ⟨b', arr, fr, q1, q2, q3, q4, q5, q6, q7⟩
                · rw [hb] at h3; cases h3
                · rw [hb] at q1
                  injection q1 with q1
                  subst q1
                  refine ⟨arr, fr, q3, q4, q5, q2, bvals_get fun i hi => ?_⟩
                  rw [List.length_take] at hi
                  rw [q7 i (by omega)]
                  simp [List.getD, show i < len by omega]
              · rw [show bvals (l0.take len) ++ bvals l = bvals (l0.take len ++ l) by simp [bvals]] at hl
                exact hl.brow ρ' ι
          · cases h
        · cases h
      | false =>
        rw [hbt] at h
        simp only [cond_false] at h
        split at h
        · rename_i c m g hsrc
          simp only [Option.some.injEq, Prod.mk.injEq] at h
          obtain ⟨rfl, rfl, rfl⟩ := h
          obtain ⟨k1, k2, k3, _⟩ := ands_append _ _ hc
          obtain ⟨news, hnews, hl⟩ := srcR_ok (P := P) hS hz0 hx hsrc k1
          simp only [AV.R, IV.R] at hs
          exact fromNil de.size m news (.rowc e de.size m g) rfl hs hnews k2 k3 (fun hu ρ' w' hli => hli.rowc hz0 hl ρ')
        · rename_i c m g h0 sz len hsrc
          split at h
          · rename_i e' sz' n f hg
            cases hee : (Nat.beq e e' && Nat.beq sz de.size && Nat.beq sz' de.size) with
            | false => rw [hee] at h; cases h
            | true =>
              rw [hee] at h
              simp only [cond_true, Option.some.injEq, Prod.mk.injEq] at h
              obtain ⟨rfl, rfl, rfl⟩ := h
              simp only [Bool.and_eq_true] at hee
              have e1 := Nat.eq_of_beq_eq_true hee.1.1
              have e2 := Nat.eq_of_beq_eq_true hee.1.2
              have e3 := Nat.eq_of_beq_eq_true hee.2
              subst e1
              subst e2
              subst e3
              obtain ⟨k1, k2, k3, k4, _⟩ := ands_append _ _ hc
              obtain ⟨news, hnews, hl⟩ := srcR_ok (P := P) hS hz0 hx hsrc k1
              obtain ⟨hv, hr, hcr⟩ := hS.hv hg
              have old : ∃ olds, RowL ι de.size len f olds ∧ ∀ b, hv.blk = some b → ∃ (arr : Array Value) (fr : Nat × Nat), w.heap[b]? = some (.cells arr e fr) ∧ arr.size = hv.room ∧ FrOk fr arr.size ∧ (∀ k, hv.foot k ↔ k = b) ∧ ∀ (j : Nat) (u : Value), olds[j]? = some u → arr[j]? = some u := by
                rcases hcr with ⟨h3, h4, h5⟩ | ⟨b', arr, fr, q1, q2, q3, q4, q5, q6, q7⟩
                · have : len = 0 := by omega
                  subst this
                  exact ⟨[], RowL.nil _ _, fun b hb => by rw [hb] at h3; cases h3⟩
                · refine ⟨_, q7.list k2 q6 hz0, fun b hb => ?_⟩
                  rw [hb] at q1
                  injection q1 with q1
                  subst q1
                  refine ⟨arr, fr, q3, q4, q5, q2, fun j u hu => ?_⟩
                  rw [List.getElem?_take] at hu
                  split at hu
                  · simpa using hu
                  · cases hu
              obtain ⟨olds, ho1, ho2⟩ := old
              refine fromRow h0 de.size len m (len + m) olds news _ _ hv rfl hs hg hr ?_ ho1.len hnews ho2 k3 k4 rfl (fun hu ρ' w' hli => hli.rowc hz0 (ho1.join hl) ρ')
              intro hb
              rcases hcr with ⟨_, _, h3⟩ | ⟨b, _, _, h3, _⟩
              · exact h3
              · rw [hb] at h3; cases h3
          · cases h
        · cases h
  · cases h
end
end Go.Proofs.Yteeifedpabcehaa.Bm
