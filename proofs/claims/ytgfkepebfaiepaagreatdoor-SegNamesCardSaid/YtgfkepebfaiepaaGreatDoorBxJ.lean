/-
  Operations that only read: all of them.
-/
import Derived.Test.YtgfkepebfaiepaaGreatDoorBxI
namespace Go.Proofs.YtgfkepebfaiepaaGreatDoor.Ax
open Go.RowKit
section
variable {ρ : Rho} {ι : Imm} {P : Program} {w : World} {T : TT} {H : AH}
theorem opd_ok {N : Nat} {e : Env} {a : Act} (hE : ER ρ ι N e a) (x : Operand) : (opd e x).R ρ ι (a.eval x) := by
 cases x with
 | tmp t => exact hE.slot t
 | const v => cases v <;> simp [opd, AV.R, IV.R, Act.eval]
 | global g =>
   simp only [opd]
   split
   ·rename_i cs h
    have := hE.glob _ (gfind_mem h)
    simpa only [AV.R, Act.eval] using this
   ·simp [AV.R, IV.R, Act.eval]
 | func f => simp [opd, AV.R, IV.R, Act.eval]
theorem PartsR_map {g : Operand → AV} {ev : Operand → Value} (hg : ∀ x, (g x).R ρ ι (ev x)) : ∀ l : List (Nat × Operand), PartsR ρ ι (l.map fun p => (p.1, g p.2)) (l.map fun p => (p.1, ev p.2))
 | [] => rfl
 | _ :: l => ⟨_, _, rfl, hg _, PartsR_map hg l⟩
def yields (P : Program) (w : World) (s : Sem Next) (r : ROut) (ρ : Rho) (ι : Imm) : Prop :=
 ∀ K : AV → Prop, r.K K → ∃ u x, s.run P w = .ok (.value u) w ∧ x.R ρ ι u ∧ K x
theorem yields_of {s : Sem Next} {t : Sem Value} {r : ROut} (h : r.ok ρ ι P t w) (hs : ∀ u, t.run P w = .ok u w → s.run P w = .ok (.value u) w) : yields P w s r ρ ι := fun _ hk =>
 let ⟨u, x, h1, h2, h3⟩ := ROut.use h hk
 ⟨u, x, hs u h1, h2, h3⟩
theorem yields_no {s : Sem Next} : yields P w s .no ρ ι := fun _ h => h.elim
theorem run_v {t : Sem Value} {u : Value} (h : t.run P w = .ok u w) : (do pure (Next.value (← t)) : Sem Next).run P w = .ok (.value u) w := by
 rw [Sem.run_bind, h]; rfl
def isRef : Value → Bool
 | .pointer (some _) => true
 | .func (.func _) _ _ => true
 | _ => false
theorem isRef_run {v : Value} {ev : Operand → Value} {o : Oper} {y : Operand} (h : isRef v = true) (ho : o.op = .nilCheck y) (hv : ev y = v) : (execOp ev o).run P w = .ok (.value v) w := by
 unfold isRef at h
 unfold execOp
 simp only [ho, hv]
 split at h
 ·rfl
 ·rfl
 ·cases h
theorem methC_ok {t : Nat} {name : String} {f : Nat} (h : methC P t name = some f) (v : Value) (args : Array Value) : (callMethod (.iface t v) name args).run P w = (callFunc f (#[v] ++ args)).run P w := by
 unfold methC at h
 split at h
 ·rename_i i hi
  split at h
  ·rename_i m hm
   have fu : ∃ n, P.types.size + Made.depth = n + 1 := ⟨P.types.size + (Made.depth - 1), rfl⟩
   obtain ⟨n, hn⟩ := fu
   have hti : (typeInfo t).run P w = .ok i w := by simp [typeInfo, hi]
   have fin : ∀ (pr : Bool), m.path.toList = [] → m.func = some (f, pr) → (∀ wr, (receiverAt t (.val v) pr wr).run P w = .ok v w) → (callMethod (.iface t v) name args).run P w = (callFunc f (#[v] ++ args)).run P w := by
    intro pr h1 h2 h3
    simp only [callMethod, Sem.run_bind, run_program, Result.andThen_ok, hn, method, hti, hm, h1, follow, Sem.run_pure, h2, h3]
   split at h
   ·rename_i f' u h1 h2 h3
    injection h with h
    subst h
    exact fin true h1 h2 fun wr => by simp [receiverAt, run_underlying h3, Place.get]
   ·cases h
   ·cases h
   ·rename_i f' u hn1 hn2 h1 h2 h3
    injection h with h
    subst h
    exact fin false h1 h2 fun wr => by
     cases u <;> first | exact (hn1 _ rfl).elim | exact (hn2 _ rfl).elim | simp [receiverAt, run_underlying h3, Place.get]
   ·cases h
  ·cases h
 ·cases h
theorem methC_nil {t : Nat} {name : String} {f : Nat} (h : methC P t name = some f) (v : Value) : (nilAhead (P.types.size + Made.depth) t v name).run P w = .ok (some false) w := by
 unfold methC at h
 split at h
 ·rename_i i hi
  split at h
  ·rename_i m hm
   have fu : ∃ n, P.types.size + Made.depth = n + 1 := ⟨P.types.size + (Made.depth - 1), rfl⟩
   obtain ⟨n, hn⟩ := fu
   have hti : (typeInfo t).run P w = .ok i w := by simp [typeInfo, hi]
   split at h
   ·rename_i f' u h1 h2 h3
    simp only [hn, nilAhead, Sem.run_bind, hti, Result.andThen_ok, hm, h1, followBlind, Sem.run_pure, h2]
   ·cases h
   ·cases h
   ·rename_i f' u hn1 hn2 h1 h2 h3
    have hu : (underlying t).run P w = .ok u w := run_underlying h3 w
    simp only [hn, nilAhead, Sem.run_bind, hti, Result.andThen_ok, hm, h1, followBlind, Sem.run_pure, h2, hu]
    cases u <;> first | exact (hn1 _ rfl).elim | rfl
   ·cases h
  ·cases h
 ·cases h
theorem nilM_run {t : TypeId} {n : String} {f : Nat} (hm : methC P t n = some f) (u : Value) (c : Array Value) (o : Oper) (y : Operand) (ev : Operand → Value) (ho : o.op = .nilCheck y) (hv : ev y = .func (.method n) #[.iface t u] c) :
 (execOp ev o).run P w = .ok (.value (.func (.method n) #[.iface t u] c)) w := by
 have hn := methC_nil (w := w) hm u
 unfold execOp
 simp only [ho, hv]
 simp only [List.getElem?_toArray, List.getElem?_cons_zero, Sem.run_bind, run_program, Result.andThen_ok, hn]
 rfl
theorem nilA_ok (hT : TOk P T) (x : AV) {v : Value} (hx : x.R ρ ι v) (o : Oper) (y : Operand) (ev : Operand → Value) (ho : o.op = .nilCheck y) (hv : ev y = v) : yields P w (execOp ev o) (nilA x) ρ ι := by
 unfold nilA
 have fin : ∀ x : AV, x.R ρ ι v → isRef v = true → yields P w (execOp ev o) (.one [] x) ρ ι := fun x hx hm K hk => ⟨v, x, isRef_run hm ho hv, hx, hk⟩
 split
 ·rename_i n t y0 c
  split
  ·rename_i f hm
   intro K hk
   have hx0 := hx
   simp only [AV.R, AV.Rs] at hx
   obtain ⟨as, cs, e, ⟨u0, us, rfl, ⟨u, rfl, _⟩, rfl⟩, _⟩ := hx
   exact ⟨v, _, by rw [e]; exact nilM_run (hT.meth hm) u _ o y ev ho (by rw [hv, e]), hx0, hk⟩
  ·exact yields_no
 ·rename_i n t y0 c
  split
  ·rename_i f hm
   intro K hk
   have hx0 := hx
   simp only [AV.R, IV.R, IV.Rs] at hx
   obtain ⟨as, cs, e, ⟨u0, us, rfl, ⟨u, rfl, _⟩, rfl⟩, _⟩ := hx
   exact ⟨v, _, by rw [e]; exact nilM_run (hT.meth hm) u _ o y ev ho (by rw [hv, e]), hx0, hk⟩
  ·exact yields_no
 ·refine fin _ hx ?_
  simp only [AV.R] at hx
  obtain ⟨_, _, _, _, rfl⟩ := hx
  rfl
 ·refine fin _ hx ?_
  simp only [AV.R] at hx
  obtain ⟨_, _, _, _, rfl⟩ := hx
  rfl
 ·refine fin _ hx ?_
  simp only [AV.R, IV.R] at hx
  obtain ⟨_, _, rfl, _⟩ := hx
  rfl
 ·refine fin _ hx ?_
  simp only [AV.R] at hx
  obtain ⟨_, _, rfl, _⟩ := hx
  rfl
 ·refine fin _ hx ?_
  simp only [AV.R] at hx
  obtain ⟨_, _, rfl, _⟩ := hx
  rfl
 ·refine fin _ hx ?_
  simp only [AV.R, IV.R] at hx
  obtain ⟨_, _, rfl, _⟩ := hx
  rfl
 ·refine fin _ hx ?_
  simp only [AV.R, IV.R] at hx
  subst hx
  rfl
 ·refine fin _ hx ?_
  simp only [AV.R, IV.R] at hx
  subst hx
  rfl
 ·exact yields_no
theorem oneOf_K {o : Option AV} {K : AV → Prop} (h : (oneOf o).K K) : ∃ x, o = some x ∧ K x := by
 unfold oneOf at h
 split at h
 ·exact ⟨_, rfl, h⟩
 ·exact h.elim
theorem eqIn_ifc0 (d : Nat) {t : TypeId} {ms : Array (String × TypeId)} (hu : P.underlying t = some (.interface ms)) : (Op.equalIn (d + 1) t .nilIface .nilIface).run P w = .ok true w := by simp [Op.equalIn, run_underlying hu]
theorem eqIn_ifc1 (d : Nat) {t : TypeId} {ms : Array (String × TypeId)} (hu : P.underlying t = some (.interface ms)) (te : TypeId) (u : Value) : (Op.equalIn (d + 1) t (.iface te u) .nilIface).run P w = .ok false w := by simp [Op.equalIn, run_underlying hu]
theorem nilB_ok {op : BinOp} {t : TypeId} {px : Operand} {a : Value} {b : Bool} (k1 : (eqGuard op t px (.const .nilIface) a .nilIface).run P w = .ok () w) (k2 : (Op.equal t a .nilIface).run P w = .ok b w)
 (k3 : op = .eql → binOp op t a .nilIface = (do pure (.bool (← Op.equal t a .nilIface)))) (k4 : op = .neq → binOp op t a .nilIface = (do pure (.bool (!(← Op.equal t a .nilIface))))) :
 (nilB op b).ok ρ ι P (do eqGuard op t px (.const .nilIface) a .nilIface; binOp op t a .nilIface) w := by
 cases op <;> try exact trivial
 ·exact fun _ => ⟨_, (run_seq _ _ k1).trans (eql_bin t a _ b k2 (k3 rfl)), R_v _⟩
 ·exact fun _ => ⟨_, (run_seq _ _ k1).trans (neq_bin t a _ b k2 (k4 rfl)), R_v _⟩
theorem ifcNil_ok {T : TT} (hT : TOk P T) (op : BinOp) (t : TypeId) {x : AV} {a : Value} (hx : x.R ρ ι a) (px : Operand) :
 (ifcNil T op t x).ok ρ ι P (do eqGuard op t px (.const .nilIface) a .nilIface; binOp op t a .nilIface) w := by
 unfold ifcNil
 split
 ·rename_i d hd
  have fin : d.k = .ifc → (∃ te u, a = .iface te u) → (nilB op false).ok ρ ι P (do eqGuard op t px (.const .nilIface) a .nilIface; binOp op t a .nilIface) w := fun hk ⟨te, u, e⟩ => by
   subst e
   obtain ⟨u', i, h1, _, rfl⟩ := td hT hd
   obtain ⟨ms, rfl⟩ := TK.of_ifc hk
   exact nilB_ok (by cases op <;> simp [eqGuard]) (by rw [equal_in]; exact eqIn_ifc1 _ h1 _ _) (fun e => by subst e; rfl) (fun e => by subst e; rfl)
  split
  ·rename_i hk
   simp only [AV.R, IV.R] at hx
   subst hx
   obtain ⟨u', i, h1, _, rfl⟩ := td hT hd
   obtain ⟨ms, rfl⟩ := TK.of_ifc hk
   exact nilB_ok (by cases op <;> simp [eqGuard]) (by rw [equal_in]; exact eqIn_ifc0 _ h1) (fun e => by subst e; rfl) (fun e => by subst e; rfl)
  ·rename_i hk
   simp only [AV.R, IV.R] at hx
   exact fin hk ⟨_, _, hx⟩
  ·rename_i hk
   simp only [AV.R] at hx
   obtain ⟨u, e, _⟩ := hx
   exact fin hk ⟨_, _, e⟩
  ·rename_i hk
   simp only [AV.R, IV.R] at hx
   obtain ⟨u, e, _⟩ := hx
   exact fin hk ⟨_, _, e⟩
  ·exact trivial
 ·exact trivial
theorem binA_ok {T : TT} (hT : TOk P T) (wr : Bool) (op : BinOp) (t : TypeId) {g : Operand → AV} {ev : Operand → Value} (hg : ∀ x, (g x).R ρ ι (ev x)) (x y : Operand) :
 (binA T wr op t g x y).ok ρ ι P (do eqGuard op t x y (ev x) (ev y); binOp op t (ev x) (ev y)) w := by
 have hy := hg y
 have hb : (bop T wr op t (g x) (g y)).ok ρ ι P (do eqGuard op t x y (ev x) (ev y); binOp op t (ev x) (ev y)) w := bop_ok hT wr op t _ _ (hg x) (hg y) x y
 unfold binA
 split
 ·rename_i e
  rw [e] at hy
  simp only [AV.R, IV.R] at hy
  rw [hy]
  exact ifcNil_ok hT op t (hg x) x
 ·exact hb
theorem rop_sound (hT : TOk P T) (wr : Bool) (hS : SR ρ ι H w) {g : Operand → AV} {ev : Operand → Value} (hg : ∀ x, (g x).R ρ ι (ev x)) (o : Oper) :
 yields P w (execOp ev o) (rop T wr g H o.op) ρ ι := by
 obtain ⟨dst, op, type, pos, after, guard⟩ := o
 cases op <;> simp only [rop] <;> try exact yields_no
 case move x => exact fun K hk => ⟨_, _, rfl, hg x, hk⟩
 case assign x => exact fun K hk => ⟨_, _, rfl, hg x, hk⟩
 case build t ps =>
  refine yields_of (buildA_ok hT t _ (ps.map fun p => (p.1, ev p.2)) ?_) (fun u h => run_v h)
  have := PartsR_map (ρ := ρ) (ι := ι) hg ps.toList
  simpa using this
 case load t a => exact yields_of (loadA_ok hT hS t _ (hg a)) (fun u h => run_v h)
 case nilCheck x => exact nilA_ok hT _ (hg x) _ x ev rfl rfl
 case binOp op t x y t2 => exact yields_of (binA_ok hT wr op t hg x y) (fun u h => run_v h)
 case unOp op t x =>
  have hx := hg x
  cases op <;> simp only <;> try exact yields_no
  all_goals split <;> try exact yields_no
  all_goals (rename_i he; rw [he] at hx; simp only [AV.R, IV.R] at hx)
  ·exact yields_of (t := Op.unary .neg (ev x)) (arK_ok _ _ _ (by rw [hx]; simp [Op.unary, Op.intArith])) (fun u h => run_v h)
  ·refine yields_of (t := Op.unary .xor (ev x)) (fun _ => ⟨_, ?_, R_v _⟩) (fun u h => run_v h)
   rw [hx]
   simp [Op.unary, Op.intBits, bitK]
  ·refine yields_of (t := Op.unary .not (ev x)) (fun _ => ⟨_, ?_, R_v _⟩) (fun u h => run_v h)
   rw [hx]
   simp [Op.unary]
  ·obtain ⟨b, hx⟩ := hx
   exact yields_of (t := Op.unary .not (ev x)) (fun _ => ⟨.bool (!b), by rw [hx]; simp [Op.unary], by simp only [AV.R]; exact ⟨_, rfl⟩⟩) (fun u h => run_v h)
 case pick c x y =>
  have hc := hg c
  split
  ·rename_i b he
   rw [he] at hc
   simp only [AV.R, IV.R] at hc
   refine yields_of (t := Sem.pure (bif b then ev x else ev y)) (fun _ => ⟨_, rfl, ?_⟩) (fun u h => ?_)
   ·cases b
    ·exact hg y
    ·exact hg x
   ·simp only [execOp, hc]
    cases b
    ·injection h with h1; subst h1; rfl
    ·injection h with h1; subst h1; rfl
  ·exact yields_no
 case convert s d x => exact yields_of (cop_ok hT hS wr s d _ (hg x)) (fun u h => run_v h)
 case makeInterface t x => exact yields_of (ifcA_ok hT t _ (hg x)) (fun u h => run_v h)
 case makeFunc fn a c =>
  refine yields_of (t := Instr.makeFunc fn (a.map ev) (c.map ev)) (fun _ => ⟨_, rfl, ?_⟩) (fun u h => run_v h)
  have ra := Rs_mapA g ev hg a.toList
  have rc := Rs_mapA g ev hg c.toList
  unfold fncA
  split
  ·rename_i a' c' h1 h2
   simp only [AV.R, IV.R]
   exact ⟨a.toList.map ev, c.toList.map ev, by simp [← Array.toList_map], toIVs_spec _ _ _ h1 ra, toIVs_spec _ _ _ h2 rc⟩
  ·simp only [AV.R]
   exact ⟨a.toList.map ev, c.toList.map ev, by simp [← Array.toList_map], ra, rc⟩
 case slice t x lo hi mx =>
  cases hm : (mx.isSome && !hi.isSome) with
  | true => exact yields_no
  | false => exact yields_of (sliceA_ok hT hg t _ lo hi mx (hg x) (fun h => by rw [h] at hm; simpa using hm)) (fun u h => run_v h)
 case fieldAddr t x f => exact yields_of (fieldA_ok hT t f _ (hg x)) (fun u h => run_v h)
 case field t x f =>
  have hx := hg x
  split
  ·rename_i off ft cs hf hcs
   have agg : ∀ vs, ev x = .agg vs → yields P w (execOp ev ⟨dst, .field t x f, type, pos, after, guard⟩) (oneOf (partA T ft cs off)) ρ ι := by
    intro vs he K hk
    obtain ⟨y, h1, h2⟩ := oneOf_K hk
    obtain ⟨vs', e, hr⟩ := cells_spec hx hcs
    rw [he] at e
    have e : vs = vs'.toArray := e
    subst e
    obtain ⟨u, h3, h4⟩ := part_run (P := P) (w := w) hT hr h1
    obtain ⟨fs, fld, q1, q2, q3, q4⟩ := fieldOf_spec hT hf
    refine ⟨u, y, ?_, h4, h2⟩
    refine run_v (t := Instr.field t (ev x) f) ?_
    rw [he]
    simp [Instr.field, run_underlying q1, q2, q3, q4, asAgg, h3]
   split
   ·rename_i he; rw [he] at hx; simp only [AV.R] at hx; obtain ⟨vs, e, _⟩ := hx; exact agg _ e
   ·rename_i he; rw [he] at hx; simp only [AV.R, IV.R] at hx; obtain ⟨vs, e, _⟩ := hx; exact agg _ e
   ·rename_i he; rw [he] at hx; simp only [AV.R, IV.R] at hx; exact agg _ hx
   ·exact yields_no
  ·exact yields_no
 case indexAddr t x i => exact yields_of (indexA_ok hT t _ _ (hg x) (hg i)) (fun u h => run_v h)
 case index t x i => exact yields_of (indexV_ok hT t _ _ (hg x) (hg i)) (fun u h => run_v h)
 case sliceToArrayPointer t x => exact yields_of (s2aA_ok hT t _ (hg x)) (fun u h => run_v h)
 case lookup t m k ok => exact yields_of (lookA_ok hT hS t _ _ ok (hg m) (hg k)) (fun u h => run_v h)
 case typeAssert x xt t ok => exact yields_of (assertA_ok hT t xt ok _ (hg x)) (fun u h => run_v h)
 case extract t i =>
  have hx := hg t
  split
  ·rename_i l he
   rw [he] at hx
   simp only [AV.R] at hx
   obtain ⟨vs, e, hr⟩ := hx
   intro K hk
   obtain ⟨y, h1, h2⟩ := oneOf_K hk
   obtain ⟨u, h3, h4⟩ := Rs_getA _ _ _ _ hr h1
   refine ⟨u, y, run_v (t := Instr.extract (ev t) i) ?_, h4, h2⟩
   rw [e]
   simp [Instr.extract, h3]
  ·exact yields_no
 case call c =>
  obtain ⟨callee, args, argTypes⟩ := c
  cases callee <;> simp only <;> try exact yields_no
  rename_i b
  unfold builtinA
  obtain ⟨args⟩ := args
  obtain ⟨ats⟩ := argTypes
  split
  ·rename_i t ts x xs ht hx
   refine yields_of (lenA_ok hT hS t _ (hg x) ts (xs.map ev) type) (fun u h => ?_)
   simp only at *
   subst_vars
   simp [execOp, resolve, invoke, builtin, h]
  ·rename_i x y hx
   refine yields_of (minA_ok _ _ (hg x) (hg y) ats.toArray type) (fun u h => ?_)
   simp only at *
   subst_vars
   simp [execOp, resolve, invoke, builtin, h]
  ·rename_i x y hx
   refine yields_of (maxA_ok _ _ (hg x) (hg y) ats.toArray type) (fun u h => ?_)
   simp only at *
   subst_vars
   simp [execOp, resolve, invoke, builtin, h]
  ·exact yields_no
end
end Go.Proofs.YtgfkepebfaiepaaGreatDoor.Ax
