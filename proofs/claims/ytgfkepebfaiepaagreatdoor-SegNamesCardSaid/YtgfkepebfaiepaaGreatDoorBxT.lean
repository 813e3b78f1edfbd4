/-
  Regions in whatever order: reading operations may be taken first.
-/
import Derived.Test.YtgfkepebfaiepaaGreatDoorBxS
namespace Go.Proofs.YtgfkepebfaiepaaGreatDoor.Ax
open Go.RowKit
section
variable {C : Cfg} {ops : Array Oper}
theorem xop_congr {T : TT} {g g' : Operand → AV} (op : Op) (h : ∀ x ∈ op.operands, g x = g' x) : xop T g op = xop T g' op := by
 cases op <;> simp only [Op.operands] at h <;> simp only [xop] <;> try rfl
 case box e x => rw [h x (by simp)]
 case buildSlice t len ps => rw [map_congr' (l := ps.toList) (g := fun p => (p.1, g' p.2)) (fun p hp => by rw [h p.2 (by simp only [List.mem_toArray, List.mem_map]; exact ⟨p, hp, rfl⟩)])]
 case convert s d x => rw [h x (by simp)]
 case makeSlice t l c => rw [h l (by simp), h c (by simp)]
 case makeMap t r => cases r <;> rfl
theorem args_congr {g g' : Operand → AV} {l : List Operand} (h : ∀ x ∈ l, g x = g' x) : l.map g = l.map g' := List.map_congr_left h
theorem wop_congr {fz : Op → Bool} {T : TT} {g g' : Operand → AV} (H : AH) (op : Op) (h : ∀ x ∈ op.operands, g x = g' x) : wop fz T g H op = wop fz T g' H op := by
 cases op <;> simp only [Op.operands] at h <;> simp only [wop]
 case store t a x => rw [h a (by simp), h x (by simp)]
 case mapUpdate t m k v => rw [h m (by simp), h k (by simp), h v (by simp)]
 case convert s d x => rw [h x (by simp)]
 case range t x => rw [h x (by simp)]
 case makeFunc fn f c =>
  unfold cloW
  rw [args_congr (l := f.toList) (fun x hx => h x (by simp; exact .inl (by simpa using hx))), args_congr (l := c.toList) (fun x hx => h x (by simp; exact .inr (by simpa using hx)))]
 case call c =>
  obtain ⟨callee, ⟨al⟩, ⟨ats⟩⟩ := c
  cases callee with
  | builtin b =>
    have ha : ∀ x ∈ al, g x = g' x := fun x hx => h x (by simp [Call.operands, hx])
    simp only
    cases b <;> try rfl
    ·match ats, al, ha with
     | [t, t2], [s, x], ha => simp only; rw [ha s (by simp), ha x (by simp)]
     | [], _, _ => rfl
     | [_], _, _ => rfl
     | _ :: _ :: _ :: _, _, _ => rfl
     | [_, _], [], _ => rfl
     | [_, _], [_], _ => rfl
     | [_, _], _ :: _ :: _ :: _, _ => rfl
    ·match ats, al, ha with
     | [t], [x], ha => simp only; rw [ha x (by simp)]
     | [], _, _ => rfl
     | _ :: _ :: _, _, _ => rfl
     | [_], [], _ => rfl
     | [_], _ :: _ :: _, _ => rfl
    ·match ats, al, ha with
     | [t, t2], [s, x], ha => simp only; rw [ha s (by simp), ha x (by simp)]
     | [], _, _ => rfl
     | [_], _, _ => rfl
     | _ :: _ :: _ :: _, _, _ => rfl
     | [_, _], [], _ => rfl
     | [_, _], [_], _ => rfl
     | [_, _], _ :: _ :: _ :: _, _ => rfl
    ·match ats, al, ha with
     | [t, t2], [s, x], ha => simp only; rw [ha s (by simp), ha x (by simp)]
     | [], _, _ => rfl
     | [_], _, _ => rfl
     | _ :: _ :: _ :: _, _, _ => rfl
     | [_, _], [], _ => rfl
     | [_, _], [_], _ => rfl
     | [_, _], _ :: _ :: _ :: _, _ => rfl
  | _ => rfl
theorem callOf_congr {g g' : Operand → AV} (op : Op) (h : ∀ x ∈ op.operands, g x = g' x) : callOf g op = callOf g' op := by
 cases op <;> simp only [Op.operands] at h <;> simp only [callOf]
 case call c =>
  obtain ⟨callee, ⟨al⟩, ats⟩ := c
  cases callee with
  | value f =>
    have hf : g f = g' f := h f (by simp [Call.operands])
    have ha : al.map g = al.map g' := args_congr fun x hx => h x (by simp [Call.operands, hx])
    simp only [hf, ha]
  | invoke r n =>
    have hf : g r = g' r := h r (by simp [Call.operands])
    have ha : al.map g = al.map g' := args_congr fun x hx => h x (by simp [Call.operands, hx])
    simp only [hf, ha]
  | _ => rfl
theorem panicOf_congr {g g' : Operand → AV} (op : Op) (h : ∀ x ∈ op.operands, g x = g' x) : panicOf g op = panicOf g' op := by
 cases op <;> simp only [Op.operands] at h <;> simp only [panicOf]
 case panic x => rw [h x (by simp)]
theorem nextOf_congr {g g' : Operand → AV} (H : AH) (op : Op) (h : ∀ x ∈ op.operands, g x = g' x) : nextOf C.T g H op = nextOf C.T g' H op := by
 cases op <;> simp only [Op.operands] at h <;> first | rfl | skip
 case entry it => simp only [nextOf, h it (by simp)]
 case load t x =>
  cases x with
  | global n0 => simp only [nextOf, h (.global n0) (by simp)]
  | _ => rfl
 rename_i it isS
 cases isS with
 | true => rfl
 | false => simp only [nextOf, h it (by simp)]
theorem aop_congr {g g' : Operand → AV} (H : AH) (op : Op) (K QP : AV → AH → Prop) (h : ∀ x ∈ op.operands, g x = g' x) : aop C g H op K QP = aop C g' H op K QP := by
 unfold aop
 rw [xop_congr op h, wop_congr H op h, callOf_congr op h, panicOf_congr op h, nextOf_congr H op h, rop_congr C.wr H op h]
theorem opd_putd {e : Env} {N : Nat} {dst : Option Tmp} {v : AV} {x : Operand} (h : ∀ d, dst = some d → x ≠ .tmp d) : opd (e.putd N dst v) x = opd e x := by
 cases dst with
 | none => rfl
 | some d =>
   unfold Env.putd
   by_cases hd : d < N
   ·simp only [if_pos hd]
    cases x with
    | tmp t => exact Env.get_put_other _ _ _ _ fun e => h d rfl (by rw [e])
    | const v => cases v <;> rfl
    | _ => rfl
   ·simp only [if_neg hd]
theorem get_putd {e : Env} {N : Nat} {dst : Option Tmp} {v : AV} {t : Nat} (h : ∀ d, dst = some d → t ≠ d) : (e.putd N dst v).get t = e.get t := by
 cases dst with
 | none => rfl
 | some d =>
   unfold Env.putd
   by_cases hd : d < N
   ·simp only [if_pos hd]; exact Env.get_put_other _ _ _ _ (h d rfl)
   ·simp only [if_neg hd]
theorem putd_comm (e : Env) (N : Nat) {d d' : Option Tmp} (v v' : AV) (h : ∀ x, d = some x → d' ≠ some x) : (e.putd N d v).putd N d' v' = (e.putd N d' v').putd N d v := by
 cases d with
 | none => rfl
 | some d =>
   cases d' with
   | none => rfl
   | some d' =>
     have hne : d ≠ d' := fun e => h d rfl (by rw [e])
     unfold Env.putd
     by_cases h1 : d < N <;> by_cases h2 : d' < N <;> simp only [h1, h2, if_true, if_false]
     exact Env.put_comm e d d' v v' hne
theorem looks_operand {o : Oper} {x : Operand} {d : Tmp} (hx : x ∈ o.op.operands) (h : d ∉ o.looksAt ops) : x ≠ .tmp d := by
 intro e
 subst e
 exact h (List.mem_append_left _ (List.mem_filterMap.2 ⟨.tmp d, by simpa using hx, rfl⟩))
theorem aGuard_put {e : Env} {o : Oper} {dst : Option Tmp} {v : AV} (h : ∀ d, dst = some d → d ∉ o.looksAt ops) (y n : Prop) : aGuard ops (e.putd C.N dst v) o y n = aGuard ops e o y n := by
 unfold aGuard
 cases hg : o.guard with
 | none => rfl
 | some p =>
   obtain ⟨j, want⟩ := p
   simp only
   cases ht : (ops[j]?).bind (·.dst) with
   | none => rfl
   | some t =>
     simp only
     rw [get_putd fun d hd e => h d hd (by subst e; simp [Oper.looksAt, hg, ht])]
theorem aOneD_put {e : Env} {H : AH} {o : Oper} {dst : Option Tmp} {v : AV} (h1 : ∀ d, dst = some d → d ∉ o.looksAt ops) (h2 : ∀ d, dst = some d → o.dst ≠ some d) {K : Env → AH → Prop} {QP : AV → AH → Prop} (h : aOneD C ops o (e.putd C.N dst v) H K QP) :
 aOneD C ops o e H (fun e' H' => K (e'.putd C.N dst v) H') QP := by
 have key : ∀ K : Env → AH → Prop, aOne C ops o (e.putd C.N dst v) H K QP → aOne C ops o e H (fun e' H' => K (e'.putd C.N dst v) H') QP := fun K h => by
  unfold aOne at h ⊢
  rw [aGuard_put h1, aop_congr (g' := opd e) H o.op _ _ (fun x hx => opd_putd fun d hd => looks_operand hx (h1 d hd))] at h
  refine aGuard_mono (aop_mono fun u H' hk => ?_) (fun hk => ?_) h
  ·rw [putd_comm _ _ _ _ (fun x hx e => h2 x hx e)] at hk; exact hk
  ·rw [putd_comm _ _ _ _ (fun x hx e => h2 x hx e)] at hk; exact hk
 unfold aOneD at h ⊢
 cases hf : opFlagged C o.op with
 | true => simp only [hf, cond_true] at h ⊢; exact key _ h
 | false => simp only [hf, cond_false] at h ⊢; exact key _ h
def rdK (C : Cfg) (ops : Array Oper) (o : Oper) (e : Env) (H : AH) (F : AV → Prop) : Prop := aGuard ops e o ((rop C.T C.wr (opd e) H o.op).K F) (F undefA)
theorem aop_reads {g : Operand → AV} {H : AH} {op : Op} {K QP : AV → AH → Prop} (hr : opReads C op = true) : aop C g H op K QP = (rop C.T C.wr g H op).K fun v => K v H := by
 unfold aop
 cases op <;> first | rfl | (simp [opReads, opPure] at hr; done) | skip
 case load t x => cases x <;> first | rfl | (simp [opReads] at hr; done)
 case makeFunc fn f c =>
  have hfz : C.frz (.makeFunc fn f c) = false := by simpa [opReads, opPure] using hr
  have h3 : wop C.frz C.T g H (.makeFunc fn f c) = none := by simp only [wop, cloW, hfz, cond_false]
  simp only [h3]
  rfl
 ·rename_i s d x
  have h1 : elemOfT C.T d = none := by simpa [opReads] using hr
  have h2 : xop C.T g (.convert s d x) = none := by
   simp only [xop, h1]
   split
   ·rename_i h _; simp at h
   ·rfl
  have h3 : wop C.frz C.T g H (.convert s d x) = none := by simp only [wop, litW, h1]
  simp only [h2, h3]
  rfl
 rename_i c
 obtain ⟨callee, args, ats⟩ := c
 cases callee with
 | builtin b => cases b <;> first | rfl | (simp [opReads] at hr; done)
 | _ => simp [opReads] at hr
theorem reads_not_flagged {op : Op} (hr : opReads C op = true) : opFlagged C op = false := by
 cases op <;> first | rfl | skip
 rename_i c
 obtain ⟨callee, args, ats⟩ := c
 cases callee with
 | builtin b => rfl
 | _ => simp [opReads] at hr
theorem aOneD_reads {o : Oper} {e : Env} {H : AH} {K : Env → AH → Prop} {QP : AV → AH → Prop} (hr : opReads C o.op = true) : aOneD C ops o e H K QP = rdK C ops o e H (fun v => K (e.putd C.N o.dst v) H) := by
 unfold aOneD
 simp only [reads_not_flagged hr, cond_false]
 unfold aOne rdK
 rw [aop_reads hr]
theorem K_no_of {r r' : ROut} {F : AV → Prop} (h : r.K F) (hh : r ≠ .no → r' = r) : r'.K F := by
 cases r with
 | no => exact h.elim
 | one cs v => rw [hh (by simp)]; exact h
 | opt o s n => rw [hh (by simp)]; exact h
theorem rop_pure {wr : Bool} {g : Operand → AV} (H H' : AH) {op : Op} (hp : opPure C op = true) : rop C.T wr g H op = rop C.T wr g H' op := by
 cases op <;> first | rfl | (simp [opPure] at hp; done) | skip
 ·rename_i a b c; cases a <;> rfl
 ·rename_i c
  obtain ⟨callee, args, ats⟩ := c
  cases callee with
  | builtin b =>
    simp only [rop]
    cases b <;> first | (simp [opPure] at hp; done) | skip
    case len =>
     simp only [opPure] at hp
     generalize ats.toList = A at hp ⊢
     generalize args.toList = B
     cases A with
     | nil => rfl
     | cons t A =>
       cases B with
       | nil => rfl
       | cons x B =>
         simp only [builtinA, lenA]
         simp only [lenPure] at hp
         cases hd : C.T.get t with
         | none => rfl
         | some d =>
           simp only [hd] at hp ⊢
           generalize g x = y
           cases hk : d.k <;> simp only [hk] at hp ⊢ <;> first | (cases hp; done) | (cases y with
            | iv z => cases z with
              | v u => cases u <;> first | rfl | (rename_i o; cases o <;> rfl)
              | _ => rfl
            | _ => rfl)
    all_goals
     generalize ats.toList = A
     generalize args.toList = B
     cases A <;> (cases B with
      | nil => rfl
      | cons x B => cases B with
        | nil => rfl
        | cons y B => cases B <;> rfl)
  | _ => simp [opPure] at hp
theorem rdK_same {o : Oper} {e e' : Env} {H H' : AH} {F : AV → Prop} (hh : AH.Sub H H' ∨ opPure C o.op = true) {dst : Option Tmp} {u : AV} (he : e' = e.putd C.N dst u) (hd : ∀ d, dst = some d → d ∉ o.looksAt ops) (h : rdK C ops o e H F) : rdK C ops o e' H' F := by
 subst he
 unfold rdK at h ⊢
 rw [aGuard_put hd, rop_congr (g' := opd e) C.wr H' o.op (fun x hx => opd_putd fun d hd' => looks_operand hx (hd d hd'))]
 refine aGuard_mono (fun h => ?_) (fun h => h) h
 rcases hh with hh | hh
 ·exact K_no_of h (rop_mono C.wr _ hh o.op)
 ·rw [rop_pure H' H hh]; exact h
theorem K_push {r : ROut} {M : (Env → AH → Prop) → Prop} (hM : ∀ K K' : Env → AH → Prop, (∀ e H, K e H → K' e H) → M K → M K') {F : AV → Env → AH → Prop} (h : r.K fun v => M (F v)) : M fun e H => r.K fun v => F v e H := by
 cases r with
 | no => exact h.elim
 | one cs v =>
   have h' := (ands_iff cs _).1 h
   exact hM _ _ (fun e H k => (ands_iff cs _).2 ⟨h'.1, k⟩) h'.2
 | opt o s n =>
   cases o with
   | none => exact hM _ _ (fun e H k => ⟨fun x hx => (by cases hx), fun _ => k⟩) (h.2 rfl)
   | some x => exact hM _ _ (fun e H k => ⟨fun y hy => (by injection hy with hy; subst hy; exact k), fun hx => (by cases hx)⟩) (h.1 x rfl)
theorem rdK_push {o : Oper} {e : Env} {H : AH} {M : (Env → AH → Prop) → Prop} (hM : ∀ K K' : Env → AH → Prop, (∀ e H, K e H → K' e H) → M K → M K') {F : AV → Env → AH → Prop} (h : rdK C ops o e H fun v => M (F v)) : M fun e' H' => rdK C ops o e H fun v => F v e' H' := by
 unfold rdK at h ⊢
 unfold aGuard at h ⊢
 cases hg : o.guard with
 | none => simp only [hg] at h ⊢; exact K_push hM h
 | some p =>
   obtain ⟨j, want⟩ := p
   simp only [hg] at h ⊢
   cases ht : (ops[j]?).bind (·.dst) with
   | none => simp only [ht] at h ⊢; exact h
   | some t =>
     simp only [ht] at h ⊢
     generalize e.get t = x at h ⊢
     split at h
     ·rename_i b
      cases b with
      | true =>
        have h1 := h.1 rfl
        cases want with
        | true => exact hM _ _ (fun e H k => ⟨fun _ => k, fun hx => (by cases hx)⟩) (K_push hM h1)
        | false => exact hM _ _ (fun e H k => ⟨fun _ => k, fun hx => (by cases hx)⟩) h1
      | false =>
        have h1 := h.2 rfl
        cases want with
        | true => exact hM _ _ (fun e H k => ⟨(fun hx => by cases hx), fun _ => k⟩) h1
        | false => exact hM _ _ (fun e H k => ⟨(fun hx => by cases hx), fun _ => k⟩) (K_push hM h1)
     ·exact h
     ·exact h.elim
theorem aGuard_elim {e : Env} {o : Oper} {y n X : Prop} (hy : y → X) (hn : n → X) (h : aGuard ops e o y n) : X := by
 unfold aGuard at h
 split at h
 ·exact hy h
 ·rename_i j want _
  split at h
  ·exact hn h
  ·split at h
   ·rename_i b _
    cases b with
    | true => have h1 := h.1 rfl; cases want; exact hn h1; exact hy h1
    | false => have h1 := h.2 rfl; cases want; exact hy h1; exact hn h1
   ·exact hn h
   ·exact h.elim
theorem K_elim {r : ROut} {F : AV → Prop} {X : Prop} (h : r.K F) (hf : ∀ v, F v → X) : X := by
 cases r with
 | no => exact h.elim
 | one cs v => exact hf _ ((ands_iff cs _).1 h).2
 | opt o s n =>
   cases o with
   | none => exact hf _ (h.2 rfl)
   | some x => exact hf _ (h.1 x rfl)
def aAt (C : Cfg) (ops : Array Oper) (i : Nat) (e : Env) (H : AH) (K : Env → AH → Prop) (QP : AV → AH → Prop) : Prop :=
 match ops[i]? with
 | none => K e H
 | some o => aOneD C ops o e H K QP
theorem aAt_mono {i : Nat} {e : Env} {H : AH} {K K' : Env → AH → Prop} {QP : AV → AH → Prop} (hk : ∀ e' H', K e' H' → K' e' H') (h : aAt C ops i e H K QP) : aAt C ops i e H K' QP := by
 unfold aAt at h ⊢
 split
 ·simp_all only
 ·simp_all only
  exact aOneD_mono hk h
def aAny (C : Cfg) (ops : Array Oper) (K : Env → AH → Prop) (QP : AV → AH → Prop) : Nat → Array Bool → Env → AH → Prop
 | 0, listed, e, H => Region.ready .any ops listed = [] ∧ K e H
 | fuel + 1, listed, e, H => (Region.ready .any ops listed = [] → K e H) ∧ ∀ i ∈ Region.ready .any ops listed, aAt C ops i e H (aAny C ops K QP fuel (listed.setIfInBounds i true)) QP
def safe (C : Cfg) (ops : Array Oper) (listed : Array Bool) (i : Nat) : Bool :=
 match ops[i]? with
 | none => false
 | some oi => opReads C oi.op && Region.free .any ops listed i && (List.range ops.size).all fun j => j == i || listed.getD j true || match ops[j]? with
    | some oj => oj.after.any (fun e => Region.binds .any e && e.on == i) || opPure C oi.op || opExt C oj.op
    | none => true
theorem aAny_first {K : Env → AH → Prop} {QP : AV → AH → Prop} {i : Nat} {oi : Oper} (hi : ops[i]? = some oi) (hr : opReads C oi.op = true) :
 ∀ (fuel : Nat) (listed : Array Bool) (e : Env) (H : AH),
   (∀ (j : Nat) oj, ops[j]? = some oj → j ≠ i → listed.getD j true = false → (∀ e ∈ oj.after, Region.binds .any e = true → e.on ≠ i) → oi.apart ops oj = true ∧ (opPure C oi.op = true ∨ opExt C oj.op = true)) →
   i ∈ Region.ready .any ops listed → aAt C ops i e H (aAny C ops K QP fuel (listed.setIfInBounds i true)) QP → aAny C ops K QP (fuel + 1) listed e H := by
 intro fuel
 induction fuel with
 | zero =>
   intro listed e H _ hri h
   refine ⟨fun h0 => (by rw [h0] at hri; cases hri), fun j hj => ?_⟩
   by_cases hji : j = i
   ·subst hji; exact h
   ·
    have hj' := ready_mono hj hji
    exfalso
    have h0 : Region.ready .any ops (listed.setIfInBounds i true) = [] := by
     unfold aAt at h
     simp only [hi] at h
     rw [aOneD_reads hr] at h
     exact aGuard_elim (fun hk => K_elim hk fun v h => h.1) (fun h => h.1) h
    rw [h0] at hj'
    cases hj'
 | succ fuel ih =>
   intro listed e H hfree hri h
   refine ⟨fun h0 => (by rw [h0] at hri; cases hri), fun j hj => ?_⟩
   by_cases hji : j = i
   ·subst hji; exact h
   ·obtain ⟨hjun, oj, hoj, hall⟩ := mem_ready.1 hj
    have hnot : ∀ e ∈ oj.after, Region.binds .any e = true → e.on ≠ i := fun e he hb heq => by
     have h1 := hall e he hb
     have h0 := (mem_ready.1 hri).1
     rw [heq] at h1
     rcases Nat.lt_or_ge i listed.size with h' | h'
     ·simp [h'] at h0 h1; rw [h0] at h1; cases h1
     ·simp [Array.getElem?_eq_none h'] at h1
    obtain ⟨hap, hcl⟩ := hfree j oj hoj hji hjun hnot
    obtain ⟨a1, a2, a3⟩ := Oper.apart_spec hap
    have hfree' : ∀ (k : Nat) ok, ops[k]? = some ok → k ≠ i → (listed.setIfInBounds j true).getD k true = false →
     (∀ e ∈ ok.after, Region.binds .any e = true → e.on ≠ i) → oi.apart ops ok = true ∧ (opPure C oi.op = true ∨ opExt C ok.op = true) := fun k ok hk hki hun hno => by
     refine hfree k ok hk hki ?_ hno
     by_cases hjk : j = k
     ·subst hjk; exact hjun
     ·rw [getD_set_ne true hjk] at hun; exact hun
    have h1 : rdK C ops oi e H (fun v => aOneD C ops oj (e.putd C.N oi.dst v) H (aAny C ops K QP fuel ((listed.setIfInBounds i true).setIfInBounds j true)) QP) := by
     unfold aAt at h
     simp only [hi] at h
     rw [aOneD_reads hr] at h
     refine aGuard_mono (fun h => ?_) (fun h => ?_) h
     ·have key : ∀ r : ROut, r.K (fun v => aAny C ops K QP (fuel + 1) (listed.setIfInBounds i true) (e.putd C.N oi.dst v) H) → r.K (fun v => aOneD C ops oj (e.putd C.N oi.dst v) H (aAny C ops K QP fuel ((listed.setIfInBounds i true).setIfInBounds j true)) QP) := fun r h => by
       have one : ∀ v, aAny C ops K QP (fuel + 1) (listed.setIfInBounds i true) (e.putd C.N oi.dst v) H → aOneD C ops oj (e.putd C.N oi.dst v) H (aAny C ops K QP fuel ((listed.setIfInBounds i true).setIfInBounds j true)) QP := fun v h => by
        have := h.2 j (ready_mono hj hji)
        unfold aAt at this
        simpa only [hoj] using this
       cases r with
       | no => exact h
       | one cs v => have h' := (ands_iff cs _).1 h; exact (ands_iff cs _).2 ⟨h'.1, one _ h'.2⟩
       | opt o s n => exact ⟨fun x hx => one _ (h.1 x hx), fun hx => one _ (h.2 hx)⟩
      exact key _ h
     ·have := h.2 j (ready_mono hj hji)
      unfold aAt at this
      simpa only [hoj] using this
    have h2 : rdK C ops oi e H (fun v => aOneD C ops oj e H (fun e' H' => aAny C ops K QP fuel ((listed.setIfInBounds i true).setIfInBounds j true) (e'.putd C.N oi.dst v) H') QP) := by
     refine aGuard_mono (fun h => ?_) (fun h => aOneD_put a1 a2 h) h1
     have key : ∀ r : ROut, r.K (fun v => aOneD C ops oj (e.putd C.N oi.dst v) H (aAny C ops K QP fuel ((listed.setIfInBounds i true).setIfInBounds j true)) QP) → r.K (fun v => aOneD C ops oj e H (fun e' H' => aAny C ops K QP fuel ((listed.setIfInBounds i true).setIfInBounds j true) (e'.putd C.N oi.dst v) H') QP) := fun r h => by
      cases r with
      | no => exact h
      | one cs v => have h' := (ands_iff cs _).1 h; exact (ands_iff cs _).2 ⟨h'.1, aOneD_put a1 a2 h'.2⟩
      | opt o s n => exact ⟨fun x hx => aOneD_put a1 a2 (h.1 x hx), fun hx => aOneD_put a1 a2 (h.2 hx)⟩
     exact key _ h
    have h3 := rdK_push (M := fun K => aOneD C ops oj e H K QP) (fun K K' hk h => aOneD_mono hk h) (F := fun v e' H' => aAny C ops K QP fuel ((listed.setIfInBounds i true).setIfInBounds j true) (e'.putd C.N oi.dst v) H') h2
    have h4 := aOneD_more h3
    unfold aAt
    simp only [hoj]
    refine aOneD_mono (fun e' H' h5 => ?_) h4
    obtain ⟨⟨u, hu⟩, hsub, h6⟩ := h5
    refine ih (listed.setIfInBounds j true) e' H' hfree' (ready_mono hri (Ne.symm hji)) ?_
    unfold aAt
    simp only [hi]
    rw [aOneD_reads hr]
    have h7 := rdK_same (hh := hcl.elim (fun h => .inr h) (fun h => .inl (hsub h))) hu a3 h6
    rw [Array.setIfInBounds_comm _ _ hji]
    exact h7
end
end Go.Proofs.YtgfkepebfaiepaaGreatDoor.Ax
