/-
  Closed runs: code.
-/
import Derived.Test.YtjhaikcokbmdbaaGreatDoorCxY
import Derived.RecoverIn
namespace Go.Proofs.YtjhaikcokbmdbaaGreatDoor.Cx
open Go.RowKit Go.Proofs.YtjhaikcokbmdbaaGreatDoor.Ax

def Td.item : Td → Item
  | .seq c => .code c
  | .blk id => .inBlock id
  | .lp c => .inLoop c
  | .sc c => .inScope c
def items (l : List Td) : List Item := l.map Td.item
def Lv.exit : Lv → Exit
  | .nrm => .normal
  | .ret => .ret
  | .ext id => .exit id
theorem exitT_some {id : Nat} (k0 : List Item) : ∀ {k k' : List Td}, exitT id k = some k' → exitTo id (items k ++ k0) = some (items k' ++ k0)
  | [], _, h => by cases h
  | t :: k, k', h => by
    cases t with
    | seq c => exact exitT_some k0 (k := k) h
    | lp c => exact exitT_some k0 (k := k) h
    | sc c => exact exitT_some k0 (k := k) h
    | blk j =>
      have h : (bif Nat.beq j id then some k else exitT id k) = some k' := h
      show (if j == id then some (items k ++ k0) else exitTo id (items k ++ k0)) = _
      cases hb : Nat.beq j id with
      | true =>
        rw [hb] at h
        have := Nat.eq_of_beq_eq_true hb
        subst this
        simp only [cond_true, Option.some.injEq] at h
        subst h
        simp
      | false =>
        rw [hb] at h
        have hne : j ≠ id := fun e => by subst e; simp at hb
        rw [if_neg (by simpa using hne)]
        exact exitT_some k0 h
theorem exitT_none {id : Nat} (k0 : List Item) : ∀ {k : List Td}, exitT id k = none → exitTo id (items k ++ k0) = exitTo id k0
  | [], _ => rfl
  | t :: k, h => by
    cases t with
    | seq c => exact exitT_none k0 (k := k) h
    | lp c => exact exitT_none k0 (k := k) h
    | sc c => exact exitT_none k0 (k := k) h
    | blk j =>
      have h : (bif Nat.beq j id then some k else exitT id k) = none := h
      show (if j == id then some (items k ++ k0) else exitTo id (items k ++ k0)) = _
      cases hb : Nat.beq j id with
      | true => rw [hb] at h; cases h
      | false =>
        rw [hb] at h
        have hne : j ≠ id := fun e => by subst e; simp at hb
        rw [if_neg (by simpa using hne)]
        exact exitT_none k0 h
theorem fenced_FE (P : Program) (rb : Option Nat) (m : Machine) : m.fenced P (FE rb) := by
  cases rb with
  | none => exact fenced_wide P m
  | some b => exact fenced_wide P m
theorem stepR_scope {P : Program} {b : Frame} {a : Act} {k : List Item} {cs : List Frame} {w : World} {c : Code} : step P (lone (b.atR a (.code (.scope c) :: k)) cs w) = .next (lone (b.atR a (.code c :: .inScope c :: k)) cs w) :=
  step_lone_go (by simp [stepG, stepG.exec, Frame.atR])
theorem stepR_inScope {P : Program} {b : Frame} {a : Act} {k : List Item} {cs : List Frame} {w : World} {c : Code} : step P (lone (b.atR a (.inScope c :: k)) cs w) = .next (lone (b.atR a k) cs w) :=
  step_lone_go (by simp [stepG, stepG.exec, Frame.atR])
section
variable {X : Cx} {rb : Option Nat} {L : List Fin} {W : World} {Q0 : Exit → Act → World → Prop} {ρ0 : Rho}
/-- How an activation may be left. -/
structure EndOk (X : Cx) (W : World) (L : List Fin) (ρ0 : Rho) (Q0 : Exit → Act → World → Prop) : Prop where
  lv : ∀ j ds e H ρ a w, OkIn (X.lv j ds e H) L → Rho.le ρ0 ρ → SR W ρ H w → EvS ρ X.N e ds a (fun _ => False) → Q0 j.exit a w
  pan : PanOk X W L ρ0 Q0
/-- What is left to be done, behind a piece of code. -/
def RestQ (X : Cx) (W : World) (L : List Fin) (ρ0 : Rho) (Q0 : Exit → Act → World → Prop) (n : Nat) (k : List Td) : Exit → Act → World → Prop
  | .normal, a, w => ∃ ρ ds e H, OkIn (run X n k ds e H) L ∧ Rho.le ρ0 ρ ∧ SR W ρ H w ∧ EvS ρ X.N e ds a (fun _ => False)
  | .ret, a, w => ∃ ρ ds e H, OkIn (run X n (.seq .ret :: k) ds e H) L ∧ Rho.le ρ0 ρ ∧ SR W ρ H w ∧ EvS ρ X.N e ds a (fun _ => False)
  | .exit id, a, w => ∃ ρ ds e H, OkIn (run X n (.seq (.exit id) :: k) ds e H) L ∧ Rho.le ρ0 ρ ∧ SR W ρ H w ∧ EvS ρ X.N e ds a (fun _ => False)
  | .panic c, a, w => Q0 (.panic c) a w
  | _, _, _ => False
def Lands (X : Cx) (rb : Option Nat) (Q0 : Exit → Act → World → Prop) (m : Machine) (b : Frame) (k0 : List Item) (cs : List Frame) : Prop :=
  ∃ ex a' w', Q0 ex a' w' ∧ ArrivesIn (Machine.fenced X.C.P (FE rb)) X.C.P m b k0 cs ex a' w'
theorem Lands.of_steps {m m' : Machine} {b : Frame} {k0 : List Item} {cs : List Frame} (h : StepsIn (Machine.fenced X.C.P (FE rb)) X.C.P m m') (h' : Lands X rb Q0 m' b k0 cs) : Lands X rb Q0 m b k0 cs :=
  let ⟨ex, a, w, q, r⟩ := h'
  ⟨ex, a, w, q, .of_steps h r⟩
/-- What a deferred call's frame stands on. -/
def DmOk (X : Cx) (rb : Option Nat) (b : Frame) (cs : List Frame) : Prop := X.dm = true → rb = none ∧ b.kind = .deferred ∧ recoverD cs = none
/-- recover, where nobody panics. -/
theorem rcv_steps {P : Program} {d : Option Tmp} {ts : Array TypeId} {ty : TypeId} {pos : String} {af : Array Edge} {id : Nat} {a : Act} {w : World} {b : Frame} {k : List Item} {cs : List Frame} (hk : b.kind = .deferred) (hr : b.roundOf = none) (hc : recoverD cs = none) :
    StepsIn (Machine.fenced P Fence.wide) P (lone (b.atR a (.code (.region id #[⟨d, .call ⟨.builtin .recover, ⟨[]⟩, ts⟩, ty, pos, af, none⟩] false) :: k)) cs w) (lone (b.atR (a.put d .nilIface) k) cs w) := by
  have h : (Code.region id #[⟨d, .call ⟨.builtin .recover, ⟨[]⟩, ts⟩, ty, pos, af, none⟩] false).wpSIn Fence.wide 0 P (fun e a' cs' w' => e = .normal ∧ a' = a.put d .nilIface ∧ cs' = cs ∧ w' = w) a cs w := by
    refine wpSIn_region ?_
    obtain ⟨o, ho⟩ : ∃ o : Oper, o = ⟨d, .call ⟨.builtin .recover, ⟨[]⟩, ts⟩, ty, pos, af, none⟩ := ⟨_, rfl⟩
    have e : (execOp a.eval o).run P w = .ok .recover w := by
      subst ho
      simp [execOp, resolve, invoke, builtin]
    have hw : Region.wanted o (yielded #[o] a.tmps) = true := by subst ho; rfl
    have hd : o.dst = d := by subst ho; rfl
    rw [← ho]
    have key : wpOpsSIn Fence.wide 0 P #[o] (fun e a' cs' w' => e = .normal ∧ a' = a.put d .nilIface ∧ cs' = cs ∧ w' = w) [0] a cs w = ((∀ f, o.about P w a.eval = some f → Fence.wide.fn f) ∧
        if Region.wanted o (yielded #[o] a.tmps) then
          match (execOp a.eval o).run P w with
          | .ok .recover w' =>
            match recoverD cs with
            | some (v, cs') => wpOpsSIn Fence.wide 0 P #[o] (fun e a' cs' w' => e = .normal ∧ a' = a.put d .nilIface ∧ cs' = cs ∧ w' = w) [] (a.put o.dst v) cs' w'
            | none => wpOpsSIn Fence.wide 0 P #[o] (fun e a' cs' w' => e = .normal ∧ a' = a.put d .nilIface ∧ cs' = cs ∧ w' = w) [] (a.put o.dst .nilIface) cs w'
          | .ok (.value v) w' => wpOpsSIn Fence.wide 0 P #[o] (fun e a' cs' w' => e = .normal ∧ a' = a.put d .nilIface ∧ cs' = cs ∧ w' = w) [] (a.put o.dst v) cs w'
          | .ok .skip w' => wpOpsSIn Fence.wide 0 P #[o] (fun e a' cs' w' => e = .normal ∧ a' = a.put d .nilIface ∧ cs' = cs ∧ w' = w) [] (a.put o.dst undef) cs w'
          | .halt (.panic v) w' => (fun (e : Exit) a' cs' w' => e = .normal ∧ a' = a.put d .nilIface ∧ cs' = cs ∧ w' = w) (.panic [{ v, recovered := false }]) a cs w'
          | _ => False
        else wpOpsSIn Fence.wide 0 P #[o] (fun e a' cs' w' => e = .normal ∧ a' = a.put d .nilIface ∧ cs' = cs ∧ w' = w) [] (a.put o.dst undef) cs w) := rfl
    show wpOpsSIn Fence.wide 0 P #[o] _ [0] a cs w
    rw [key, if_pos hw, e, hd]
    simp only [hc]
    exact ⟨fun _ _ => trivial, rfl, rfl, rfl, rfl⟩
  obtain ⟨e, a', cs', w', _, ⟨rfl, rfl, rfl, rfl⟩, har⟩ := h b k hk hr trivial (fun d hd => by cases hd)
  exact har
theorem spc_spec (ops : Array Oper) : spc ops.toList = .no ∨ (∃ d ts ty pos af, ops = #[⟨d, .call ⟨.builtin .recover, ⟨[]⟩, ts⟩, ty, pos, af, none⟩] ∧ spc ops.toList = .rcv d) ∨
    ∃ o f ts ty pos af, ops = #[o, ⟨none, .defer ⟨.value f, ⟨[]⟩, ts⟩, ty, pos, af, none⟩] ∧ spc ops.toList = .dfr o f := by
  obtain ⟨l⟩ := ops
  show spc l = .no ∨ _
  unfold spc
  split
  · exact .inr (.inl ⟨_, _, _, _, _, rfl, rfl⟩)
  · exact .inr (.inr ⟨_, _, _, _, _, _, rfl, rfl⟩)
  · exact .inl rfl
theorem dfC_ok {ρ : Rho} {f : CV} {fv : Value} {d : Df} (hf : f.R ρ fv) (h : dfC f = some d) : ∃ g args xs cs, d = .fn g args ∧ CV.Rs ρ args (xs ++ cs) ∧ Deferred.ofValue fv #[] = pure { target := .fn (.func g) (List.toArray cs), args := (List.toArray xs) } := by
  unfold dfC at h
  split at h
  · rename_i g
    injection h with h
    subst h
    simp only [CV.R] at hf
    subst hf
    exact ⟨g, [], [], [], rfl, by simp [CV.Rs], by simp [Deferred.ofValue]⟩
  · rename_i g x y
    injection h with h
    subst h
    simp only [CV.R] at hf
    obtain ⟨xs, ys, rfl, r1, r2⟩ := hf
    exact ⟨g, _, xs, ys, rfl, by rw [catL_eq]; exact Rs_append r1 r2, by simp [Deferred.ofValue]⟩
  · cases h
theorem run_ok (hC : CallOk X.C W X.call) (hG : GOk X.C.G W) (hm : X.C.P.follows .mixedOrders = true) (hrd : RdOk X rb ρ0) (hQ : EndOk X W L ρ0 Q0) (b : Frame) (k0 : List Item) (cs : List Frame) (hb : b.roundOf = rb) (hdm : DmOk X rb b cs) :
    ∀ (n : Nat) (stk : List Td) (ds : Ds) (e : Tr CV) (H : CH) (ρ : Rho) (a : Act) (w : World), OkIn (run X n stk ds e H) L → Rho.le ρ0 ρ → SR W ρ H w → EvS ρ X.N e ds a (fun _ => False) →
      Lands X rb Q0 (lone (b.atR a (items stk ++ k0)) cs w) b k0 cs := by
  intro n
  induction n using Nat.strongRecOn with
  | _ n ih =>
    intro stk ds e H ρ a w h hle hS hE
    cases n with
    | zero => exact (OkIn.bad h).elim
    | succ n =>
      have ih0 := ih n (Nat.lt_succ_self n)
      have one : ∀ {m m' : Machine}, step X.C.P m = .next m' → StepsIn (Machine.fenced X.C.P (FE rb)) X.C.P m m' := fun h => .one (fenced_FE _ _ _) h
      -- behind a piece of code
      have rest : ∀ (c : Code) (k : List Td) (a : Act) (w : World), c.wpIn (FE rb) 0 X.C.P (RestQ X W L ρ0 Q0 n k) a w → Lands X rb Q0 (lone (b.atR a (.code c :: (items k ++ k0))) cs w) b k0 cs := by
        intro c k a w hw
        obtain ⟨ex, a', w', hq, har⟩ := hw b (items k ++ k0) cs hb trivial (fun d hd => by cases hd)
        cases ex with
        | normal =>
          obtain ⟨ρ', ds', e', H', h1, h2, h3, h4⟩ := hq
          exact .of_steps har (ih0 k ds' e' H' ρ' a' w' h1 h2 h3 h4)
        | ret =>
          obtain ⟨ρ', ds', e', H', h1, h2, h3, h4⟩ := hq
          cases n with
          | zero => exact (OkIn.bad h1).elim
          | succ n => exact ⟨.ret, a', w', hQ.lv .ret ds' e' H' ρ' a' w' h1 h2 h3 h4, har⟩
        | exit id =>
          obtain ⟨ρ', ds', e', H', h1, h2, h3, h4⟩ := hq
          cases n with
          | zero => exact (OkIn.bad h1).elim
          | succ n =>
            have h1 : OkIn (kExit id X (run X n) k ds' e' H') L := h1
            unfold kExit at h1
            split at h1
            · rename_i k' hk'
              exact .of_steps (har.1 _ (exitT_some k0 hk')) (ih n (by omega) k' ds' e' H' ρ' a' w' h1 h2 h3 h4)
            · rename_i hk'
              refine ⟨.exit id, a', w', hQ.lv (.ext id) ds' e' H' ρ' a' w' h1 h2 h3 h4, fun k' hk => har.1 k' (by rw [exitT_none k0 hk']; exact hk), fun hro hk => har.2 hro (by rw [exitT_none k0 hk']; exact hk)⟩
        | goto l => exact hq.elim
        | panic ch => exact ⟨.panic ch, a', w', hq, har⟩
        | outgrown => exact hq.elim
      cases stk with
      | nil =>
        have h : OkIn (X.lv .nrm ds e H) L := h
        exact ⟨.normal, a, w, hQ.lv .nrm ds e H ρ a w h hle hS hE, .refl _⟩
      | cons t k =>
        cases t with
        | blk id =>
          have h : OkIn (run X n k ds e H) L := h
          exact .of_steps (one stepR_inBlock) (ih0 k ds e H ρ a w h hle hS hE)
        | lp c =>
          have h : OkIn (run X n (.seq c :: .lp c :: k) ds e H) L := h
          exact .of_steps (one stepR_inLoop) (ih0 (.seq c :: .lp c :: k) ds e H ρ a w h hle hS hE)
        | sc c =>
          have h : OkIn (run X n k ds e H) L := h
          exact .of_steps (one stepR_inScope) (ih0 k ds e H ρ a w h hle hS hE)
        | seq c =>
          cases c with
          | skip =>
            have h : OkIn (run X n k ds e H) L := h
            exact .of_steps (one stepR_skip) (ih0 k ds e H ρ a w h hle hS hE)
          | region id ops draw =>
            have hp : PanOk X W L ρ (RestQ X W L ρ0 Q0 n k) := fun r v u H' w' a' h1 h2 h3 h4 h5 h6 => hQ.pan r v u H' w' a' h1 h2 (hle.trans h3) h4 h5 h6
            cases draw with
            | false =>
              have h : OkIn (kPlain ops X (run X n) k ds e H) L := h
              have plain : OkIn (listR X ds ops ops.toList e H (run X n k ds)) L → Lands X rb Q0 (lone (b.atR a (.code (.region id ops false) :: (items k ++ k0))) cs w) b k0 cs := fun h => by
                refine rest (.region id ops false) k a w (wpIn_region ?_)
                have := listR_ok (rb := rb) (K := run X n k ds) (Q := RestQ X W L ρ0 Q0 n k) (ops := ops) hC hG ops.size 0 ρ H w e a (by omega) hS hE (by simpa using h) (fun ρ' e' H' a' w' g1 g2 g3 g4 => ⟨ρ', ds, e', H', g4, hle.trans g1, g2, g3⟩) hp
                rw [← List.range_eq_range'] at this
                exact this
              unfold kPlain at h
              rcases spc_spec ops with hs | ⟨d, ts, ty, pos, af, ho, hs⟩ | ⟨o, f, ts, ty, pos, af, ho, hs⟩
              · rw [hs] at h
                exact plain h
              · rw [hs] at h
                subst ho
                have h : OkIn (Bool.rec (motive := fun _ => Ans) (.bad X.fid 944) (putK X.N e d (.v .nilIface) fun e => run X n k ds e H) X.dm) L := h
                cases hd : X.dm with
                | false => rw [hd] at h; exact (OkIn.bad h).elim
                | true =>
                  rw [hd] at h
                  obtain ⟨q1, q2, q3⟩ := hdm hd
                  subst q1
                  have h : OkIn (putK X.N e d (.v .nilIface) fun e => run X n k ds e H) L := h
                  rw [putK_eq] at h
                  exact .of_steps (rcv_steps q2 hb q3) (ih0 k ds _ H ρ (a.put d .nilIface) w h hle hS (hE.put (Rho.le.refl _) _ (by simp only [CV.R])))
              · rw [hs] at h
                have h : OkIn (stepO X ds ops o e H fun e H => spPush X (run X n) k ds e H (dfC (opd e f))) L := h
                refine rest (.region id ops false) k a w (wpIn_region ?_)
                subst ho
                show wpOpsIn (FE rb) 0 X.C.P _ _ [0, 1] a w
                simp only [wpOpsIn, List.getElem?_toArray, List.getElem?_cons_zero, List.getElem?_cons_succ]
                refine stepO_ok hC hG hS hE o (fun _ _ h => h) h (fun v H' ρ' u w' hk' hle' hS' hv => ?_) hp
                have hE' := hE.put hle' o.dst hv
                unfold spPush at hk'
                split at hk'
                · rename_i d hdf hrn
                  have hrb : rb = none := by
                    rcases hrd with ⟨_, h2⟩ | ⟨l, b', m, h1, _⟩
                    · exact h2
                    · rw [hrn] at h1; cases h1
                  subst hrb
                  obtain ⟨g, args, xs, cs', rfl, r1, r2⟩ := dfC_ok (opd_ok hE' f) hdf
                  rw [if_pos (show Region.wanted _ _ = true from rfl)]
                  refine ⟨fun _ _ => trivial, ?_⟩
                  have e1 : (Oper.semAt (FE none).round (a.put o.dst u).eval (⟨none, .defer ⟨.value f, ⟨[]⟩, ts⟩, ty, pos, af, none⟩ : Oper)).run X.C.P w' = .ok (.defer { target := .fn (.func g) cs'.toArray, args := xs.toArray }) w' := by
                    rw [show (FE none).round = none from rfl, Oper.semAt_none]
                    simp [execOp, resolve, r2]
                  rw [e1, Oper.uponIn_defer]
                  refine ⟨ρ', _, _, H', hk', hle.trans hle', hS', ⟨hE'.size, fun t x hx hs => hE'.slot t x hx hs, ⟨xs, cs', (a.put o.dst u).defers, r1, rfl, hE'.marks⟩⟩⟩
                · exact (OkIn.bad hk').elim
            | true =>
              have h : OkIn (drawQ X ds ops e H (run X n k ds)) L := h
              rw [drawQ_eq] at h
              refine rest (.region id ops true) k a w ?_
              exact drawC_ok (K := run X n k ds) hC hG hm hS hE h (fun e' H' a' w' ρ' g1 g2 g3 g4 => ⟨ρ', ds, e', H', g3, hle.trans g4, g1, g2⟩) hp
          | seq x y =>
            have h : OkIn (run X n (.seq x :: .seq y :: k) ds e H) L := h
            exact .of_steps (one stepR_seq) (ih0 (.seq x :: .seq y :: k) ds e H ρ a w h hle hS hE)
          | cond c x y =>
            have h : OkIn (match opd e c with
              | .bool true => run X n (.seq x :: k) ds e H
              | .bool false => run X n (.seq y :: k) ds e H
              | _ => .bad X.fid 906) L := h
            have hc := opd_ok hE c
            split at h
            · rename_i hv
              rw [hv] at hc
              simp only [CV.R] at hc
              exact .of_steps (one (stepR_cond hc)) (ih0 (.seq x :: k) ds e H ρ a w h hle hS hE)
            · rename_i hv
              rw [hv] at hc
              simp only [CV.R] at hc
              exact .of_steps (one (stepR_cond hc)) (ih0 (.seq y :: k) ds e H ρ a w h hle hS hE)
            · exact (OkIn.bad h).elim
          | block id c =>
            have h : OkIn (run X n (.seq c :: .blk id :: k) ds e H) L := h
            exact .of_steps (one stepR_block) (ih0 (.seq c :: .blk id :: k) ds e H ρ a w h hle hS hE)
          | loop c =>
            have h : OkIn (run X n (.seq c :: .lp c :: k) ds e H) L := h
            exact .of_steps (one stepR_loop) (ih0 (.seq c :: .lp c :: k) ds e H ρ a w h hle hS hE)
          | rangeFunc f ps asg body =>
            have h : OkIn (rangeR X f ps asg body ds e H fun pend ds H => match pend with
              | none => run X n k ds e H
              | some .ret => run X n (.seq .ret :: k) ds e H
              | some (.exit id) => run X n (.seq (.exit id) :: k) ds e H
              | _ => .bad X.fid 933) L := h
            refine rest (.rangeFunc f ps asg body) k a w (rangeR_ok hC (hrd.mono hle) hS hE h fun pend ds' H' ρ' a' w' g1 g2 g3 g4 => ?_)
            split at g1
            · exact ⟨ρ', ds', e, H', g1, hle.trans g2, g3, g4⟩
            · exact wpIn_ret ⟨ρ', ds', e, H', g1, hle.trans g2, g3, g4⟩
            · exact wpIn_exit ⟨ρ', ds', e, H', g1, hle.trans g2, g3, g4⟩
            · exact (OkIn.bad g1).elim
          | exit id =>
            have h : OkIn (kExit id X (run X n) k ds e H) L := h
            unfold kExit at h
            split at h
            · rename_i k' hk'
              exact .of_steps (one (stepR_exit (exitT_some k0 hk'))) (ih0 k' ds e H ρ a w h hle hS hE)
            · rename_i hk'
              refine ⟨.exit id, a, w, hQ.lv (.ext id) ds e H ρ a w h hle hS hE, fun k' hk => one (stepR_exit (by rw [← hk]; exact exitT_none k0 hk')), fun hro hk => ⟨items k ++ k0, by rw [exitT_none k0 hk']; exact hk, .refl _⟩⟩
          | scope c =>
            have h : OkIn (run X n (.seq c :: .sc c :: k) ds e H) L := h
            exact .of_steps (one stepR_scope) (ih0 (.seq c :: .sc c :: k) ds e H ρ a w h hle hS hE)
          | label l =>
            have h : OkIn (run X n k ds e H) L := h
            exact .of_steps (one stepR_label) (ih0 k ds e H ρ a w h hle hS hE)
          | goto l => exact (OkIn.bad h).elim
          | ret =>
            have h : OkIn (X.lv .ret ds e H) L := h
            exact ⟨.ret, a, w, hQ.lv .ret ds e H ρ a w h hle hS hE, fun hn => ⟨_, one (stepR_ret hn)⟩, fun _ => ⟨items k ++ k0, .refl _⟩⟩
          | refuse y => exact (OkIn.bad h).elim
end
end Go.Proofs.YtjhaikcokbmdbaaGreatDoor.Cx
