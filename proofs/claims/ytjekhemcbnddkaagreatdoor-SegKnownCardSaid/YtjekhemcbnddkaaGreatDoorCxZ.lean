/-
  Closed runs: code.
-/
import Derived.Test.YtjekhemcbnddkaaGreatDoorCxY
namespace Go.Proofs.YtjekhemcbnddkaaGreatDoor.Cx
open Go.RowKit Go.Proofs.YtjekhemcbnddkaaGreatDoor.Ax

def Td.item : Td → Item
  | .seq c => .code c
  | .blk id => .inBlock id
  | .lp c => .inLoop c
def items (l : List Td) : List Item := l.map Td.item
def Lv.exit : Lv → Exit
  | .nrm => .normal
  | .ret => .ret
  | .ext id => .exit id
theorem exitT_some {id : Nat} (k0 : List Item) : ∀ {k k' : List Td}, exitT id k = some k' → exitTo id (items k ++ k0) = some (items k' ++ k0)
  | [], _, h => by cases h
  | t :: k, k', h => by
    cases t with
    | seq c => exact exitT_some k0 (k := k) h
    | lp c => exact exitT_some k0 (k := k) h
    | blk j =>
      have h : (bif Nat.beq j id then some k else exitT id k) = some k' := h
      show (if j == id then some (items k ++ k0) else exitTo id (items k ++ k0)) = _
      cases hb : Nat.beq j id with
      | true =>
        rw [hb] at h
        have := Nat.eq_of_beq_eq_true hb
        subst this
        simp only [cond_true, Option.some.injEq] at h
        subst h
        simp
      | false =>
        rw [hb] at h
        have hne : j ≠ id := fun e => by subst e; simp at hb
        rw [if_neg (by simpa using hne)]
        exact exitT_some k0 h
theorem exitT_none {id : Nat} (k0 : List Item) : ∀ {k : List Td}, exitT id k = none → exitTo id (items k ++ k0) = exitTo id k0
  | [], _ => rfl
  | t :: k, h => by
    cases t with
    | seq c => exact exitT_none k0 (k := k) h
    | lp c => exact exitT_none k0 (k := k) h
    | blk j =>
      have h : (bif Nat.beq j id then some k else exitT id k) = none := h
      show (if j == id then some (items k ++ k0) else exitTo id (items k ++ k0)) = _
      cases hb : Nat.beq j id with
      | true => rw [hb] at h; cases h
      | false =>
        rw [hb] at h
        have hne : j ≠ id := fun e => by subst e; simp at hb
        rw [if_neg (by simpa using hne)]
        exact exitT_none k0 h
theorem fenced_FE (P : Program) (rb : Option Nat) (m : Machine) : m.fenced P (FE rb) := by
  cases rb with
  | none => exact fenced_wide P m
  | some b => exact fenced_wide P m
section
variable {X : Cx} {rb : Option Nat} {L : List Fin} {W : World} {Q0 : Exit → Act → World → Prop} {ρ0 : Rho}
/-- How an activation may be left. -/
structure EndOk (X : Cx) (W : World) (L : List Fin) (ρ0 : Rho) (Q0 : Exit → Act → World → Prop) : Prop where
  lv : ∀ j ds e H ρ a w, OkIn (X.lv j ds e H) L → Rho.le ρ0 ρ → SR W ρ H w → EvS ρ X.N e ds a (fun _ => False) → Q0 j.exit a w
  pan : PanOk X W L ρ0 Q0
/-- What is left to be done, behind a piece of code. -/
def RestQ (X : Cx) (W : World) (L : List Fin) (ρ0 : Rho) (Q0 : Exit → Act → World → Prop) (n : Nat) (k : List Td) : Exit → Act → World → Prop
  | .normal, a, w => ∃ ρ ds e H, OkIn (run X n k ds e H) L ∧ Rho.le ρ0 ρ ∧ SR W ρ H w ∧ EvS ρ X.N e ds a (fun _ => False)
  | .ret, a, w => ∃ ρ ds e H, OkIn (run X n (.seq .ret :: k) ds e H) L ∧ Rho.le ρ0 ρ ∧ SR W ρ H w ∧ EvS ρ X.N e ds a (fun _ => False)
  | .exit id, a, w => ∃ ρ ds e H, OkIn (run X n (.seq (.exit id) :: k) ds e H) L ∧ Rho.le ρ0 ρ ∧ SR W ρ H w ∧ EvS ρ X.N e ds a (fun _ => False)
  | .panic c, a, w => Q0 (.panic c) a w
  | _, _, _ => False
def Lands (X : Cx) (rb : Option Nat) (Q0 : Exit → Act → World → Prop) (m : Machine) (b : Frame) (k0 : List Item) (cs : List Frame) : Prop :=
  ∃ ex a' w', Q0 ex a' w' ∧ ArrivesIn (Machine.fenced X.C.P (FE rb)) X.C.P m b k0 cs ex a' w'
theorem Lands.of_steps {m m' : Machine} {b : Frame} {k0 : List Item} {cs : List Frame} (h : StepsIn (Machine.fenced X.C.P (FE rb)) X.C.P m m') (h' : Lands X rb Q0 m' b k0 cs) : Lands X rb Q0 m b k0 cs :=
  let ⟨ex, a, w, q, r⟩ := h'
  ⟨ex, a, w, q, .of_steps h r⟩
theorem run_ok (hC : CallOk X.C W X.call) (hG : GOk X.C.G W) (hm : X.C.P.follows .mixedOrders = true) (hrd : RdOk X rb ρ0) (hQ : EndOk X W L ρ0 Q0) (b : Frame) (k0 : List Item) (cs : List Frame) (hb : b.roundOf = rb) :
    ∀ (n : Nat) (stk : List Td) (ds : List Nat) (e : Tr CV) (H : CH) (ρ : Rho) (a : Act) (w : World), OkIn (run X n stk ds e H) L → Rho.le ρ0 ρ → SR W ρ H w → EvS ρ X.N e ds a (fun _ => False) →
      Lands X rb Q0 (lone (b.atR a (items stk ++ k0)) cs w) b k0 cs := by
  intro n
  induction n using Nat.strongRecOn with
  | _ n ih =>
    intro stk ds e H ρ a w h hle hS hE
    cases n with
    | zero => exact (OkIn.bad h).elim
    | succ n =>
      have ih0 := ih n (Nat.lt_succ_self n)
      have one : ∀ {m m' : Machine}, step X.C.P m = .next m' → StepsIn (Machine.fenced X.C.P (FE rb)) X.C.P m m' := fun h => .one (fenced_FE _ _ _) h
      -- behind a piece of code
      have rest : ∀ (c : Code) (k : List Td) (a : Act) (w : World), c.wpIn (FE rb) 0 X.C.P (RestQ X W L ρ0 Q0 n k) a w → Lands X rb Q0 (lone (b.atR a (.code c :: (items k ++ k0))) cs w) b k0 cs := by
        intro c k a w hw
        obtain ⟨ex, a', w', hq, har⟩ := hw b (items k ++ k0) cs hb trivial (fun d hd => by cases hd)
        cases ex with
        | normal =>
          obtain ⟨ρ', ds', e', H', h1, h2, h3, h4⟩ := hq
          exact .of_steps har (ih0 k ds' e' H' ρ' a' w' h1 h2 h3 h4)
        | ret =>
          obtain ⟨ρ', ds', e', H', h1, h2, h3, h4⟩ := hq
          cases n with
          | zero => exact (OkIn.bad h1).elim
          | succ n => exact ⟨.ret, a', w', hQ.lv .ret ds' e' H' ρ' a' w' h1 h2 h3 h4, har⟩
        | exit id =>
          obtain ⟨ρ', ds', e', H', h1, h2, h3, h4⟩ := hq
          cases n with
          | zero => exact (OkIn.bad h1).elim
          | succ n =>
            have h1 : OkIn (kExit id X (run X n) k ds' e' H') L := h1
            unfold kExit at h1
            split at h1
            · rename_i k' hk'
              exact .of_steps (har.1 _ (exitT_some k0 hk')) (ih n (by omega) k' ds' e' H' ρ' a' w' h1 h2 h3 h4)
            · rename_i hk'
              refine ⟨.exit id, a', w', hQ.lv (.ext id) ds' e' H' ρ' a' w' h1 h2 h3 h4, fun k' hk => har.1 k' (by rw [exitT_none k0 hk']; exact hk), fun hro hk => har.2 hro (by rw [exitT_none k0 hk']; exact hk)⟩
        | goto l => exact hq.elim
        | panic ch => exact ⟨.panic ch, a', w', hq, har⟩
        | outgrown => exact hq.elim
      cases stk with
      | nil =>
        have h : OkIn (X.lv .nrm ds e H) L := h
        exact ⟨.normal, a, w, hQ.lv .nrm ds e H ρ a w h hle hS hE, .refl _⟩
      | cons t k =>
        cases t with
        | blk id =>
          have h : OkIn (run X n k ds e H) L := h
          exact .of_steps (one stepR_inBlock) (ih0 k ds e H ρ a w h hle hS hE)
        | lp c =>
          have h : OkIn (run X n (.seq c :: .lp c :: k) ds e H) L := h
          exact .of_steps (one stepR_inLoop) (ih0 (.seq c :: .lp c :: k) ds e H ρ a w h hle hS hE)
        | seq c =>
          cases c with
          | skip =>
            have h : OkIn (run X n k ds e H) L := h
            exact .of_steps (one stepR_skip) (ih0 k ds e H ρ a w h hle hS hE)
          | region id ops draw =>
            refine rest (.region id ops draw) k a w ?_
            have hp : PanOk X W L ρ (RestQ X W L ρ0 Q0 n k) := fun r v u H' w' a' h1 h2 h3 h4 h5 h6 => hQ.pan r v u H' w' a' h1 h2 (hle.trans h3) h4 h5 h6
            cases draw with
            | false =>
              have h : OkIn (listR X ds ops ops.toList e H (run X n k ds)) L := h
              refine wpIn_region ?_
              have := listR_ok (rb := rb) (K := run X n k ds) (Q := RestQ X W L ρ0 Q0 n k) (ops := ops) hC hG ops.size 0 ρ H w e a (by omega) hS hE (by simpa using h) (fun ρ' e' H' a' w' g1 g2 g3 g4 => ⟨ρ', ds, e', H', g4, hle.trans g1, g2, g3⟩) hp
              rw [← List.range_eq_range'] at this
              exact this
            | true =>
              have h : OkIn (drawC X ds ops e H (run X n k ds)) L := h
              exact drawC_ok (K := run X n k ds) hC hG hm hS hE h (fun e' H' a' w' ρ' g1 g2 g3 g4 => ⟨ρ', ds, e', H', g3, hle.trans g4, g1, g2⟩) hp
          | seq x y =>
            have h : OkIn (run X n (.seq x :: .seq y :: k) ds e H) L := h
            exact .of_steps (one stepR_seq) (ih0 (.seq x :: .seq y :: k) ds e H ρ a w h hle hS hE)
          | cond c x y =>
            have h : OkIn (match opd e c with
              | .bool true => run X n (.seq x :: k) ds e H
              | .bool false => run X n (.seq y :: k) ds e H
              | _ => .bad X.fid 906) L := h
            have hc := opd_ok hE c
            split at h
            · rename_i hv
              rw [hv] at hc
              simp only [CV.R] at hc
              exact .of_steps (one (stepR_cond hc)) (ih0 (.seq x :: k) ds e H ρ a w h hle hS hE)
            · rename_i hv
              rw [hv] at hc
              simp only [CV.R] at hc
              exact .of_steps (one (stepR_cond hc)) (ih0 (.seq y :: k) ds e H ρ a w h hle hS hE)
            · exact (OkIn.bad h).elim
          | block id c =>
            have h : OkIn (run X n (.seq c :: .blk id :: k) ds e H) L := h
            exact .of_steps (one stepR_block) (ih0 (.seq c :: .blk id :: k) ds e H ρ a w h hle hS hE)
          | loop c =>
            have h : OkIn (run X n (.seq c :: .lp c :: k) ds e H) L := h
            exact .of_steps (one stepR_loop) (ih0 (.seq c :: .lp c :: k) ds e H ρ a w h hle hS hE)
          | rangeFunc f ps asg body =>
            have h : OkIn (rangeR X f ps asg body ds e H fun pend ds H => match pend with
              | none => run X n k ds e H
              | some .ret => run X n (.seq .ret :: k) ds e H
              | some (.exit id) => run X n (.seq (.exit id) :: k) ds e H
              | _ => .bad X.fid 933) L := h
            refine rest (.rangeFunc f ps asg body) k a w (rangeR_ok hC (hrd.mono hle) hS hE h fun pend ds' H' ρ' a' w' g1 g2 g3 g4 => ?_)
            split at g1
            · exact ⟨ρ', ds', e, H', g1, hle.trans g2, g3, g4⟩
            · exact wpIn_ret ⟨ρ', ds', e, H', g1, hle.trans g2, g3, g4⟩
            · exact wpIn_exit ⟨ρ', ds', e, H', g1, hle.trans g2, g3, g4⟩
            · exact (OkIn.bad g1).elim
          | exit id =>
            have h : OkIn (kExit id X (run X n) k ds e H) L := h
            unfold kExit at h
            split at h
            · rename_i k' hk'
              exact .of_steps (one (stepR_exit (exitT_some k0 hk'))) (ih0 k' ds e H ρ a w h hle hS hE)
            · rename_i hk'
              refine ⟨.exit id, a, w, hQ.lv (.ext id) ds e H ρ a w h hle hS hE, fun k' hk => one (stepR_exit (by rw [← hk]; exact exitT_none k0 hk')), fun hro hk => ⟨items k ++ k0, by rw [exitT_none k0 hk']; exact hk, .refl _⟩⟩
          | scope c => exact (OkIn.bad h).elim
          | label l =>
            have h : OkIn (run X n k ds e H) L := h
            exact .of_steps (one stepR_label) (ih0 k ds e H ρ a w h hle hS hE)
          | goto l => exact (OkIn.bad h).elim
          | ret =>
            have h : OkIn (X.lv .ret ds e H) L := h
            exact ⟨.ret, a, w, hQ.lv .ret ds e H ρ a w h hle hS hE, fun hn => ⟨_, one (stepR_ret hn)⟩, fun _ => ⟨items k ++ k0, .refl _⟩⟩
          | refuse y => exact (OkIn.bad h).elim
end
end Go.Proofs.YtjekhemcbnddkaaGreatDoor.Cx
