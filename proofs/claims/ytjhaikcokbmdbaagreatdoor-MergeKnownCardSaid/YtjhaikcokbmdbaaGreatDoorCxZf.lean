/-
  Closed runs: a run that is cut into pieces.
-/
import Derived.Test.YtjhaikcokbmdbaaGreatDoorCxZe
namespace Go.Proofs.YtjhaikcokbmdbaaGreatDoor.Cx
open Go.RowKit Go.Proofs.YtjhaikcokbmdbaaGreatDoor.Ax

/-- Bytes as cells (states are printed so). -/
noncomputable def by8 (l : List Nat) : List CV := mapL (fun n => .int .u8 (.ofNat n)) l
theorem run_cut (X : Cx) : ∀ n k, run X (n + k) = runK X (run X k) n
  | 0, k => by rw [Nat.zero_add]; rfl
  | n + 1, k => by
    have h := run_cut X n k
    have e : n + 1 + k = (n + k) + 1 := by omega
    rw [e]
    show runS X (run X (n + k)) = runS X (runK X (run X k) n)
    rw [h]
theorem cut {X : Cx} {n : Nat} {stk stk' : List Td} {ds ds' : Ds} {e e' : Tr CV} {H H' : CH} (h : (fun K => runK X K n stk ds e H) = fun K => K stk' ds' e' H') (k : Nat) : run X (n + k) stk ds e H = run X k stk' ds' e' H' := by
  rw [run_cut]
  exact congrFun h (run X k)
/-- The activation of a function that takes nothing. -/
noncomputable def topX (C : Cf) (n f : Nat) (fd : Func) : Cx := ⟨C, callN C n, f, fd.ntmps, none, lvF C (callN C n) f fd.results.toList, false⟩
theorem callN_top {C : Cf} {n f : Nat} {fd : Func} {c : Code} (hx : C.X.get f = Option.none) (hf : C.P.funcs[f]? = some fd) (hc : fd.body = some c) (hn : (fd.name == "runtime.NumGoroutine") = false) :
    callN C (n + 1) (.fn f) [] h0 = dedup (Nat.ble C.S n) (len gmaps) (run (topX C n f fd) 1000000 [.seq c] [] .lf h0) := by
  have h : callN C (n + 1) (.fn f) [] h0 = (match C.X.get f with
        | some x => extC f x [] h0
        | none => (match fnd C f with
          | none => .bad f 912
          | some fd => (match fd.body with
            | none => .bad f 913
            | some c => bif Nat.ble (len ([] : List CV)) fd.ntmps && !(fd.name == "runtime.NumGoroutine") then envK [] 0 .lf fun e => dedup (Nat.ble C.S n) (CH.next h0) (run ⟨C, callN C n, f, fd.ntmps, none, lvF C (callN C n) f fd.results.toList, false⟩ 1000000 [.seq c] [] e h0) else .bad f 926))) := rfl
  rw [h, hx, fnd_eq, hf]
  simp only [hc, hn]
  rfl
theorem envK_id {β : Type} : ∀ (l : List CV) (n : Nat) (t : Tr CV) (k : Tr CV → β), envK l n t k = k (envK l n t fun e => e)
  | [], _, _, _ => rfl
  | x :: xs, n, t, k => by
    have e : ∀ {γ : Type} (k : Tr CV → γ), envK (x :: xs) n t k = t.setK n (some x) fun t => natK (n + 1) fun n => envK xs n t k := fun _ => rfl
    rw [e k, e fun e => e, Tr.setK_eq, Tr.setK_eq, natK_eq, natK_eq]
    exact envK_id xs (n + 1) _ k
/-- A call, as a run of the function's code. -/
theorem callN_in {C : Cf} {n f : Nat} {fd : Func} {c : Code} {args : List CV} {H : CH} (hx : C.X.get f = Option.none) (hf : C.P.funcs[f]? = some fd) (hc : fd.body = some c) (hl : (Nat.ble (len args) fd.ntmps && !(fd.name == "runtime.NumGoroutine")) = true) :
    callN C (n + 1) (.fn f) args H = dedup (Nat.ble C.S n) H.next (run (topX C n f fd) 1000000 [.seq c] [] (envK args 0 .lf fun e => e) H) := by
  have h : callN C (n + 1) (.fn f) args H = (match C.X.get f with
        | some x => extC f x args H
        | none => (match fnd C f with
          | none => .bad f 912
          | some fd => (match fd.body with
            | none => .bad f 913
            | some c => bif Nat.ble (len args) fd.ntmps && !(fd.name == "runtime.NumGoroutine") then envK args 0 .lf fun e => dedup (Nat.ble C.S n) H.next (run ⟨C, callN C n, f, fd.ntmps, none, lvF C (callN C n) f fd.results.toList, false⟩ 1000000 [.seq c] [] e H) else .bad f 926))) := rfl
  rw [h, hx, fnd_eq, hf]
  simp only [hc, hl, cond_true]
  exact envK_id args 0 .lf fun e => dedup (Nat.ble C.S n) H.next (run (topX C n f fd) 1000000 [.seq c] [] e H)
/-- Calls, one of which is known already. -/
noncomputable def callK (base : CallT) (f0 : Nat) (as0 : List CV) (H0 : CH) (a0 : Ans) : CallT := fun c args H => match c with
  | .fn f => bif Nat.beq f f0 && ceqF 9 (.agg args) (.agg as0) && heq H H0 then a0 else base (.fn f) args H
  | c => base c args H
theorem callK_eq {base : CallT} {f0 : Nat} {as0 : List CV} {H0 : CH} {a0 : Ans} (h : base (.fn f0) as0 H0 = a0) : callK base f0 as0 H0 a0 = base := by
  funext c args H
  cases c with
  | fn f =>
    show (bif Nat.beq f f0 && ceqF 9 (.agg args) (.agg as0) && heq H H0 then a0 else base (.fn f) args H) = base (.fn f) args H
    cases hb : (Nat.beq f f0 && ceqF 9 (.agg args) (.agg as0) && heq H H0) with
    | false => rfl
    | true =>
      rw [Bool.and_eq_true, Bool.and_eq_true] at hb
      obtain ⟨⟨h1, h2⟩, h3⟩ := hb
      have h2 := ceqF_spec 9 _ _ h2
      injection h2 with h2
      rw [Nat.eq_of_beq_eq_true h1, h2, heq_spec h3]
      exact h.symm
  | rnd _ => rfl
  | dfd _ => rfl
/-- An activation that knows a call's answer already. -/
theorem topK {C : Cf} {n f f0 : Nat} {fd : Func} {as0 : List CV} {H0 : CH} {a0 : Ans} (h : callN C n (.fn f0) as0 H0 = a0) :
    (⟨C, callK (callN C n) f0 as0 H0 a0, f, fd.ntmps, none, lvF C (callN C n) f fd.results.toList, false⟩ : Cx) = topX C n f fd := by
  rw [callK_eq h]
  rfl
end Go.Proofs.YtjhaikcokbmdbaaGreatDoor.Cx
