/-
  Closed runs: a run that is cut into pieces.
-/
import Derived.Test.YtacmeiclljbppaaGreatDoorCxZe
namespace Go.Proofs.YtacmeiclljbppaaGreatDoor.Cx
open Go.RowKit Go.Proofs.YtacmeiclljbppaaGreatDoor.Ax

/-- Bytes as cells (states are printed so). -/
noncomputable def by8 (l : List Nat) : List CV := mapL (fun n => .int .u8 (.ofNat n)) l
theorem run_cut (X : Cx) : ∀ n k, run X (n + k) = runK X (run X k) n
  | 0, k => by rw [Nat.zero_add]; rfl
  | n + 1, k => by
    have h := run_cut X n k
    have e : n + 1 + k = (n + k) + 1 := by omega
    rw [e]
    show runS X (run X (n + k)) = runS X (runK X (run X k) n)
    rw [h]
theorem cut {X : Cx} {n : Nat} {stk stk' : List Td} {ds ds' : Ds} {e e' : Tr CV} {H H' : CH} (h : (fun K => runK X K n stk ds e H) = fun K => K stk' ds' e' H') (k : Nat) : run X (n + k) stk ds e H = run X k stk' ds' e' H' := by
  rw [run_cut]
  exact congrFun h (run X k)
/-- The activation of a function that takes nothing. -/
noncomputable def topX (C : Cf) (n f : Nat) (fd : Func) : Cx := ⟨C, callN C n, f, fd.ntmps, none, lvF C (callN C n) f fd.results.toList, false⟩
theorem callN_top {C : Cf} {n f : Nat} {fd : Func} {c : Code} (hx : C.X.get f = Option.none) (hf : C.P.funcs[f]? = some fd) (hc : fd.body = some c) (hn : (fd.name == "runtime.NumGoroutine") = false) :
    callN C (n + 1) (.fn f) [] h0 = dedup (Nat.ble C.S n) (len gmaps) (run (topX C n f fd) 1000000 [.seq c] [] .lf h0) := by
  have h : callN C (n + 1) (.fn f) [] h0 = (match C.X.get f with
        | some x => extC f x [] h0
        | none => (match fnd C f with
          | none => .bad f 912
          | some fd => (match fd.body with
            | none => .bad f 913
            | some c => bif Nat.ble (len ([] : List CV)) fd.ntmps && !(fd.name == "runtime.NumGoroutine") then envK [] 0 .lf fun e => dedup (Nat.ble C.S n) (CH.next h0) (run ⟨C, callN C n, f, fd.ntmps, none, lvF C (callN C n) f fd.results.toList, false⟩ 1000000 [.seq c] [] e h0) else .bad f 926))) := rfl
  rw [h, hx, fnd_eq, hf]
  simp only [hc, hn]
  rfl
end Go.Proofs.YtacmeiclljbppaaGreatDoor.Cx
