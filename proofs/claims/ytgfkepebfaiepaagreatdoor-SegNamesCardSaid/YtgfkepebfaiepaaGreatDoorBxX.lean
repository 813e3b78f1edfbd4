/-
  Small things for walks.
-/
import Derived.Test.YtgfkepebfaiepaaGreatDoorBxW
namespace Go.Proofs.YtgfkepebfaiepaaGreatDoor.Ax
open Go.RowKit
def okByte (d : TD) : Bool := !isByte d || (Nat.beq d.size 1 && (Nat.beq d.bytes 1 && match d.zero with | some (.int .u8 (.ofNat n)) => Nat.beq n 0 | _ => false))
theorem TBytes.of_all {T : TT} (h : T.all (fun p => okByte p.2) = true) : TBytes T := by
 intro t d hd hb
 have hm : (t, d) ∈ T := by
  clear h
  induction T with
  | nil => cases hd
  | cons q qs ih =>
    unfold TT.get at hd
    cases hq : Nat.beq q.1 t with
    | true =>
      rw [hq] at hd
      simp only [cond_true, Option.some.injEq] at hd
      rw [← Nat.eq_of_beq_eq_true hq, ← hd]
      exact List.mem_cons_self ..
    | false =>
      rw [hq] at hd
      exact List.mem_cons_of_mem _ (ih hd)
 have := List.all_eq_true.1 h _ hm
 unfold okByte at this
 simp only [hb, Bool.not_true, Bool.false_or, Bool.and_eq_true] at this
 obtain ⟨a, b, c⟩ := this
 refine ⟨Nat.eq_of_beq_eq_true a, Nat.eq_of_beq_eq_true b, ?_⟩
 split at c
 ·rename_i n hz
  rw [hz, Nat.eq_of_beq_eq_true c]
  rfl
 ·cases c
end Go.Proofs.YtgfkepebfaiepaaGreatDoor.Ax
