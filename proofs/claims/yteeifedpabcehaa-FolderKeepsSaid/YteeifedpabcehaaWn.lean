/-
  Chapter 06: the law's examples, reckoned; told to the abstract machine.
-/
import Derived.Test.YteeifedpabcehaaWk
import Derived.Test.YteeifedpabcehaaBxZc
namespace Go.Proofs.Yteeifedpabcehaa.Cx
open Go.RowKit Go.Proofs.Yteeifedpabcehaa.Bm
theorem knows_true : goodA (mainC C0 13) = true := by kernel_rfl
theorem knows_calls (W : World) : Calls Try.prog 13 #[] W fun e W' => e = .returned (.bool true) ∧ Below W.heap.size W W' :=
  calls_of_run (C := C0) (GOk.none W) (by kernel_rfl) (xok0 W) (f := 13) (fd := Try.f13) (by kernel_rfl) (by kernel_rfl) (by kernel_rfl) (by kernel_rfl) knows_true
end Go.Proofs.Yteeifedpabcehaa.Cx
namespace Go.Proofs.Yteeifedpabcehaa.Ax
open Go.RowKit
/-- A closed function that is known by reckoning. -/
theorem AFn.closed {P : Program} {f : FuncId} (hfn : ∃ fn, P.funcs[f]? = some fn ∧ (fn.name == "runtime.NumGoroutine") = false ∧ fn.body.isNone = false) (h : ∀ W, Calls P f #[] W fun e W' => e = .returned (.bool true) ∧ Below W.heap.size W W') :
    AFn P f [] ⟨0, []⟩ (fun _ : Unit => AV.bool true) (fun _ => ⟨0, []⟩) :=
  ⟨hfn, fun ρ ι w cargs hG hS hr => by
    simp only [AV.Rs] at hr
    subst hr
    refine (h w).mono fun e w' ⟨he, hb⟩ => ?_
    subst he
    have ht : Touch (fun _ => False) w w' := ⟨hb.os, hb.tape, hb.output, hb.size, fun k hk _ => hb.block k hk⟩
    obtain ⟨_, q2, q3⟩ := hS.addImm ht w.heap.size (Nat.le_refl _) (fun _ => none) (fun o v h => by cases h)
    exact ⟨AV.bool true, _, ρ, _, ⟨(), rfl, rfl⟩, by simp only [AV.R, IV.R], q2, q3⟩⟩
theorem knows_ok : AFn Try.prog 13 [] ⟨0, []⟩ (fun _ : Unit => AV.bool true) (fun _ => ⟨0, []⟩) :=
  AFn.closed ⟨_, Try.func13, by kernel_rfl, by kernel_rfl⟩ Cx.knows_calls
end Go.Proofs.Yteeifedpabcehaa.Ax
