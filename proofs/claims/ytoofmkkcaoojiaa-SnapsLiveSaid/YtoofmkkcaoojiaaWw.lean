/-
  Chapter 19: the law's examples, reckoned; told to the abstract machine.
-/
import Derived.Test.YtoofmkkcaoojiaaWk
import Derived.Test.YtoofmkkcaoojiaaSl
namespace Go.Proofs.Ytoofmkkcaoojiaa.Cx
open Go.RowKit Go.Proofs.Ytoofmkkcaoojiaa.Bm
theorem wakes_true : goodA (mainC C0 12) = true := by kernel_rfl
theorem wakes_calls (W : World) : Calls Try.prog 12 #[] W fun e W' => e = .returned (.bool true) ∧ Below W.heap.size W W' :=
  calls_of_run (C := C0) (GOk.none W) (by kernel_rfl) (xok0 W) (f := 12) (fd := Try.f12) (by kernel_rfl) (by kernel_rfl) (by kernel_rfl) (by kernel_rfl) wakes_true
end Go.Proofs.Ytoofmkkcaoojiaa.Cx
namespace Go.Proofs.Ytoofmkkcaoojiaa.Ax
open Go.RowKit
/-- A closed function that is known by reckoning. -/
theorem AFn.closed {P : Program} {f : FuncId} (hfn : ∃ fn, P.funcs[f]? = some fn ∧ (fn.name == "runtime.NumGoroutine") = false ∧ fn.body.isNone = false) (h : ∀ W, Calls P f #[] W fun e W' => e = .returned (.bool true) ∧ Below W.heap.size W W') :
    AFn P f [] ⟨0, []⟩ (fun _ : Unit => AV.bool true) (fun _ => ⟨0, []⟩) :=
  ⟨hfn, fun ρ ι w cargs hG hS hr => by
    simp only [AV.Rs] at hr
    subst hr
    refine (h w).mono fun e w' ⟨he, hb⟩ => ?_
    subst he
    have ht : Touch (fun _ => False) w w' := ⟨hb.os, hb.tape, hb.output, hb.size, fun k hk _ => hb.block k hk⟩
    obtain ⟨_, q2, q3⟩ := hS.addImm ht w.heap.size (Nat.le_refl _) (fun _ => none) (fun o v h => by cases h)
    exact ⟨AV.bool true, _, ρ, _, ⟨(), rfl, rfl⟩, by simp only [AV.R, IV.R], q2, q3⟩⟩
theorem wakes_ok : AFn Try.prog 12 [] ⟨0, []⟩ (fun _ : Unit => AV.bool true) (fun _ => ⟨0, []⟩) :=
  AFn.closed ⟨_, Try.func12, by kernel_rfl, by kernel_rfl⟩ Cx.wakes_calls
end Go.Proofs.Ytoofmkkcaoojiaa.Ax
