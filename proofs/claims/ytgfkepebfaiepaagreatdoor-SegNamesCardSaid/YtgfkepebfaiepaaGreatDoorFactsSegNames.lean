/-
  SegNames: what the row's form asks of the whole program.
-/
import Derived.Test.YtgfkepebfaiepaaGreatDoorOwn
import Derived.Test.YtgfkepebfaiepaaGreatDoorRows
import Derived.Test.YtgfkepebfaiepaaGreatDoorChecked
import Derived.Test.YtgfkepebfaiepaaGreatDoorCards
import Derived.Test.YtgfkepebfaiepaaGreatDoorTie
namespace Go.Proofs.YtgfkepebfaiepaaGreatDoor.FactsSegNames
open Go.ChangeShapes Go.WideShapes Go.ChangeAt Go.RowKit Go.Proofs.YtgfkepebfaiepaaGreatDoor
theorem band {a b : Bool} (h : a = true) (h' : b = true) : (a && b) = true := by rw [h, h']; rfl
set_option maxRecDepth 100000 in
set_option maxHeartbeats 4000000 in
theorem joined : joinedFacts Tryz.pinned.checked.prog 3 Tryz.f3 (OpenSpec.ofChange Rows.segNamesSpec).bare Rows.segNamesRow = true := by
 unfold joinedFacts
 repeat' with_reducible apply band
 all_goals decide +kernel
theorem goes_none {P : Program} (h : P.funcs.toList.all (fun fn => !fn.goes) = true) (f : FuncId) : P.goes f = false := by
 have hall : ∀ fn ∈ P.funcs.toList, fn.goes = false := fun fn hf => by
  have := List.all_eq_true.1 h fn hf
  simpa using this
 have h1 : P.funcs.any Func.goes = false := by
  rw [Array.any_eq_false']
  intro fn hf
  rw [hall fn (by simpa using hf)]
  decide
 unfold Program.goes
 rw [h1, Bool.and_false, Bool.or_false, List.any_eq_false]
 intro g _
 cases hg : P.funcs[g]? with
 | none => simp
 | some fn =>
   rw [Option.any_some, hall fn (by have := Array.mem_of_getElem? hg; simpa using this)]
   decide
theorem none_goes : Tryz.pinned.checked.prog.funcs.toList.all (fun fn => !fn.goes) = true := by decide +kernel
theorem goesBy_none {c : OpenClaim} (hs : c.start = .entering) : false = c.goesBy Tryz.pinned.checked.prog := by
 unfold OpenClaim.goesBy Program.goesAt Program.goesFrom
 rw [hs]
 cases Tryz.pinned.checked.prog.funcNamed c.func with
 | none => rfl
 | some f => rw [Option.any_some, goes_none none_goes f]; rfl
end Go.Proofs.YtgfkepebfaiepaaGreatDoor.FactsSegNames
