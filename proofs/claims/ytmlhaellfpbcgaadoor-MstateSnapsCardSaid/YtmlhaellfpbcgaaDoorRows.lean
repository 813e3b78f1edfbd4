/-
  NARROWER THAN 'FOR EVERY INPUT', by the rows' own cells (each row's printed sentence says how): MstateBack: laid · MstatePlays: laid · MstateHolds: laid · MstateSnaps: laid.
  DERIVED. THE GIVEN ROWS OF THIS SEAT. 4 by the template 'for every input the law returns true; each argument reads behind the call as it read before'; 0 by the template 'total and deterministic' (their statements: YtmlhaellfpbcgaaDoorTotals.lean).
  GIVEN WITH THE SEED: the statements are not yours to turn. If you find one false, say at which input.
  Laid BY PROGRAM, IN A SANDBOX (cutbox-rows.mjs): the forced cells as the released guide's own fill.sh prints them over the translation b4183456439958a1… (all of the seat's roots in one cut). By AI agents, Wed Nov 11 2026. No macro, syntax, notation, axiom, sorry.
-/
import Derived.Test.YtmlhaellfpbcgaaDoorChecked
import GoSem.Claim
import GoSem.ClaimJoined
import GoSem.ClaimMapViews
import Derived.JoinedTies
import Derived.KernelRfl
namespace Go.Proofs.YtmlhaellfpbcgaaDoor
/- THE CELL 'sum', in the pinned program and in every row, IS THE sha256 OF THE DUMP (.gsa) THAT YtmlhaellfpbcgaaDoorProg.lean LOADS. Nothing in Lean hashes anything: it is a label: what it is worth is what the hold of that sum in a sandbox is worth. -/
noncomputable def Tryd.pinned : Pinned := { name := "ytmlhaellfpbcgaadoor", sum := "b4183456439958a192d8b42d81e43d9427f19a3a152e71bea51f991a7a5b51d4", checked := Tryd.checked }
namespace Rows
def none {H : Type} : Left H := { results := [], args := [] }

/- WHAT THE LISTED PACKAGE-LEVEL VARIABLES READ AS WHEN THE CALL BEGINS. Each datum BY PROGRAM (the guide's laid-datum.mjs) off the statement by which the dump's own 'gosem.cut.vars' lays the variable. In a bare row this is a premise. The card (YtmlhaellfpbcgaaDoorCards.lean) ties it to the program's text. -/
def laid_hourbook_mstate_does {H : Type} : DataW H := .iface "func table" (.map [(.int .i64 1, .iface "func" (.lit (.string [104, 111, 117, 114, 98, 111, 111, 107, 47, 109, 115, 116, 97, 116, 101, 46, 100, 111, 101, 115, 36, 49]))), (.int .i64 2, .iface "func" (.lit (.string [104, 111, 117, 114, 98, 111, 111, 107, 47, 109, 115, 116, 97, 116, 101, 46, 100, 111, 101, 115, 36, 50]))), (.int .i64 3, .iface "func" (.lit (.string [104, 111, 117, 114, 98, 111, 111, 107, 47, 109, 115, 116, 97, 116, 101, 46, 100, 111, 101, 115, 36, 51]))), (.int .i64 4, .iface "func" (.lit (.string [104, 111, 117, 114, 98, 111, 111, 107, 47, 109, 115, 116, 97, 116, 101, 46, 100, 111, 101, 115, 36, 52]))), (.int .i64 5, .iface "func" (.lit (.string [104, 111, 117, 114, 98, 111, 111, 107, 47, 109, 115, 116, 97, 116, 101, 46, 100, 111, 101, 115, 36, 53]))), (.int .i64 6, .iface "func" (.lit (.string [104, 111, 117, 114, 98, 111, 111, 107, 47, 109, 115, 116, 97, 116, 101, 46, 100, 111, 101, 115, 36, 54])))])

/-- 'hourbooklaw23.MstateBack': WHATEVER THE INPUT: true; the input reads as it did. -/
def mstateBackSpec : ChangeSpec := { name := "mstateBack", fn := fun _ => fun
  | [d1, d2] => { results := [.lit (.bool true)], args := [d1, d2] }
  | _ => none }
def mstateBackRow : OpenClaim := { program := "ytmlhaellfpbcgaadoor", sum := "b4183456439958a192d8b42d81e43d9427f19a3a152e71bea51f991a7a5b51d4", func := "hourbook/hourbooklaw23.MstateBack", spec := "mstateBack", inPlace := ["internal/bytealg.abigen_runtime_cmpstring"], unfollowed := true, recurses := true, named := ["hourbook/mstate.does"], apart := false, laid := [("hourbook/mstate.does", laid_hourbook_mstate_does)] }
def MstateBackSaid : Prop := mstateBackRow.holds Tryd.pinned (OpenSpec.ofChange mstateBackSpec)

/-- ITS FALSE NEIGHBOUR: 'it returns false'. Refute it at one input. -/
def mstateBackWrong : ChangeSpec := { name := "mstateBack", fn := fun _ => fun
  | [d1, d2] => { results := [.lit (.bool false)], args := [d1, d2] }
  | _ => none }
def MstateBackWrongFalsely : Prop := mstateBackRow.holds Tryd.pinned (OpenSpec.ofChange mstateBackWrong)

/-- 'hourbooklaw23.MstatePlays': WHATEVER THE INPUT: true; the input reads as it did. -/
def mstatePlaysSpec : ChangeSpec := { name := "mstatePlays", fn := fun _ => fun
  | [d1, d2] => { results := [.lit (.bool true)], args := [d1, d2] }
  | _ => none }
def mstatePlaysRow : OpenClaim := { program := "ytmlhaellfpbcgaadoor", sum := "b4183456439958a192d8b42d81e43d9427f19a3a152e71bea51f991a7a5b51d4", func := "hourbook/hourbooklaw23.MstatePlays", spec := "mstatePlays", inPlace := ["maps.clone", "internal/bytealg.abigen_runtime_cmpstring"], unfollowed := true, recurses := true, named := ["hourbook/mstate.does"], apart := false, laid := [("hourbook/mstate.does", laid_hourbook_mstate_does)] }
def MstatePlaysSaid : Prop := mstatePlaysRow.holds Tryd.pinned (OpenSpec.ofChange mstatePlaysSpec)

/-- ITS FALSE NEIGHBOUR: 'it returns false'. Refute it at one input. -/
def mstatePlaysWrong : ChangeSpec := { name := "mstatePlays", fn := fun _ => fun
  | [d1, d2] => { results := [.lit (.bool false)], args := [d1, d2] }
  | _ => none }
def MstatePlaysWrongFalsely : Prop := mstatePlaysRow.holds Tryd.pinned (OpenSpec.ofChange mstatePlaysWrong)

/-- 'hourbooklaw23.MstateHolds': WHATEVER THE INPUT: true; the input reads as it did. -/
def mstateHoldsSpec : ChangeSpec := { name := "mstateHolds", fn := fun _ => fun
  | [d] => { results := [.lit (.bool true)], args := [d] }
  | _ => none }
def mstateHoldsRow : OpenClaim := { program := "ytmlhaellfpbcgaadoor", sum := "b4183456439958a192d8b42d81e43d9427f19a3a152e71bea51f991a7a5b51d4", func := "hourbook/hourbooklaw23.MstateHolds", spec := "mstateHolds", inPlace := ["maps.clone", "internal/bytealg.abigen_runtime_cmpstring"], unfollowed := true, recurses := true, named := ["hourbook/mstate.does"], apart := false, laid := [("hourbook/mstate.does", laid_hourbook_mstate_does)] }
def MstateHoldsSaid : Prop := mstateHoldsRow.holds Tryd.pinned (OpenSpec.ofChange mstateHoldsSpec)

/-- ITS FALSE NEIGHBOUR: 'it returns false'. Refute it at one input. -/
def mstateHoldsWrong : ChangeSpec := { name := "mstateHolds", fn := fun _ => fun
  | [d] => { results := [.lit (.bool false)], args := [d] }
  | _ => none }
def MstateHoldsWrongFalsely : Prop := mstateHoldsRow.holds Tryd.pinned (OpenSpec.ofChange mstateHoldsWrong)

/-- 'hourbooklaw23.MstateSnaps': WHATEVER THE INPUT: true; the input reads as it did. -/
def mstateSnapsSpec : ChangeSpec := { name := "mstateSnaps", fn := fun _ => fun
  | [d1, d2] => { results := [.lit (.bool true)], args := [d1, d2] }
  | _ => none }
def mstateSnapsRow : OpenClaim := { program := "ytmlhaellfpbcgaadoor", sum := "b4183456439958a192d8b42d81e43d9427f19a3a152e71bea51f991a7a5b51d4", func := "hourbook/hourbooklaw23.MstateSnaps", spec := "mstateSnaps", inPlace := ["internal/bytealg.abigen_runtime_cmpstring"], unfollowed := true, recurses := true, named := ["hourbook/mstate.does"], apart := false, laid := [("hourbook/mstate.does", laid_hourbook_mstate_does)] }
def MstateSnapsSaid : Prop := mstateSnapsRow.holds Tryd.pinned (OpenSpec.ofChange mstateSnapsSpec)

/-- ITS FALSE NEIGHBOUR: 'it returns false'. Refute it at one input. -/
def mstateSnapsWrong : ChangeSpec := { name := "mstateSnaps", fn := fun _ => fun
  | [d1, d2] => { results := [.lit (.bool false)], args := [d1, d2] }
  | _ => none }
def MstateSnapsWrongFalsely : Prop := mstateSnapsRow.holds Tryd.pinned (OpenSpec.ofChange mstateSnapsWrong)

/- THE SECOND FORM. 'bulk': how many values and letters a reading holds, each counted each time it is reached (what is shared counts as often as it is met; a slice's spare places count too). A statement '..UptoSaid' is the law's where the arguments, and the package variables that the reading takes, are together of bulk at most 1048576: NARROWER than '..Said'. Prove '..Said' where nothing that the law and all that it calls make is longer than what came in: it says more and counts as full. Else prove '..UptoSaid'. A law counts once. -/
mutual
def uptoBulk {H : Type} : DataW H → Nat
  | .lit (.string bytes) => bytes.length + 1
  | .lit _ => 1
  | .nil => 1
  | .ptr d => uptoBulk d + 1
  | .slice elems spare => uptoBulkAll elems + uptoBulkAll spare + 1
  | .agg parts => uptoBulkAll parts + 1
  | .iface _ d => uptoBulk d + 1
  | .map entries => uptoBulkEntries entries + 1
  | .held _ => 1
def uptoBulkAll {H : Type} : List (DataW H) → Nat
  | [] => 0
  | d :: r => uptoBulk d + uptoBulkAll r
def uptoBulkEntries {H : Type} : List (Lit × DataW H) → Nat
  | [] => 0
  | x :: r => uptoBulkEntry x + uptoBulkEntries r
def uptoBulkEntry {H : Type} : Lit × DataW H → Nat
  | (.string bytes, d) => bytes.length + uptoBulk d + 1
  | (_, d) => uptoBulk d + 1
 end
def uptoSmall : (H : Type) → List (DataW H) → Bool := fun _ ds => decide (uptoBulkAll ds ≤ 1048576)
def OpenSpec.upto (s : _root_.Go.ChangeSpec) : _root_.Go.OpenSpec := { _root_.Go.OpenSpec.ofChange s with cond := some uptoSmall }

/-- 'hourbooklaw23.MstateBack', WHERE WHAT IT READS IS OF BULK AT MOST 1048576: true; the input reads as it did. -/
def mstateBackUptoRow : OpenClaim := { program := "ytmlhaellfpbcgaadoor", sum := "b4183456439958a192d8b42d81e43d9427f19a3a152e71bea51f991a7a5b51d4", func := "hourbook/hourbooklaw23.MstateBack", spec := "mstateBack", inPlace := ["internal/bytealg.abigen_runtime_cmpstring"], unfollowed := true, recurses := true, named := ["hourbook/mstate.does"], apart := false, laid := [("hourbook/mstate.does", laid_hourbook_mstate_does)], narrowed := true }
def MstateBackUptoSaid : Prop := mstateBackUptoRow.holds Tryd.pinned (OpenSpec.upto mstateBackSpec)

/-- 'hourbooklaw23.MstatePlays', WHERE WHAT IT READS IS OF BULK AT MOST 1048576: true; the input reads as it did. -/
def mstatePlaysUptoRow : OpenClaim := { program := "ytmlhaellfpbcgaadoor", sum := "b4183456439958a192d8b42d81e43d9427f19a3a152e71bea51f991a7a5b51d4", func := "hourbook/hourbooklaw23.MstatePlays", spec := "mstatePlays", inPlace := ["maps.clone", "internal/bytealg.abigen_runtime_cmpstring"], unfollowed := true, recurses := true, named := ["hourbook/mstate.does"], apart := false, laid := [("hourbook/mstate.does", laid_hourbook_mstate_does)], narrowed := true }
def MstatePlaysUptoSaid : Prop := mstatePlaysUptoRow.holds Tryd.pinned (OpenSpec.upto mstatePlaysSpec)

/-- 'hourbooklaw23.MstateHolds', WHERE WHAT IT READS IS OF BULK AT MOST 1048576: true; the input reads as it did. -/
def mstateHoldsUptoRow : OpenClaim := { program := "ytmlhaellfpbcgaadoor", sum := "b4183456439958a192d8b42d81e43d9427f19a3a152e71bea51f991a7a5b51d4", func := "hourbook/hourbooklaw23.MstateHolds", spec := "mstateHolds", inPlace := ["maps.clone", "internal/bytealg.abigen_runtime_cmpstring"], unfollowed := true, recurses := true, named := ["hourbook/mstate.does"], apart := false, laid := [("hourbook/mstate.does", laid_hourbook_mstate_does)], narrowed := true }
def MstateHoldsUptoSaid : Prop := mstateHoldsUptoRow.holds Tryd.pinned (OpenSpec.upto mstateHoldsSpec)

/-- 'hourbooklaw23.MstateSnaps', WHERE WHAT IT READS IS OF BULK AT MOST 1048576: true; the input reads as it did. -/
def mstateSnapsUptoRow : OpenClaim := { program := "ytmlhaellfpbcgaadoor", sum := "b4183456439958a192d8b42d81e43d9427f19a3a152e71bea51f991a7a5b51d4", func := "hourbook/hourbooklaw23.MstateSnaps", spec := "mstateSnaps", inPlace := ["internal/bytealg.abigen_runtime_cmpstring"], unfollowed := true, recurses := true, named := ["hourbook/mstate.does"], apart := false, laid := [("hourbook/mstate.does", laid_hourbook_mstate_does)], narrowed := true }
def MstateSnapsUptoSaid : Prop := mstateSnapsUptoRow.holds Tryd.pinned (OpenSpec.upto mstateSnapsSpec)

end Rows
end Go.Proofs.YtmlhaellfpbcgaaDoor
