/-
  No cell of these rows narrows 'for every input' (looked for: loops, veiled, ifaces, maps, wideKeys, modest, calm, conditions, laid).
  DERIVED. THE GIVEN ROWS OF THIS SEAT. 4 by the template 'for every input the law returns true; each argument reads behind the call as it read before'; 0 by the template 'total and deterministic' (their statements: YteeifedpabcehaaTotals.lean).
  GIVEN WITH THE SEED: the statements are not yours to turn. If you find one false, say at which input.
  Laid BY PROGRAM, IN A SANDBOX (cutbox-rows.mjs): the forced cells as the released guide's own fill.sh prints them over the translation 346f9698432885f5… (all of the seat's roots in one cut). By AI agents, Wed Nov 11 2026. No macro, syntax, notation, axiom, sorry.
-/
import Derived.Test.YteeifedpabcehaaChecked
import GoSem.Claim
import GoSem.ClaimJoined
import GoSem.ClaimMapViews
import Derived.JoinedTies
import Derived.KernelRfl
namespace Go.Proofs.Yteeifedpabcehaa
/- THE CELL 'sum', in the pinned program and in every row, IS THE sha256 OF THE DUMP (.gsa) THAT YteeifedpabcehaaProg.lean LOADS. Nothing in Lean hashes anything: it is a label: what it is worth is what the hold of that sum in a sandbox is worth. -/
noncomputable def Try.pinned : Pinned := { name := "yteeifedpabcehaa", sum := "346f9698432885f55f2fa5541e877a63bd7c0094753a6fe3417e30108366c930", checked := Try.checked }
namespace Rows
def none {H : Type} : Left H := { results := [], args := [] }

/-- 'hourbooklaw06.FolderInodes': WHATEVER THE INPUT: true; the input reads as it did. -/
def folderInodesSpec : ChangeSpec := { name := "folderInodes", fn := fun _ => fun
  | [d] => { results := [.lit (.bool true)], args := [d] }
  | _ => none }
def folderInodesRow : OpenClaim := { program := "yteeifedpabcehaa", sum := "346f9698432885f55f2fa5541e877a63bd7c0094753a6fe3417e30108366c930", func := "hourbook/hourbooklaw06.FolderInodes", spec := "folderInodes", inPlace := ["maps.clone"], unfollowed := true, recurses := true, apart := false }
def FolderInodesSaid : Prop := folderInodesRow.holds Try.pinned (OpenSpec.ofChange folderInodesSpec)

/-- ITS FALSE NEIGHBOUR: 'it returns false'. Refute it at one input. -/
def folderInodesWrong : ChangeSpec := { name := "folderInodes", fn := fun _ => fun
  | [d] => { results := [.lit (.bool false)], args := [d] }
  | _ => none }
def FolderInodesWrongFalsely : Prop := folderInodesRow.holds Try.pinned (OpenSpec.ofChange folderInodesWrong)

/-- 'hourbooklaw06.FolderBegins': WHATEVER THE INPUT: true; the input reads as it did. -/
def folderBeginsSpec : ChangeSpec := { name := "folderBegins", fn := fun _ => fun
  | [d] => { results := [.lit (.bool true)], args := [d] }
  | _ => none }
def folderBeginsRow : OpenClaim := { program := "yteeifedpabcehaa", sum := "346f9698432885f55f2fa5541e877a63bd7c0094753a6fe3417e30108366c930", func := "hourbook/hourbooklaw06.FolderBegins", spec := "folderBegins", inPlace := ["maps.clone"], unfollowed := true, recurses := true, apart := false }
def FolderBeginsSaid : Prop := folderBeginsRow.holds Try.pinned (OpenSpec.ofChange folderBeginsSpec)

/-- ITS FALSE NEIGHBOUR: 'it returns false'. Refute it at one input. -/
def folderBeginsWrong : ChangeSpec := { name := "folderBegins", fn := fun _ => fun
  | [d] => { results := [.lit (.bool false)], args := [d] }
  | _ => none }
def FolderBeginsWrongFalsely : Prop := folderBeginsRow.holds Try.pinned (OpenSpec.ofChange folderBeginsWrong)

/-- 'hourbooklaw06.FolderTells': WHATEVER THE INPUT: true; the input reads as it did. -/
def folderTellsSpec : ChangeSpec := { name := "folderTells", fn := fun _ => fun
  | [d] => { results := [.lit (.bool true)], args := [d] }
  | _ => none }
def folderTellsRow : OpenClaim := { program := "yteeifedpabcehaa", sum := "346f9698432885f55f2fa5541e877a63bd7c0094753a6fe3417e30108366c930", func := "hourbook/hourbooklaw06.FolderTells", spec := "folderTells", inPlace := ["maps.clone"], unfollowed := true, recurses := true, apart := false }
def FolderTellsSaid : Prop := folderTellsRow.holds Try.pinned (OpenSpec.ofChange folderTellsSpec)

/-- ITS FALSE NEIGHBOUR: 'it returns false'. Refute it at one input. -/
def folderTellsWrong : ChangeSpec := { name := "folderTells", fn := fun _ => fun
  | [d] => { results := [.lit (.bool false)], args := [d] }
  | _ => none }
def FolderTellsWrongFalsely : Prop := folderTellsRow.holds Try.pinned (OpenSpec.ofChange folderTellsWrong)

/-- 'hourbooklaw06.FolderKeeps': WHATEVER THE INPUT: true; the input reads as it did. -/
def folderKeepsSpec : ChangeSpec := { name := "folderKeeps", fn := fun _ => fun
  | [d1, d2] => { results := [.lit (.bool true)], args := [d1, d2] }
  | _ => none }
def folderKeepsRow : OpenClaim := { program := "yteeifedpabcehaa", sum := "346f9698432885f55f2fa5541e877a63bd7c0094753a6fe3417e30108366c930", func := "hourbook/hourbooklaw06.FolderKeeps", spec := "folderKeeps", inPlace := ["maps.clone"], unfollowed := true, recurses := true, apart := false }
def FolderKeepsSaid : Prop := folderKeepsRow.holds Try.pinned (OpenSpec.ofChange folderKeepsSpec)

/-- ITS FALSE NEIGHBOUR: 'it returns false'. Refute it at one input. -/
def folderKeepsWrong : ChangeSpec := { name := "folderKeeps", fn := fun _ => fun
  | [d1, d2] => { results := [.lit (.bool false)], args := [d1, d2] }
  | _ => none }
def FolderKeepsWrongFalsely : Prop := folderKeepsRow.holds Try.pinned (OpenSpec.ofChange folderKeepsWrong)

/- THE SECOND FORM. 'bulk': how many values and letters a reading holds, each counted each time it is reached (what is shared counts as often as it is met; a slice's spare places count too). A statement '..UptoSaid' is the law's where the arguments, and the package variables that the reading takes, are together of bulk at most 1048576: NARROWER than '..Said'. Prove '..Said' where nothing that the law and all that it calls make is longer than what came in: it says more and counts as full. Else prove '..UptoSaid'. A law counts once. -/
mutual
def uptoBulk {H : Type} : DataW H → Nat
  | .lit (.string bytes) => bytes.length + 1
  | .lit _ => 1
  | .nil => 1
  | .ptr d => uptoBulk d + 1
  | .slice elems spare => uptoBulkAll elems + uptoBulkAll spare + 1
  | .agg parts => uptoBulkAll parts + 1
  | .iface _ d => uptoBulk d + 1
  | .map entries => uptoBulkEntries entries + 1
  | .held _ => 1
def uptoBulkAll {H : Type} : List (DataW H) → Nat
  | [] => 0
  | d :: r => uptoBulk d + uptoBulkAll r
def uptoBulkEntries {H : Type} : List (Lit × DataW H) → Nat
  | [] => 0
  | x :: r => uptoBulkEntry x + uptoBulkEntries r
def uptoBulkEntry {H : Type} : Lit × DataW H → Nat
  | (.string bytes, d) => bytes.length + uptoBulk d + 1
  | (_, d) => uptoBulk d + 1
 end
def uptoSmall : (H : Type) → List (DataW H) → Bool := fun _ ds => decide (uptoBulkAll ds ≤ 1048576)
def OpenSpec.upto (s : _root_.Go.ChangeSpec) : _root_.Go.OpenSpec := { _root_.Go.OpenSpec.ofChange s with cond := some uptoSmall }

/-- 'hourbooklaw06.FolderInodes', WHERE WHAT IT READS IS OF BULK AT MOST 1048576: true; the input reads as it did. -/
def folderInodesUptoRow : OpenClaim := { program := "yteeifedpabcehaa", sum := "346f9698432885f55f2fa5541e877a63bd7c0094753a6fe3417e30108366c930", func := "hourbook/hourbooklaw06.FolderInodes", spec := "folderInodes", inPlace := ["maps.clone"], unfollowed := true, recurses := true, apart := false, narrowed := true }
def FolderInodesUptoSaid : Prop := folderInodesUptoRow.holds Try.pinned (OpenSpec.upto folderInodesSpec)

/-- 'hourbooklaw06.FolderBegins', WHERE WHAT IT READS IS OF BULK AT MOST 1048576: true; the input reads as it did. -/
def folderBeginsUptoRow : OpenClaim := { program := "yteeifedpabcehaa", sum := "346f9698432885f55f2fa5541e877a63bd7c0094753a6fe3417e30108366c930", func := "hourbook/hourbooklaw06.FolderBegins", spec := "folderBegins", inPlace := ["maps.clone"], unfollowed := true, recurses := true, apart := false, narrowed := true }
def FolderBeginsUptoSaid : Prop := folderBeginsUptoRow.holds Try.pinned (OpenSpec.upto folderBeginsSpec)

/-- 'hourbooklaw06.FolderTells', WHERE WHAT IT READS IS OF BULK AT MOST 1048576: true; the input reads as it did. -/
def folderTellsUptoRow : OpenClaim := { program := "yteeifedpabcehaa", sum := "346f9698432885f55f2fa5541e877a63bd7c0094753a6fe3417e30108366c930", func := "hourbook/hourbooklaw06.FolderTells", spec := "folderTells", inPlace := ["maps.clone"], unfollowed := true, recurses := true, apart := false, narrowed := true }
def FolderTellsUptoSaid : Prop := folderTellsUptoRow.holds Try.pinned (OpenSpec.upto folderTellsSpec)

/-- 'hourbooklaw06.FolderKeeps', WHERE WHAT IT READS IS OF BULK AT MOST 1048576: true; the input reads as it did. -/
def folderKeepsUptoRow : OpenClaim := { program := "yteeifedpabcehaa", sum := "346f9698432885f55f2fa5541e877a63bd7c0094753a6fe3417e30108366c930", func := "hourbook/hourbooklaw06.FolderKeeps", spec := "folderKeeps", inPlace := ["maps.clone"], unfollowed := true, recurses := true, apart := false, narrowed := true }
def FolderKeepsUptoSaid : Prop := folderKeepsUptoRow.holds Try.pinned (OpenSpec.upto folderKeepsSpec)

end Rows
end Go.Proofs.Yteeifedpabcehaa
