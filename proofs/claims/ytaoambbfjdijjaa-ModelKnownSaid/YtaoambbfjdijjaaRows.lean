/-
  No cell of these rows narrows 'for every input' (looked for: loops, veiled, ifaces, maps, wideKeys, modest, calm, conditions, laid).
  DERIVED. THE GIVEN ROWS OF THIS SEAT. 9 by the template 'for every input the law returns true; each argument reads behind the call as it read before'; 0 by the template 'total and deterministic' (their statements: YtaoambbfjdijjaaTotals.lean).
  GIVEN WITH THE SEED: the statements are not yours to turn. If you find one false, say at which input.
  Laid BY PROGRAM, IN A SANDBOX (cutbox-rows.mjs): the forced cells as the released guide's own fill.sh prints them over the translation 9e452944bf9b5644… (all of the seat's roots in one cut). By AI agents, Wed Nov 11 2026. No macro, syntax, notation, axiom, sorry.
-/
import Derived.Test.YtaoambbfjdijjaaChecked
import GoSem.Claim
import GoSem.ClaimJoined
import GoSem.ClaimMapViews
import Derived.JoinedTies
import Derived.KernelRfl
namespace Go.Proofs.Ytaoambbfjdijjaa
/- THE CELL 'sum', in the pinned program and in every row, IS THE sha256 OF THE DUMP (.gsa) THAT YtaoambbfjdijjaaProg.lean LOADS. Nothing in Lean hashes anything: it is a label: what it is worth is what the hold of that sum in a sandbox is worth. -/
noncomputable def Try.pinned : Pinned := { name := "ytaoambbfjdijjaa", sum := "9e452944bf9b5644aa379e828419fa5f03b9d3cd3df05a69dce36204cf0dbf82", checked := Try.checked }
namespace Rows
def none {H : Type} : Left H := { results := [], args := [] }

/-- 'hourbooklaw26.ModelViews': WHATEVER THE INPUT: true; the input reads as it did. -/
def modelViewsSpec : ChangeSpec := { name := "modelViews", fn := fun _ => fun
  | [d] => { results := [.lit (.bool true)], args := [d] }
  | _ => none }
def modelViewsRow : OpenClaim := { program := "ytaoambbfjdijjaa", sum := "9e452944bf9b5644aa379e828419fa5f03b9d3cd3df05a69dce36204cf0dbf82", func := "hourbook/hourbooklaw26.ModelViews", spec := "modelViews", unfollowed := true, recurses := true, apart := false }
def ModelViewsSaid : Prop := modelViewsRow.holds Try.pinned (OpenSpec.ofChange modelViewsSpec)

/-- ITS FALSE NEIGHBOUR: 'it returns false'. Refute it at one input. -/
def modelViewsWrong : ChangeSpec := { name := "modelViews", fn := fun _ => fun
  | [d] => { results := [.lit (.bool false)], args := [d] }
  | _ => none }
def ModelViewsWrongFalsely : Prop := modelViewsRow.holds Try.pinned (OpenSpec.ofChange modelViewsWrong)

/-- 'hourbooklaw26.ModelGets': WHATEVER THE INPUT: true; the input reads as it did. -/
def modelGetsSpec : ChangeSpec := { name := "modelGets", fn := fun _ => fun
  | [d1, d2, d3] => { results := [.lit (.bool true)], args := [d1, d2, d3] }
  | _ => none }
def modelGetsRow : OpenClaim := { program := "ytaoambbfjdijjaa", sum := "9e452944bf9b5644aa379e828419fa5f03b9d3cd3df05a69dce36204cf0dbf82", func := "hourbook/hourbooklaw26.ModelGets", spec := "modelGets", unfollowed := true, recurses := true, apart := false }
def ModelGetsSaid : Prop := modelGetsRow.holds Try.pinned (OpenSpec.ofChange modelGetsSpec)

/-- ITS FALSE NEIGHBOUR: 'it returns false'. Refute it at one input. -/
def modelGetsWrong : ChangeSpec := { name := "modelGets", fn := fun _ => fun
  | [d1, d2, d3] => { results := [.lit (.bool false)], args := [d1, d2, d3] }
  | _ => none }
def ModelGetsWrongFalsely : Prop := modelGetsRow.holds Try.pinned (OpenSpec.ofChange modelGetsWrong)

/-- 'hourbooklaw26.ModelSame': WHATEVER THE INPUT: true; the input reads as it did. -/
def modelSameSpec : ChangeSpec := { name := "modelSame", fn := fun _ => fun
  | [d] => { results := [.lit (.bool true)], args := [d] }
  | _ => none }
def modelSameRow : OpenClaim := { program := "ytaoambbfjdijjaa", sum := "9e452944bf9b5644aa379e828419fa5f03b9d3cd3df05a69dce36204cf0dbf82", func := "hourbook/hourbooklaw26.ModelSame", spec := "modelSame", unfollowed := true, recurses := true, apart := false }
def ModelSameSaid : Prop := modelSameRow.holds Try.pinned (OpenSpec.ofChange modelSameSpec)

/-- ITS FALSE NEIGHBOUR: 'it returns false'. Refute it at one input. -/
def modelSameWrong : ChangeSpec := { name := "modelSame", fn := fun _ => fun
  | [d] => { results := [.lit (.bool false)], args := [d] }
  | _ => none }
def ModelSameWrongFalsely : Prop := modelSameRow.holds Try.pinned (OpenSpec.ofChange modelSameWrong)

/-- 'hourbooklaw06.FolderInodes': WHATEVER THE INPUT: true; the input reads as it did. -/
def folderInodesSpec : ChangeSpec := { name := "folderInodes", fn := fun _ => fun
  | [d] => { results := [.lit (.bool true)], args := [d] }
  | _ => none }
def folderInodesRow : OpenClaim := { program := "ytaoambbfjdijjaa", sum := "9e452944bf9b5644aa379e828419fa5f03b9d3cd3df05a69dce36204cf0dbf82", func := "hourbook/hourbooklaw06.FolderInodes", spec := "folderInodes", inPlace := ["maps.clone"], unfollowed := true, recurses := true, apart := false }
def FolderInodesSaid : Prop := folderInodesRow.holds Try.pinned (OpenSpec.ofChange folderInodesSpec)

/-- ITS FALSE NEIGHBOUR: 'it returns false'. Refute it at one input. -/
def folderInodesWrong : ChangeSpec := { name := "folderInodes", fn := fun _ => fun
  | [d] => { results := [.lit (.bool false)], args := [d] }
  | _ => none }
def FolderInodesWrongFalsely : Prop := folderInodesRow.holds Try.pinned (OpenSpec.ofChange folderInodesWrong)

/-- 'hourbooklaw06.FolderBegins': WHATEVER THE INPUT: true; the input reads as it did. -/
def folderBeginsSpec : ChangeSpec := { name := "folderBegins", fn := fun _ => fun
  | [d] => { results := [.lit (.bool true)], args := [d] }
  | _ => none }
def folderBeginsRow : OpenClaim := { program := "ytaoambbfjdijjaa", sum := "9e452944bf9b5644aa379e828419fa5f03b9d3cd3df05a69dce36204cf0dbf82", func := "hourbook/hourbooklaw06.FolderBegins", spec := "folderBegins", inPlace := ["maps.clone"], unfollowed := true, recurses := true, apart := false }
def FolderBeginsSaid : Prop := folderBeginsRow.holds Try.pinned (OpenSpec.ofChange folderBeginsSpec)

/-- ITS FALSE NEIGHBOUR: 'it returns false'. Refute it at one input. -/
def folderBeginsWrong : ChangeSpec := { name := "folderBegins", fn := fun _ => fun
  | [d] => { results := [.lit (.bool false)], args := [d] }
  | _ => none }
def FolderBeginsWrongFalsely : Prop := folderBeginsRow.holds Try.pinned (OpenSpec.ofChange folderBeginsWrong)

/-- 'hourbooklaw06.FolderTells': WHATEVER THE INPUT: true; the input reads as it did. -/
def folderTellsSpec : ChangeSpec := { name := "folderTells", fn := fun _ => fun
  | [d] => { results := [.lit (.bool true)], args := [d] }
  | _ => none }
def folderTellsRow : OpenClaim := { program := "ytaoambbfjdijjaa", sum := "9e452944bf9b5644aa379e828419fa5f03b9d3cd3df05a69dce36204cf0dbf82", func := "hourbook/hourbooklaw06.FolderTells", spec := "folderTells", inPlace := ["maps.clone"], unfollowed := true, recurses := true, apart := false }
def FolderTellsSaid : Prop := folderTellsRow.holds Try.pinned (OpenSpec.ofChange folderTellsSpec)

/-- ITS FALSE NEIGHBOUR: 'it returns false'. Refute it at one input. -/
def folderTellsWrong : ChangeSpec := { name := "folderTells", fn := fun _ => fun
  | [d] => { results := [.lit (.bool false)], args := [d] }
  | _ => none }
def FolderTellsWrongFalsely : Prop := folderTellsRow.holds Try.pinned (OpenSpec.ofChange folderTellsWrong)

/-- 'hourbooklaw06.FolderKeeps': WHATEVER THE INPUT: true; the input reads as it did. -/
def folderKeepsSpec : ChangeSpec := { name := "folderKeeps", fn := fun _ => fun
  | [d1, d2] => { results := [.lit (.bool true)], args := [d1, d2] }
  | _ => none }
def folderKeepsRow : OpenClaim := { program := "ytaoambbfjdijjaa", sum := "9e452944bf9b5644aa379e828419fa5f03b9d3cd3df05a69dce36204cf0dbf82", func := "hourbook/hourbooklaw06.FolderKeeps", spec := "folderKeeps", inPlace := ["maps.clone"], unfollowed := true, recurses := true, apart := false }
def FolderKeepsSaid : Prop := folderKeepsRow.holds Try.pinned (OpenSpec.ofChange folderKeepsSpec)

/-- ITS FALSE NEIGHBOUR: 'it returns false'. Refute it at one input. -/
def folderKeepsWrong : ChangeSpec := { name := "folderKeeps", fn := fun _ => fun
  | [d1, d2] => { results := [.lit (.bool false)], args := [d1, d2] }
  | _ => none }
def FolderKeepsWrongFalsely : Prop := folderKeepsRow.holds Try.pinned (OpenSpec.ofChange folderKeepsWrong)

/-- 'hourbooklaw26.ModelTells': WHATEVER THE INPUT: true; the input reads as it did. -/
def modelTellsSpec : ChangeSpec := { name := "modelTells", fn := fun _ => fun
  | [d] => { results := [.lit (.bool true)], args := [d] }
  | _ => none }
def modelTellsRow : OpenClaim := { program := "ytaoambbfjdijjaa", sum := "9e452944bf9b5644aa379e828419fa5f03b9d3cd3df05a69dce36204cf0dbf82", func := "hourbook/hourbooklaw26.ModelTells", spec := "modelTells", inPlace := ["maps.clone"], unfollowed := true, recurses := true, apart := false }
def ModelTellsSaid : Prop := modelTellsRow.holds Try.pinned (OpenSpec.ofChange modelTellsSpec)

/-- ITS FALSE NEIGHBOUR: 'it returns false'. Refute it at one input. -/
def modelTellsWrong : ChangeSpec := { name := "modelTells", fn := fun _ => fun
  | [d] => { results := [.lit (.bool false)], args := [d] }
  | _ => none }
def ModelTellsWrongFalsely : Prop := modelTellsRow.holds Try.pinned (OpenSpec.ofChange modelTellsWrong)

/-- 'hourbooklaw26.ModelKnown': WHATEVER THE INPUT: true; the input reads as it did. -/
def modelKnownSpec : ChangeSpec := { name := "modelKnown", fn := fun _ => fun
  | [] => { results := [.lit (.bool true)], args := [] }
  | _ => none }
def modelKnownRow : OpenClaim := { program := "ytaoambbfjdijjaa", sum := "9e452944bf9b5644aa379e828419fa5f03b9d3cd3df05a69dce36204cf0dbf82", func := "hourbook/hourbooklaw26.ModelKnown", spec := "modelKnown", inPlace := ["maps.clone"], unfollowed := true, recurses := true, apart := false }
def ModelKnownSaid : Prop := modelKnownRow.holds Try.pinned (OpenSpec.ofChange modelKnownSpec)

/-- ITS FALSE NEIGHBOUR: 'it returns false'. Refute it at one input. -/
def modelKnownWrong : ChangeSpec := { name := "modelKnown", fn := fun _ => fun
  | [] => { results := [.lit (.bool false)], args := [] }
  | _ => none }
def ModelKnownWrongFalsely : Prop := modelKnownRow.holds Try.pinned (OpenSpec.ofChange modelKnownWrong)

/- THE SECOND FORM. 'bulk': how many values and letters a reading holds, each counted each time it is reached (what is shared counts as often as it is met; a slice's spare places count too). A statement '..UptoSaid' is the law's where the arguments, and the package variables that the reading takes, are together of bulk at most 1048576: NARROWER than '..Said'. Prove '..Said' where nothing that the law and all that it calls make is longer than what came in: it says more and counts as full. Else prove '..UptoSaid'. A law counts once. -/
mutual
def uptoBulk {H : Type} : DataW H → Nat
  | .lit (.string bytes) => bytes.length + 1
  | .lit _ => 1
  | .nil => 1
  | .ptr d => uptoBulk d + 1
  | .slice elems spare => uptoBulkAll elems + uptoBulkAll spare + 1
  | .agg parts => uptoBulkAll parts + 1
  | .iface _ d => uptoBulk d + 1
  | .map entries => uptoBulkEntries entries + 1
  | .held _ => 1
def uptoBulkAll {H : Type} : List (DataW H) → Nat
  | [] => 0
  | d :: r => uptoBulk d + uptoBulkAll r
def uptoBulkEntries {H : Type} : List (Lit × DataW H) → Nat
  | [] => 0
  | x :: r => uptoBulkEntry x + uptoBulkEntries r
def uptoBulkEntry {H : Type} : Lit × DataW H → Nat
  | (.string bytes, d) => bytes.length + uptoBulk d + 1
  | (_, d) => uptoBulk d + 1
 end
def uptoSmall : (H : Type) → List (DataW H) → Bool := fun _ ds => decide (uptoBulkAll ds ≤ 1048576)
def OpenSpec.upto (s : _root_.Go.ChangeSpec) : _root_.Go.OpenSpec := { _root_.Go.OpenSpec.ofChange s with cond := some uptoSmall }

/-- 'hourbooklaw26.ModelViews', WHERE WHAT IT READS IS OF BULK AT MOST 1048576: true; the input reads as it did. -/
def modelViewsUptoRow : OpenClaim := { program := "ytaoambbfjdijjaa", sum := "9e452944bf9b5644aa379e828419fa5f03b9d3cd3df05a69dce36204cf0dbf82", func := "hourbook/hourbooklaw26.ModelViews", spec := "modelViews", unfollowed := true, recurses := true, apart := false, narrowed := true }
def ModelViewsUptoSaid : Prop := modelViewsUptoRow.holds Try.pinned (OpenSpec.upto modelViewsSpec)

/-- 'hourbooklaw26.ModelGets', WHERE WHAT IT READS IS OF BULK AT MOST 1048576: true; the input reads as it did. -/
def modelGetsUptoRow : OpenClaim := { program := "ytaoambbfjdijjaa", sum := "9e452944bf9b5644aa379e828419fa5f03b9d3cd3df05a69dce36204cf0dbf82", func := "hourbook/hourbooklaw26.ModelGets", spec := "modelGets", unfollowed := true, recurses := true, apart := false, narrowed := true }
def ModelGetsUptoSaid : Prop := modelGetsUptoRow.holds Try.pinned (OpenSpec.upto modelGetsSpec)

/-- 'hourbooklaw26.ModelSame', WHERE WHAT IT READS IS OF BULK AT MOST 1048576: true; the input reads as it did. -/
def modelSameUptoRow : OpenClaim := { program := "ytaoambbfjdijjaa", sum := "9e452944bf9b5644aa379e828419fa5f03b9d3cd3df05a69dce36204cf0dbf82", func := "hourbook/hourbooklaw26.ModelSame", spec := "modelSame", unfollowed := true, recurses := true, apart := false, narrowed := true }
def ModelSameUptoSaid : Prop := modelSameUptoRow.holds Try.pinned (OpenSpec.upto modelSameSpec)

/-- 'hourbooklaw06.FolderInodes', WHERE WHAT IT READS IS OF BULK AT MOST 1048576: true; the input reads as it did. -/
def folderInodesUptoRow : OpenClaim := { program := "ytaoambbfjdijjaa", sum := "9e452944bf9b5644aa379e828419fa5f03b9d3cd3df05a69dce36204cf0dbf82", func := "hourbook/hourbooklaw06.FolderInodes", spec := "folderInodes", inPlace := ["maps.clone"], unfollowed := true, recurses := true, apart := false, narrowed := true }
def FolderInodesUptoSaid : Prop := folderInodesUptoRow.holds Try.pinned (OpenSpec.upto folderInodesSpec)

/-- 'hourbooklaw06.FolderBegins', WHERE WHAT IT READS IS OF BULK AT MOST 1048576: true; the input reads as it did. -/
def folderBeginsUptoRow : OpenClaim := { program := "ytaoambbfjdijjaa", sum := "9e452944bf9b5644aa379e828419fa5f03b9d3cd3df05a69dce36204cf0dbf82", func := "hourbook/hourbooklaw06.FolderBegins", spec := "folderBegins", inPlace := ["maps.clone"], unfollowed := true, recurses := true, apart := false, narrowed := true }
def FolderBeginsUptoSaid : Prop := folderBeginsUptoRow.holds Try.pinned (OpenSpec.upto folderBeginsSpec)

/-- 'hourbooklaw06.FolderTells', WHERE WHAT IT READS IS OF BULK AT MOST 1048576: true; the input reads as it did. -/
def folderTellsUptoRow : OpenClaim := { program := "ytaoambbfjdijjaa", sum := "9e452944bf9b5644aa379e828419fa5f03b9d3cd3df05a69dce36204cf0dbf82", func := "hourbook/hourbooklaw06.FolderTells", spec := "folderTells", inPlace := ["maps.clone"], unfollowed := true, recurses := true, apart := false, narrowed := true }
def FolderTellsUptoSaid : Prop := folderTellsUptoRow.holds Try.pinned (OpenSpec.upto folderTellsSpec)

/-- 'hourbooklaw06.FolderKeeps', WHERE WHAT IT READS IS OF BULK AT MOST 1048576: true; the input reads as it did. -/
def folderKeepsUptoRow : OpenClaim := { program := "ytaoambbfjdijjaa", sum := "9e452944bf9b5644aa379e828419fa5f03b9d3cd3df05a69dce36204cf0dbf82", func := "hourbook/hourbooklaw06.FolderKeeps", spec := "folderKeeps", inPlace := ["maps.clone"], unfollowed := true, recurses := true, apart := false, narrowed := true }
def FolderKeepsUptoSaid : Prop := folderKeepsUptoRow.holds Try.pinned (OpenSpec.upto folderKeepsSpec)

/-- 'hourbooklaw26.ModelTells', WHERE WHAT IT READS IS OF BULK AT MOST 1048576: true; the input reads as it did. -/
def modelTellsUptoRow : OpenClaim := { program := "ytaoambbfjdijjaa", sum := "9e452944bf9b5644aa379e828419fa5f03b9d3cd3df05a69dce36204cf0dbf82", func := "hourbook/hourbooklaw26.ModelTells", spec := "modelTells", inPlace := ["maps.clone"], unfollowed := true, recurses := true, apart := false, narrowed := true }
def ModelTellsUptoSaid : Prop := modelTellsUptoRow.holds Try.pinned (OpenSpec.upto modelTellsSpec)

/-- 'hourbooklaw26.ModelKnown', WHERE WHAT IT READS IS OF BULK AT MOST 1048576: true; the input reads as it did. -/
def modelKnownUptoRow : OpenClaim := { program := "ytaoambbfjdijjaa", sum := "9e452944bf9b5644aa379e828419fa5f03b9d3cd3df05a69dce36204cf0dbf82", func := "hourbook/hourbooklaw26.ModelKnown", spec := "modelKnown", inPlace := ["maps.clone"], unfollowed := true, recurses := true, apart := false, narrowed := true }
def ModelKnownUptoSaid : Prop := modelKnownUptoRow.holds Try.pinned (OpenSpec.upto modelKnownSpec)

end Rows
end Go.Proofs.Ytaoambbfjdijjaa
