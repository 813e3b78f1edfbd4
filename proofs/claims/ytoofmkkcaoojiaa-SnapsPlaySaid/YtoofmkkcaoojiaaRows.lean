/-
  No cell of these rows narrows 'for every input' (looked for: loops, veiled, ifaces, maps, wideKeys, modest, calm, conditions, laid).
  DERIVED. THE GIVEN ROWS OF THIS SEAT. 3 by the template 'for every input the law returns true; each argument reads behind the call as it read before'; 0 by the template 'total and deterministic' (their statements: YtoofmkkcaoojiaaTotals.lean).
  GIVEN WITH THE SEED: the statements are not yours to turn. If you find one false, say at which input.
  Laid BY PROGRAM, IN A SANDBOX (cutbox-rows.mjs): the forced cells as the released guide's own fill.sh prints them over the translation 57ec1c70b298e429… (all of the seat's roots in one cut). By AI agents, Wed Nov 11 2026. No macro, syntax, notation, axiom, sorry.
-/
import Derived.Test.YtoofmkkcaoojiaaChecked
import GoSem.Claim
import GoSem.ClaimJoined
import GoSem.ClaimMapViews
import Derived.JoinedTies
import Derived.KernelRfl
namespace Go.Proofs.Ytoofmkkcaoojiaa
/- THE CELL 'sum', in the pinned program and in every row, IS THE sha256 OF THE DUMP (.gsa) THAT YtoofmkkcaoojiaaProg.lean LOADS. Nothing in Lean hashes anything: it is a label: what it is worth is what the hold of that sum in a sandbox is worth. -/
noncomputable def Try.pinned : Pinned := { name := "ytoofmkkcaoojiaa", sum := "57ec1c70b298e429ea57a8f742c52f123f07b71e211632fd6a40c7e228b422c9", checked := Try.checked }
namespace Rows
def none {H : Type} : Left H := { results := [], args := [] }

/-- 'hourbooklaw19.SnapsOrder': WHATEVER THE INPUT: true; the input reads as it did. -/
def snapsOrderSpec : ChangeSpec := { name := "snapsOrder", fn := fun _ => fun
  | [d] => { results := [.lit (.bool true)], args := [d] }
  | _ => none }
def snapsOrderRow : OpenClaim := { program := "ytoofmkkcaoojiaa", sum := "57ec1c70b298e429ea57a8f742c52f123f07b71e211632fd6a40c7e228b422c9", func := "hourbook/hourbooklaw19.SnapsOrder", spec := "snapsOrder", inPlace := ["internal/bytealg.abigen_runtime_cmpstring"], unfollowed := true, recurses := true, apart := false }
def SnapsOrderSaid : Prop := snapsOrderRow.holds Try.pinned (OpenSpec.ofChange snapsOrderSpec)

/-- ITS FALSE NEIGHBOUR: 'it returns false'. Refute it at one input. -/
def snapsOrderWrong : ChangeSpec := { name := "snapsOrder", fn := fun _ => fun
  | [d] => { results := [.lit (.bool false)], args := [d] }
  | _ => none }
def SnapsOrderWrongFalsely : Prop := snapsOrderRow.holds Try.pinned (OpenSpec.ofChange snapsOrderWrong)

/-- 'hourbooklaw19.SnapsLive': WHATEVER THE INPUT: true; the input reads as it did. -/
def snapsLiveSpec : ChangeSpec := { name := "snapsLive", fn := fun _ => fun
  | [d] => { results := [.lit (.bool true)], args := [d] }
  | _ => none }
def snapsLiveRow : OpenClaim := { program := "ytoofmkkcaoojiaa", sum := "57ec1c70b298e429ea57a8f742c52f123f07b71e211632fd6a40c7e228b422c9", func := "hourbook/hourbooklaw19.SnapsLive", spec := "snapsLive", inPlace := ["internal/bytealg.abigen_runtime_cmpstring"], unfollowed := true, recurses := true, apart := false }
def SnapsLiveSaid : Prop := snapsLiveRow.holds Try.pinned (OpenSpec.ofChange snapsLiveSpec)

/-- ITS FALSE NEIGHBOUR: 'it returns false'. Refute it at one input. -/
def snapsLiveWrong : ChangeSpec := { name := "snapsLive", fn := fun _ => fun
  | [d] => { results := [.lit (.bool false)], args := [d] }
  | _ => none }
def SnapsLiveWrongFalsely : Prop := snapsLiveRow.holds Try.pinned (OpenSpec.ofChange snapsLiveWrong)

/-- 'hourbooklaw19.SnapsPlay': WHATEVER THE INPUT: true; the input reads as it did. -/
def snapsPlaySpec : ChangeSpec := { name := "snapsPlay", fn := fun _ => fun
  | [d1, d2] => { results := [.lit (.bool true)], args := [d1, d2] }
  | _ => none }
def snapsPlayRow : OpenClaim := { program := "ytoofmkkcaoojiaa", sum := "57ec1c70b298e429ea57a8f742c52f123f07b71e211632fd6a40c7e228b422c9", func := "hourbook/hourbooklaw19.SnapsPlay", spec := "snapsPlay", inPlace := ["maps.clone", "internal/bytealg.abigen_runtime_cmpstring"], unfollowed := true, recurses := true, apart := false }
def SnapsPlaySaid : Prop := snapsPlayRow.holds Try.pinned (OpenSpec.ofChange snapsPlaySpec)

/-- ITS FALSE NEIGHBOUR: 'it returns false'. Refute it at one input. -/
def snapsPlayWrong : ChangeSpec := { name := "snapsPlay", fn := fun _ => fun
  | [d1, d2] => { results := [.lit (.bool false)], args := [d1, d2] }
  | _ => none }
def SnapsPlayWrongFalsely : Prop := snapsPlayRow.holds Try.pinned (OpenSpec.ofChange snapsPlayWrong)

/- THE SECOND FORM. 'bulk': how many values and letters a reading holds, each counted each time it is reached (what is shared counts as often as it is met; a slice's spare places count too). A statement '..UptoSaid' is the law's where the arguments, and the package variables that the reading takes, are together of bulk at most 1048576: NARROWER than '..Said'. Prove '..Said' where nothing that the law and all that it calls make is longer than what came in: it says more and counts as full. Else prove '..UptoSaid'. A law counts once. -/
mutual
def uptoBulk {H : Type} : DataW H → Nat
  | .lit (.string bytes) => bytes.length + 1
  | .lit _ => 1
  | .nil => 1
  | .ptr d => uptoBulk d + 1
  | .slice elems spare => uptoBulkAll elems + uptoBulkAll spare + 1
  | .agg parts => uptoBulkAll parts + 1
  | .iface _ d => uptoBulk d + 1
  | .map entries => uptoBulkEntries entries + 1
  | .held _ => 1
def uptoBulkAll {H : Type} : List (DataW H) → Nat
  | [] => 0
  | d :: r => uptoBulk d + uptoBulkAll r
def uptoBulkEntries {H : Type} : List (Lit × DataW H) → Nat
  | [] => 0
  | x :: r => uptoBulkEntry x + uptoBulkEntries r
def uptoBulkEntry {H : Type} : Lit × DataW H → Nat
  | (.string bytes, d) => bytes.length + uptoBulk d + 1
  | (_, d) => uptoBulk d + 1
 end
def uptoSmall : (H : Type) → List (DataW H) → Bool := fun _ ds => decide (uptoBulkAll ds ≤ 1048576)
def OpenSpec.upto (s : _root_.Go.ChangeSpec) : _root_.Go.OpenSpec := { _root_.Go.OpenSpec.ofChange s with cond := some uptoSmall }

/-- 'hourbooklaw19.SnapsOrder', WHERE WHAT IT READS IS OF BULK AT MOST 1048576: true; the input reads as it did. -/
def snapsOrderUptoRow : OpenClaim := { program := "ytoofmkkcaoojiaa", sum := "57ec1c70b298e429ea57a8f742c52f123f07b71e211632fd6a40c7e228b422c9", func := "hourbook/hourbooklaw19.SnapsOrder", spec := "snapsOrder", inPlace := ["internal/bytealg.abigen_runtime_cmpstring"], unfollowed := true, recurses := true, apart := false, narrowed := true }
def SnapsOrderUptoSaid : Prop := snapsOrderUptoRow.holds Try.pinned (OpenSpec.upto snapsOrderSpec)

/-- 'hourbooklaw19.SnapsLive', WHERE WHAT IT READS IS OF BULK AT MOST 1048576: true; the input reads as it did. -/
def snapsLiveUptoRow : OpenClaim := { program := "ytoofmkkcaoojiaa", sum := "57ec1c70b298e429ea57a8f742c52f123f07b71e211632fd6a40c7e228b422c9", func := "hourbook/hourbooklaw19.SnapsLive", spec := "snapsLive", inPlace := ["internal/bytealg.abigen_runtime_cmpstring"], unfollowed := true, recurses := true, apart := false, narrowed := true }
def SnapsLiveUptoSaid : Prop := snapsLiveUptoRow.holds Try.pinned (OpenSpec.upto snapsLiveSpec)

/-- 'hourbooklaw19.SnapsPlay', WHERE WHAT IT READS IS OF BULK AT MOST 1048576: true; the input reads as it did. -/
def snapsPlayUptoRow : OpenClaim := { program := "ytoofmkkcaoojiaa", sum := "57ec1c70b298e429ea57a8f742c52f123f07b71e211632fd6a40c7e228b422c9", func := "hourbook/hourbooklaw19.SnapsPlay", spec := "snapsPlay", inPlace := ["maps.clone", "internal/bytealg.abigen_runtime_cmpstring"], unfollowed := true, recurses := true, apart := false, narrowed := true }
def SnapsPlayUptoSaid : Prop := snapsPlayUptoRow.holds Try.pinned (OpenSpec.upto snapsPlaySpec)

end Rows
end Go.Proofs.Ytoofmkkcaoojiaa
