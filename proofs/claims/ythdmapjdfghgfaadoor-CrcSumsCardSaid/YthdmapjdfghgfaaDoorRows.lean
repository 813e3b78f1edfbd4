/-
  NARROWER THAN 'FOR EVERY INPUT', by the rows' own cells (each row's printed sentence says how): CrcXors: laid · CrcField: laid · CrcProducts: laid · CrcParts: laid · CrcSums: laid · CrcTurned: laid · CrcKnown: laid.
  DERIVED. THE GIVEN ROWS OF THIS SEAT. 7 by the template 'for every input the law returns true; each argument reads behind the call as it read before'; 0 by the template 'total and deterministic' (their statements: YthdmapjdfghgfaaDoorTotals.lean).
  GIVEN WITH THE SEED: the statements are not yours to turn. If you find one false, say at which input.
  Laid BY PROGRAM, IN A SANDBOX (cutbox-rows.mjs): the forced cells as the released guide's own fill.sh prints them over the translation 68611edb1f52846b… (all of the seat's roots in one cut). By AI agents, Wed Nov 11 2026. No macro, syntax, notation, axiom, sorry.
-/
import Derived.Test.YthdmapjdfghgfaaDoorChecked
import GoSem.Claim
import GoSem.ClaimJoined
import GoSem.ClaimMapViews
import Derived.JoinedTies
import Derived.KernelRfl
namespace Go.Proofs.YthdmapjdfghgfaaDoor
/- THE CELL 'sum', in the pinned program and in every row, IS THE sha256 OF THE DUMP (.gsa) THAT YthdmapjdfghgfaaDoorProg.lean LOADS. Nothing in Lean hashes anything: it is a label: what it is worth is what the hold of that sum in a sandbox is worth. -/
noncomputable def Tryd.pinned : Pinned := { name := "ythdmapjdfghgfaadoor", sum := "68611edb1f52846bf97867f0bf835a5273a84ab7a343620ab2173804aa146873", checked := Tryd.checked }
namespace Rows
def none {H : Type} : Left H := { results := [], args := [] }

/- WHAT THE LISTED PACKAGE-LEVEL VARIABLES READ AS WHEN THE CALL BEGINS. Each datum BY PROGRAM (the guide's laid-datum.mjs) off the statement by which the dump's own 'gosem.cut.vars' lays the variable. In a bare row this is a premise. The card (YthdmapjdfghgfaaDoorCards.lean) ties it to the program's text. -/
def laid_hourbook_crc_half {H : Type} : DataW H := .agg [.lit (.int .u32 0), .lit (.int .u32 274646895), .lit (.int .u32 549293790), .lit (.int .u32 820201905), .lit (.int .u32 1098587580), .lit (.int .u32 1361435347), .lit (.int .u32 1640403810), .lit (.int .u32 1905808397), .lit (.int .u32 2197175160), .lit (.int .u32 2460548119), .lit (.int .u32 2722870694), .lit (.int .u32 2987750089), .lit (.int .u32 3280807620), .lit (.int .u32 3553878443), .lit (.int .u32 3811616794), .lit (.int .u32 4084100981)]

/-- 'hourbooklaw02.CrcXors': WHATEVER THE INPUT: true; the input reads as it did. -/
def crcXorsSpec : ChangeSpec := { name := "crcXors", fn := fun _ => fun
  | [d1, d2, d3] => { results := [.lit (.bool true)], args := [d1, d2, d3] }
  | _ => none }
def crcXorsRow : OpenClaim := { program := "ythdmapjdfghgfaadoor", sum := "68611edb1f52846bf97867f0bf835a5273a84ab7a343620ab2173804aa146873", func := "hourbook/hourbooklaw02.CrcXors", spec := "crcXors", named := ["hourbook/crc.half"], apart := false, laid := [("hourbook/crc.half", laid_hourbook_crc_half)] }
def CrcXorsSaid : Prop := crcXorsRow.holds Tryd.pinned (OpenSpec.ofChange crcXorsSpec)

/-- ITS FALSE NEIGHBOUR: 'it returns false'. Refute it at one input. -/
def crcXorsWrong : ChangeSpec := { name := "crcXors", fn := fun _ => fun
  | [d1, d2, d3] => { results := [.lit (.bool false)], args := [d1, d2, d3] }
  | _ => none }
def CrcXorsWrongFalsely : Prop := crcXorsRow.holds Tryd.pinned (OpenSpec.ofChange crcXorsWrong)

/-- 'hourbooklaw02.CrcField': WHATEVER THE INPUT: true; the input reads as it did. -/
def crcFieldSpec : ChangeSpec := { name := "crcField", fn := fun _ => fun
  | [d1, d2, d3, d4, d5] => { results := [.lit (.bool true)], args := [d1, d2, d3, d4, d5] }
  | _ => none }
def crcFieldRow : OpenClaim := { program := "ythdmapjdfghgfaadoor", sum := "68611edb1f52846bf97867f0bf835a5273a84ab7a343620ab2173804aa146873", func := "hourbook/hourbooklaw02.CrcField", spec := "crcField", named := ["hourbook/crc.half"], apart := false, laid := [("hourbook/crc.half", laid_hourbook_crc_half)] }
def CrcFieldSaid : Prop := crcFieldRow.holds Tryd.pinned (OpenSpec.ofChange crcFieldSpec)

/-- ITS FALSE NEIGHBOUR: 'it returns false'. Refute it at one input. -/
def crcFieldWrong : ChangeSpec := { name := "crcField", fn := fun _ => fun
  | [d1, d2, d3, d4, d5] => { results := [.lit (.bool false)], args := [d1, d2, d3, d4, d5] }
  | _ => none }
def CrcFieldWrongFalsely : Prop := crcFieldRow.holds Tryd.pinned (OpenSpec.ofChange crcFieldWrong)

/-- 'hourbooklaw02.CrcProducts': WHATEVER THE INPUT: true; the input reads as it did. -/
def crcProductsSpec : ChangeSpec := { name := "crcProducts", fn := fun _ => fun
  | [d1, d2, d3] => { results := [.lit (.bool true)], args := [d1, d2, d3] }
  | _ => none }
def crcProductsRow : OpenClaim := { program := "ythdmapjdfghgfaadoor", sum := "68611edb1f52846bf97867f0bf835a5273a84ab7a343620ab2173804aa146873", func := "hourbook/hourbooklaw02.CrcProducts", spec := "crcProducts", recurses := true, named := ["hourbook/crc.half"], apart := false, laid := [("hourbook/crc.half", laid_hourbook_crc_half)] }
def CrcProductsSaid : Prop := crcProductsRow.holds Tryd.pinned (OpenSpec.ofChange crcProductsSpec)

/-- ITS FALSE NEIGHBOUR: 'it returns false'. Refute it at one input. -/
def crcProductsWrong : ChangeSpec := { name := "crcProducts", fn := fun _ => fun
  | [d1, d2, d3] => { results := [.lit (.bool false)], args := [d1, d2, d3] }
  | _ => none }
def CrcProductsWrongFalsely : Prop := crcProductsRow.holds Tryd.pinned (OpenSpec.ofChange crcProductsWrong)

/-- 'hourbooklaw02.CrcParts': WHATEVER THE INPUT: true; the input reads as it did. -/
def crcPartsSpec : ChangeSpec := { name := "crcParts", fn := fun _ => fun
  | [d1, d2] => { results := [.lit (.bool true)], args := [d1, d2] }
  | _ => none }
def crcPartsRow : OpenClaim := { program := "ythdmapjdfghgfaadoor", sum := "68611edb1f52846bf97867f0bf835a5273a84ab7a343620ab2173804aa146873", func := "hourbook/hourbooklaw02.CrcParts", spec := "crcParts", named := ["hourbook/crc.half"], apart := false, laid := [("hourbook/crc.half", laid_hourbook_crc_half)] }
def CrcPartsSaid : Prop := crcPartsRow.holds Tryd.pinned (OpenSpec.ofChange crcPartsSpec)

/-- ITS FALSE NEIGHBOUR: 'it returns false'. Refute it at one input. -/
def crcPartsWrong : ChangeSpec := { name := "crcParts", fn := fun _ => fun
  | [d1, d2] => { results := [.lit (.bool false)], args := [d1, d2] }
  | _ => none }
def CrcPartsWrongFalsely : Prop := crcPartsRow.holds Tryd.pinned (OpenSpec.ofChange crcPartsWrong)

/-- 'hourbooklaw02.CrcSums': WHATEVER THE INPUT: true; the input reads as it did. -/
def crcSumsSpec : ChangeSpec := { name := "crcSums", fn := fun _ => fun
  | [d1, d2] => { results := [.lit (.bool true)], args := [d1, d2] }
  | _ => none }
def crcSumsRow : OpenClaim := { program := "ythdmapjdfghgfaadoor", sum := "68611edb1f52846bf97867f0bf835a5273a84ab7a343620ab2173804aa146873", func := "hourbook/hourbooklaw02.CrcSums", spec := "crcSums", named := ["hourbook/crc.half"], apart := false, laid := [("hourbook/crc.half", laid_hourbook_crc_half)] }
def CrcSumsSaid : Prop := crcSumsRow.holds Tryd.pinned (OpenSpec.ofChange crcSumsSpec)

/-- ITS FALSE NEIGHBOUR: 'it returns false'. Refute it at one input. -/
def crcSumsWrong : ChangeSpec := { name := "crcSums", fn := fun _ => fun
  | [d1, d2] => { results := [.lit (.bool false)], args := [d1, d2] }
  | _ => none }
def CrcSumsWrongFalsely : Prop := crcSumsRow.holds Tryd.pinned (OpenSpec.ofChange crcSumsWrong)

/-- 'hourbooklaw02.CrcTurned': WHATEVER THE INPUT: true; the input reads as it did. -/
def crcTurnedSpec : ChangeSpec := { name := "crcTurned", fn := fun _ => fun
  | [d1, d2, d3] => { results := [.lit (.bool true)], args := [d1, d2, d3] }
  | _ => none }
def crcTurnedRow : OpenClaim := { program := "ythdmapjdfghgfaadoor", sum := "68611edb1f52846bf97867f0bf835a5273a84ab7a343620ab2173804aa146873", func := "hourbook/hourbooklaw02.CrcTurned", spec := "crcTurned", named := ["hourbook/crc.half"], apart := false, laid := [("hourbook/crc.half", laid_hourbook_crc_half)] }
def CrcTurnedSaid : Prop := crcTurnedRow.holds Tryd.pinned (OpenSpec.ofChange crcTurnedSpec)

/-- ITS FALSE NEIGHBOUR: 'it returns false'. Refute it at one input. -/
def crcTurnedWrong : ChangeSpec := { name := "crcTurned", fn := fun _ => fun
  | [d1, d2, d3] => { results := [.lit (.bool false)], args := [d1, d2, d3] }
  | _ => none }
def CrcTurnedWrongFalsely : Prop := crcTurnedRow.holds Tryd.pinned (OpenSpec.ofChange crcTurnedWrong)

/-- 'hourbooklaw02.CrcKnown': WHATEVER THE INPUT: true; the input reads as it did. -/
def crcKnownSpec : ChangeSpec := { name := "crcKnown", fn := fun _ => fun
  | [] => { results := [.lit (.bool true)], args := [] }
  | _ => none }
def crcKnownRow : OpenClaim := { program := "ythdmapjdfghgfaadoor", sum := "68611edb1f52846bf97867f0bf835a5273a84ab7a343620ab2173804aa146873", func := "hourbook/hourbooklaw02.CrcKnown", spec := "crcKnown", named := ["hourbook/crc.half"], apart := false, laid := [("hourbook/crc.half", laid_hourbook_crc_half)] }
def CrcKnownSaid : Prop := crcKnownRow.holds Tryd.pinned (OpenSpec.ofChange crcKnownSpec)

/-- ITS FALSE NEIGHBOUR: 'it returns false'. Refute it at one input. -/
def crcKnownWrong : ChangeSpec := { name := "crcKnown", fn := fun _ => fun
  | [] => { results := [.lit (.bool false)], args := [] }
  | _ => none }
def CrcKnownWrongFalsely : Prop := crcKnownRow.holds Tryd.pinned (OpenSpec.ofChange crcKnownWrong)

/- THE SECOND FORM. 'bulk': how many values and letters a reading holds, each counted each time it is reached (what is shared counts as often as it is met; a slice's spare places count too). A statement '..UptoSaid' is the law's where the arguments, and the package variables that the reading takes, are together of bulk at most 1048576: NARROWER than '..Said'. Prove '..Said' where nothing that the law and all that it calls make is longer than what came in: it says more and counts as full. Else prove '..UptoSaid'. A law counts once. -/
mutual
def uptoBulk {H : Type} : DataW H → Nat
  | .lit (.string bytes) => bytes.length + 1
  | .lit _ => 1
  | .nil => 1
  | .ptr d => uptoBulk d + 1
  | .slice elems spare => uptoBulkAll elems + uptoBulkAll spare + 1
  | .agg parts => uptoBulkAll parts + 1
  | .iface _ d => uptoBulk d + 1
  | .map entries => uptoBulkEntries entries + 1
  | .held _ => 1
def uptoBulkAll {H : Type} : List (DataW H) → Nat
  | [] => 0
  | d :: r => uptoBulk d + uptoBulkAll r
def uptoBulkEntries {H : Type} : List (Lit × DataW H) → Nat
  | [] => 0
  | x :: r => uptoBulkEntry x + uptoBulkEntries r
def uptoBulkEntry {H : Type} : Lit × DataW H → Nat
  | (.string bytes, d) => bytes.length + uptoBulk d + 1
  | (_, d) => uptoBulk d + 1
 end
def uptoSmall : (H : Type) → List (DataW H) → Bool := fun _ ds => decide (uptoBulkAll ds ≤ 1048576)
def OpenSpec.upto (s : _root_.Go.ChangeSpec) : _root_.Go.OpenSpec := { _root_.Go.OpenSpec.ofChange s with cond := some uptoSmall }

/-- 'hourbooklaw02.CrcXors', WHERE WHAT IT READS IS OF BULK AT MOST 1048576: true; the input reads as it did. -/
def crcXorsUptoRow : OpenClaim := { program := "ythdmapjdfghgfaadoor", sum := "68611edb1f52846bf97867f0bf835a5273a84ab7a343620ab2173804aa146873", func := "hourbook/hourbooklaw02.CrcXors", spec := "crcXors", named := ["hourbook/crc.half"], apart := false, laid := [("hourbook/crc.half", laid_hourbook_crc_half)], narrowed := true }
def CrcXorsUptoSaid : Prop := crcXorsUptoRow.holds Tryd.pinned (OpenSpec.upto crcXorsSpec)

/-- 'hourbooklaw02.CrcField', WHERE WHAT IT READS IS OF BULK AT MOST 1048576: true; the input reads as it did. -/
def crcFieldUptoRow : OpenClaim := { program := "ythdmapjdfghgfaadoor", sum := "68611edb1f52846bf97867f0bf835a5273a84ab7a343620ab2173804aa146873", func := "hourbook/hourbooklaw02.CrcField", spec := "crcField", named := ["hourbook/crc.half"], apart := false, laid := [("hourbook/crc.half", laid_hourbook_crc_half)], narrowed := true }
def CrcFieldUptoSaid : Prop := crcFieldUptoRow.holds Tryd.pinned (OpenSpec.upto crcFieldSpec)

/-- 'hourbooklaw02.CrcProducts', WHERE WHAT IT READS IS OF BULK AT MOST 1048576: true; the input reads as it did. -/
def crcProductsUptoRow : OpenClaim := { program := "ythdmapjdfghgfaadoor", sum := "68611edb1f52846bf97867f0bf835a5273a84ab7a343620ab2173804aa146873", func := "hourbook/hourbooklaw02.CrcProducts", spec := "crcProducts", recurses := true, named := ["hourbook/crc.half"], apart := false, laid := [("hourbook/crc.half", laid_hourbook_crc_half)], narrowed := true }
def CrcProductsUptoSaid : Prop := crcProductsUptoRow.holds Tryd.pinned (OpenSpec.upto crcProductsSpec)

/-- 'hourbooklaw02.CrcParts', WHERE WHAT IT READS IS OF BULK AT MOST 1048576: true; the input reads as it did. -/
def crcPartsUptoRow : OpenClaim := { program := "ythdmapjdfghgfaadoor", sum := "68611edb1f52846bf97867f0bf835a5273a84ab7a343620ab2173804aa146873", func := "hourbook/hourbooklaw02.CrcParts", spec := "crcParts", named := ["hourbook/crc.half"], apart := false, laid := [("hourbook/crc.half", laid_hourbook_crc_half)], narrowed := true }
def CrcPartsUptoSaid : Prop := crcPartsUptoRow.holds Tryd.pinned (OpenSpec.upto crcPartsSpec)

/-- 'hourbooklaw02.CrcSums', WHERE WHAT IT READS IS OF BULK AT MOST 1048576: true; the input reads as it did. -/
def crcSumsUptoRow : OpenClaim := { program := "ythdmapjdfghgfaadoor", sum := "68611edb1f52846bf97867f0bf835a5273a84ab7a343620ab2173804aa146873", func := "hourbook/hourbooklaw02.CrcSums", spec := "crcSums", named := ["hourbook/crc.half"], apart := false, laid := [("hourbook/crc.half", laid_hourbook_crc_half)], narrowed := true }
def CrcSumsUptoSaid : Prop := crcSumsUptoRow.holds Tryd.pinned (OpenSpec.upto crcSumsSpec)

/-- 'hourbooklaw02.CrcTurned', WHERE WHAT IT READS IS OF BULK AT MOST 1048576: true; the input reads as it did. -/
def crcTurnedUptoRow : OpenClaim := { program := "ythdmapjdfghgfaadoor", sum := "68611edb1f52846bf97867f0bf835a5273a84ab7a343620ab2173804aa146873", func := "hourbook/hourbooklaw02.CrcTurned", spec := "crcTurned", named := ["hourbook/crc.half"], apart := false, laid := [("hourbook/crc.half", laid_hourbook_crc_half)], narrowed := true }
def CrcTurnedUptoSaid : Prop := crcTurnedUptoRow.holds Tryd.pinned (OpenSpec.upto crcTurnedSpec)

/-- 'hourbooklaw02.CrcKnown', WHERE WHAT IT READS IS OF BULK AT MOST 1048576: true; the input reads as it did. -/
def crcKnownUptoRow : OpenClaim := { program := "ythdmapjdfghgfaadoor", sum := "68611edb1f52846bf97867f0bf835a5273a84ab7a343620ab2173804aa146873", func := "hourbook/hourbooklaw02.CrcKnown", spec := "crcKnown", named := ["hourbook/crc.half"], apart := false, laid := [("hourbook/crc.half", laid_hourbook_crc_half)], narrowed := true }
def CrcKnownUptoSaid : Prop := crcKnownUptoRow.holds Tryd.pinned (OpenSpec.upto crcKnownSpec)

end Rows
end Go.Proofs.YthdmapjdfghgfaaDoor
