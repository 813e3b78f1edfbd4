/-
  NARROWER THAN 'FOR EVERY INPUT', by the rows' own cells (each row's printed sentence says how): SegNames: laid · RollRefused: laid · RollPlays: laid · RollSafe: laid · RollBack: laid · SegBack: laid · SegFlip: laid · SegCrash: laid.
  DERIVED. THE GIVEN ROWS OF THIS SEAT. 8 by the template 'for every input the law returns true; each argument reads behind the call as it read before'; 0 by the template 'total and deterministic' (their statements: YtgfkepebfaiepaaGreatDoorTotals.lean).
  GIVEN WITH THE SEED: the statements are not yours to turn. If you find one false, say at which input.
  Laid BY PROGRAM, IN A SANDBOX (cutbox-rows.mjs): the forced cells as the released guide's own fill.sh prints them over the translation 90d4cfc62b080e14… (all of the seat's roots in one cut). By AI agents, Wed Nov 11 2026. No macro, syntax, notation, axiom, sorry.
-/
import Derived.Test.YtgfkepebfaiepaaGreatDoorChecked
import GoSem.Claim
import GoSem.ClaimJoined
import GoSem.ClaimMapViews
import Derived.JoinedTies
import Derived.KernelRfl
namespace Go.Proofs.YtgfkepebfaiepaaGreatDoor
/- THE CELL 'sum', in the pinned program and in every row, IS THE sha256 OF THE DUMP (.gsa) THAT YtgfkepebfaiepaaGreatDoorProg.lean LOADS. Nothing in Lean hashes anything: it is a label: what it is worth is what the hold of that sum in a sandbox is worth. -/
noncomputable def Tryz.pinned : Pinned := { name := "ytgfkepebfaiepaagreatdoor", sum := "90d4cfc62b080e14d07c5e0eb4335d14dc2bbb938816520bfaba77861b33bbde", checked := Tryz.checked }
namespace Rows
def none {H : Type} : Left H := { results := [], args := [] }

/- WHAT THE LISTED PACKAGE-LEVEL VARIABLES READ AS WHEN THE CALL BEGINS. Each datum BY PROGRAM (the guide's laid-datum.mjs) off the statement by which the dump's own 'gosem.cut.vars' lays the variable. In a bare row this is a premise. The card (YtgfkepebfaiepaaGreatDoorCards.lean) ties it to the program's text. -/
def laid_hourbook_crc_half {H : Type} : DataW H := .agg [.lit (.int .u32 0), .lit (.int .u32 274646895), .lit (.int .u32 549293790), .lit (.int .u32 820201905), .lit (.int .u32 1098587580), .lit (.int .u32 1361435347), .lit (.int .u32 1640403810), .lit (.int .u32 1905808397), .lit (.int .u32 2197175160), .lit (.int .u32 2460548119), .lit (.int .u32 2722870694), .lit (.int .u32 2987750089), .lit (.int .u32 3280807620), .lit (.int .u32 3553878443), .lit (.int .u32 3811616794), .lit (.int .u32 4084100981)]
def laid_math_bits_deBruijn32tab {H : Type} : DataW H := .agg [.lit (.int .u8 0), .lit (.int .u8 1), .lit (.int .u8 28), .lit (.int .u8 2), .lit (.int .u8 29), .lit (.int .u8 14), .lit (.int .u8 24), .lit (.int .u8 3), .lit (.int .u8 30), .lit (.int .u8 22), .lit (.int .u8 20), .lit (.int .u8 15), .lit (.int .u8 25), .lit (.int .u8 17), .lit (.int .u8 4), .lit (.int .u8 8), .lit (.int .u8 31), .lit (.int .u8 27), .lit (.int .u8 13), .lit (.int .u8 23), .lit (.int .u8 21), .lit (.int .u8 19), .lit (.int .u8 16), .lit (.int .u8 7), .lit (.int .u8 26), .lit (.int .u8 12), .lit (.int .u8 18), .lit (.int .u8 6), .lit (.int .u8 11), .lit (.int .u8 5), .lit (.int .u8 10), .lit (.int .u8 9)]
def laid_math_bits_deBruijn64tab {H : Type} : DataW H := .agg [.lit (.int .u8 0), .lit (.int .u8 1), .lit (.int .u8 56), .lit (.int .u8 2), .lit (.int .u8 57), .lit (.int .u8 49), .lit (.int .u8 28), .lit (.int .u8 3), .lit (.int .u8 61), .lit (.int .u8 58), .lit (.int .u8 42), .lit (.int .u8 50), .lit (.int .u8 38), .lit (.int .u8 29), .lit (.int .u8 17), .lit (.int .u8 4), .lit (.int .u8 62), .lit (.int .u8 47), .lit (.int .u8 59), .lit (.int .u8 36), .lit (.int .u8 45), .lit (.int .u8 43), .lit (.int .u8 51), .lit (.int .u8 22), .lit (.int .u8 53), .lit (.int .u8 39), .lit (.int .u8 33), .lit (.int .u8 30), .lit (.int .u8 24), .lit (.int .u8 18), .lit (.int .u8 12), .lit (.int .u8 5), .lit (.int .u8 63), .lit (.int .u8 55), .lit (.int .u8 48), .lit (.int .u8 27), .lit (.int .u8 60), .lit (.int .u8 41), .lit (.int .u8 37), .lit (.int .u8 16), .lit (.int .u8 46), .lit (.int .u8 35), .lit (.int .u8 44), .lit (.int .u8 21), .lit (.int .u8 52), .lit (.int .u8 32), .lit (.int .u8 23), .lit (.int .u8 11), .lit (.int .u8 54), .lit (.int .u8 26), .lit (.int .u8 40), .lit (.int .u8 15), .lit (.int .u8 34), .lit (.int .u8 20), .lit (.int .u8 31), .lit (.int .u8 10), .lit (.int .u8 25), .lit (.int .u8 14), .lit (.int .u8 19), .lit (.int .u8 9), .lit (.int .u8 13), .lit (.int .u8 8), .lit (.int .u8 7), .lit (.int .u8 6)]
def laid_internal_strconv_uint64pow10 {H : Type} : DataW H := .agg [.lit (.int .u64 1), .lit (.int .u64 10), .lit (.int .u64 100), .lit (.int .u64 1000), .lit (.int .u64 10000), .lit (.int .u64 100000), .lit (.int .u64 1000000), .lit (.int .u64 10000000), .lit (.int .u64 100000000), .lit (.int .u64 1000000000), .lit (.int .u64 10000000000), .lit (.int .u64 100000000000), .lit (.int .u64 1000000000000), .lit (.int .u64 10000000000000), .lit (.int .u64 100000000000000), .lit (.int .u64 1000000000000000), .lit (.int .u64 10000000000000000), .lit (.int .u64 100000000000000000), .lit (.int .u64 1000000000000000000), .lit (.int .u64 10000000000000000000)]
def laid_strconv_ErrRange {H : Type} : DataW H := .iface "*errors.errorString" (.ptr (.agg [.lit (.string [118, 97, 108, 117, 101, 32, 111, 117, 116, 32, 111, 102, 32, 114, 97, 110, 103, 101])]))
def laid_strconv_ErrSyntax {H : Type} : DataW H := .iface "*errors.errorString" (.ptr (.agg [.lit (.string [105, 110, 118, 97, 108, 105, 100, 32, 115, 121, 110, 116, 97, 120])]))
def laid_hourbook_record_sizes {H : Type} : DataW H := .agg [.lit (.int .i64 1), .lit (.int .i64 1), .lit (.int .i64 2), .lit (.int .i64 6), .lit (.int .i64 3), .lit (.int .i64 4)]

/-- 'hourbooklaw11.SegNames': WHATEVER THE INPUT: true; the input reads as it did. -/
def segNamesSpec : ChangeSpec := { name := "segNames", fn := fun _ => fun
  | [d1, d2] => { results := [.lit (.bool true)], args := [d1, d2] }
  | _ => none }
def segNamesRow : OpenClaim := { program := "ytgfkepebfaiepaagreatdoor", sum := "90d4cfc62b080e14d07c5e0eb4335d14dc2bbb938816520bfaba77861b33bbde", func := "hourbook/hourbooklaw11.SegNames", spec := "segNames", inPlace := ["internal/abi.NoEscape", "internal/bytealg.MakeNoZero", "maps.clone"], unfollowed := true, recurses := true, named := ["strconv.ErrSyntax", "strconv.ErrRange", "internal/strconv.uint64pow10", "math/bits.deBruijn32tab", "math/bits.deBruijn64tab", "hourbook/crc.half", "hourbook/record.sizes"], apart := false, laid := [("hourbook/crc.half", laid_hourbook_crc_half), ("math/bits.deBruijn32tab", laid_math_bits_deBruijn32tab), ("math/bits.deBruijn64tab", laid_math_bits_deBruijn64tab), ("internal/strconv.uint64pow10", laid_internal_strconv_uint64pow10), ("strconv.ErrRange", laid_strconv_ErrRange), ("strconv.ErrSyntax", laid_strconv_ErrSyntax), ("hourbook/record.sizes", laid_hourbook_record_sizes)] }
def SegNamesSaid : Prop := segNamesRow.holds Tryz.pinned (OpenSpec.ofChange segNamesSpec)

/-- ITS FALSE NEIGHBOUR: 'it returns false'. Refute it at one input. -/
def segNamesWrong : ChangeSpec := { name := "segNames", fn := fun _ => fun
  | [d1, d2] => { results := [.lit (.bool false)], args := [d1, d2] }
  | _ => none }
def SegNamesWrongFalsely : Prop := segNamesRow.holds Tryz.pinned (OpenSpec.ofChange segNamesWrong)

/-- 'hourbooklaw13.RollRefused': WHATEVER THE INPUT: true; the input reads as it did. -/
def rollRefusedSpec : ChangeSpec := { name := "rollRefused", fn := fun _ => fun
  | [d1, d2, d3] => { results := [.lit (.bool true)], args := [d1, d2, d3] }
  | _ => none }
def rollRefusedRow : OpenClaim := { program := "ytgfkepebfaiepaagreatdoor", sum := "90d4cfc62b080e14d07c5e0eb4335d14dc2bbb938816520bfaba77861b33bbde", func := "hourbook/hourbooklaw13.RollRefused", spec := "rollRefused", inPlace := ["internal/abi.NoEscape", "internal/bytealg.MakeNoZero", "maps.clone"], unfollowed := true, recurses := true, named := ["internal/strconv.uint64pow10", "math/bits.deBruijn32tab", "math/bits.deBruijn64tab", "hourbook/crc.half", "hourbook/record.sizes"], apart := false, laid := [("hourbook/crc.half", laid_hourbook_crc_half), ("math/bits.deBruijn32tab", laid_math_bits_deBruijn32tab), ("math/bits.deBruijn64tab", laid_math_bits_deBruijn64tab), ("internal/strconv.uint64pow10", laid_internal_strconv_uint64pow10), ("hourbook/record.sizes", laid_hourbook_record_sizes)] }
def RollRefusedSaid : Prop := rollRefusedRow.holds Tryz.pinned (OpenSpec.ofChange rollRefusedSpec)

/-- ITS FALSE NEIGHBOUR: 'it returns false'. Refute it at one input. -/
def rollRefusedWrong : ChangeSpec := { name := "rollRefused", fn := fun _ => fun
  | [d1, d2, d3] => { results := [.lit (.bool false)], args := [d1, d2, d3] }
  | _ => none }
def RollRefusedWrongFalsely : Prop := rollRefusedRow.holds Tryz.pinned (OpenSpec.ofChange rollRefusedWrong)

/-- 'hourbooklaw13.RollPlays': WHATEVER THE INPUT: true; the input reads as it did. -/
def rollPlaysSpec : ChangeSpec := { name := "rollPlays", fn := fun _ => fun
  | [d1, d2] => { results := [.lit (.bool true)], args := [d1, d2] }
  | _ => none }
def rollPlaysRow : OpenClaim := { program := "ytgfkepebfaiepaagreatdoor", sum := "90d4cfc62b080e14d07c5e0eb4335d14dc2bbb938816520bfaba77861b33bbde", func := "hourbook/hourbooklaw13.RollPlays", spec := "rollPlays", inPlace := ["internal/abi.NoEscape", "internal/bytealg.MakeNoZero", "maps.clone"], unfollowed := true, recurses := true, named := ["internal/strconv.uint64pow10", "math/bits.deBruijn32tab", "math/bits.deBruijn64tab", "hourbook/crc.half", "hourbook/record.sizes"], apart := false, laid := [("hourbook/crc.half", laid_hourbook_crc_half), ("math/bits.deBruijn32tab", laid_math_bits_deBruijn32tab), ("math/bits.deBruijn64tab", laid_math_bits_deBruijn64tab), ("internal/strconv.uint64pow10", laid_internal_strconv_uint64pow10), ("hourbook/record.sizes", laid_hourbook_record_sizes)] }
def RollPlaysSaid : Prop := rollPlaysRow.holds Tryz.pinned (OpenSpec.ofChange rollPlaysSpec)

/-- ITS FALSE NEIGHBOUR: 'it returns false'. Refute it at one input. -/
def rollPlaysWrong : ChangeSpec := { name := "rollPlays", fn := fun _ => fun
  | [d1, d2] => { results := [.lit (.bool false)], args := [d1, d2] }
  | _ => none }
def RollPlaysWrongFalsely : Prop := rollPlaysRow.holds Tryz.pinned (OpenSpec.ofChange rollPlaysWrong)

/-- 'hourbooklaw13.RollSafe': WHATEVER THE INPUT: true; the input reads as it did. -/
def rollSafeSpec : ChangeSpec := { name := "rollSafe", fn := fun _ => fun
  | [d1, d2, d3] => { results := [.lit (.bool true)], args := [d1, d2, d3] }
  | _ => none }
def rollSafeRow : OpenClaim := { program := "ytgfkepebfaiepaagreatdoor", sum := "90d4cfc62b080e14d07c5e0eb4335d14dc2bbb938816520bfaba77861b33bbde", func := "hourbook/hourbooklaw13.RollSafe", spec := "rollSafe", inPlace := ["internal/abi.NoEscape", "internal/bytealg.MakeNoZero", "maps.clone"], unfollowed := true, recurses := true, named := ["internal/strconv.uint64pow10", "math/bits.deBruijn32tab", "math/bits.deBruijn64tab", "hourbook/crc.half", "hourbook/record.sizes"], apart := false, laid := [("hourbook/crc.half", laid_hourbook_crc_half), ("math/bits.deBruijn32tab", laid_math_bits_deBruijn32tab), ("math/bits.deBruijn64tab", laid_math_bits_deBruijn64tab), ("internal/strconv.uint64pow10", laid_internal_strconv_uint64pow10), ("hourbook/record.sizes", laid_hourbook_record_sizes)] }
def RollSafeSaid : Prop := rollSafeRow.holds Tryz.pinned (OpenSpec.ofChange rollSafeSpec)

/-- ITS FALSE NEIGHBOUR: 'it returns false'. Refute it at one input. -/
def rollSafeWrong : ChangeSpec := { name := "rollSafe", fn := fun _ => fun
  | [d1, d2, d3] => { results := [.lit (.bool false)], args := [d1, d2, d3] }
  | _ => none }
def RollSafeWrongFalsely : Prop := rollSafeRow.holds Tryz.pinned (OpenSpec.ofChange rollSafeWrong)

/-- 'hourbooklaw13.RollBack': WHATEVER THE INPUT: true; the input reads as it did. -/
def rollBackSpec : ChangeSpec := { name := "rollBack", fn := fun _ => fun
  | [d1, d2] => { results := [.lit (.bool true)], args := [d1, d2] }
  | _ => none }
def rollBackRow : OpenClaim := { program := "ytgfkepebfaiepaagreatdoor", sum := "90d4cfc62b080e14d07c5e0eb4335d14dc2bbb938816520bfaba77861b33bbde", func := "hourbook/hourbooklaw13.RollBack", spec := "rollBack", inPlace := ["internal/abi.NoEscape", "internal/bytealg.MakeNoZero", "maps.clone"], unfollowed := true, recurses := true, named := ["internal/strconv.uint64pow10", "math/bits.deBruijn32tab", "math/bits.deBruijn64tab", "hourbook/crc.half", "hourbook/record.sizes"], apart := false, laid := [("hourbook/crc.half", laid_hourbook_crc_half), ("math/bits.deBruijn32tab", laid_math_bits_deBruijn32tab), ("math/bits.deBruijn64tab", laid_math_bits_deBruijn64tab), ("internal/strconv.uint64pow10", laid_internal_strconv_uint64pow10), ("hourbook/record.sizes", laid_hourbook_record_sizes)] }
def RollBackSaid : Prop := rollBackRow.holds Tryz.pinned (OpenSpec.ofChange rollBackSpec)

/-- ITS FALSE NEIGHBOUR: 'it returns false'. Refute it at one input. -/
def rollBackWrong : ChangeSpec := { name := "rollBack", fn := fun _ => fun
  | [d1, d2] => { results := [.lit (.bool false)], args := [d1, d2] }
  | _ => none }
def RollBackWrongFalsely : Prop := rollBackRow.holds Tryz.pinned (OpenSpec.ofChange rollBackWrong)

/-- 'hourbooklaw11.SegBack': WHATEVER THE INPUT: true; the input reads as it did. -/
def segBackSpec : ChangeSpec := { name := "segBack", fn := fun _ => fun
  | [d1, d2, d3] => { results := [.lit (.bool true)], args := [d1, d2, d3] }
  | _ => none }
def segBackRow : OpenClaim := { program := "ytgfkepebfaiepaagreatdoor", sum := "90d4cfc62b080e14d07c5e0eb4335d14dc2bbb938816520bfaba77861b33bbde", func := "hourbook/hourbooklaw11.SegBack", spec := "segBack", inPlace := ["internal/abi.NoEscape", "internal/bytealg.MakeNoZero", "maps.clone"], unfollowed := true, recurses := true, named := ["strconv.ErrSyntax", "strconv.ErrRange", "internal/strconv.uint64pow10", "math/bits.deBruijn32tab", "math/bits.deBruijn64tab", "hourbook/crc.half", "hourbook/record.sizes"], apart := false, laid := [("hourbook/crc.half", laid_hourbook_crc_half), ("math/bits.deBruijn32tab", laid_math_bits_deBruijn32tab), ("math/bits.deBruijn64tab", laid_math_bits_deBruijn64tab), ("internal/strconv.uint64pow10", laid_internal_strconv_uint64pow10), ("strconv.ErrRange", laid_strconv_ErrRange), ("strconv.ErrSyntax", laid_strconv_ErrSyntax), ("hourbook/record.sizes", laid_hourbook_record_sizes)] }
def SegBackSaid : Prop := segBackRow.holds Tryz.pinned (OpenSpec.ofChange segBackSpec)

/-- ITS FALSE NEIGHBOUR: 'it returns false'. Refute it at one input. -/
def segBackWrong : ChangeSpec := { name := "segBack", fn := fun _ => fun
  | [d1, d2, d3] => { results := [.lit (.bool false)], args := [d1, d2, d3] }
  | _ => none }
def SegBackWrongFalsely : Prop := segBackRow.holds Tryz.pinned (OpenSpec.ofChange segBackWrong)

/-- 'hourbooklaw11.SegFlip': WHATEVER THE INPUT: true; the input reads as it did. -/
def segFlipSpec : ChangeSpec := { name := "segFlip", fn := fun _ => fun
  | [d1, d2, d3] => { results := [.lit (.bool true)], args := [d1, d2, d3] }
  | _ => none }
def segFlipRow : OpenClaim := { program := "ytgfkepebfaiepaagreatdoor", sum := "90d4cfc62b080e14d07c5e0eb4335d14dc2bbb938816520bfaba77861b33bbde", func := "hourbook/hourbooklaw11.SegFlip", spec := "segFlip", inPlace := ["internal/abi.NoEscape", "internal/bytealg.MakeNoZero", "maps.clone"], unfollowed := true, recurses := true, named := ["strconv.ErrSyntax", "strconv.ErrRange", "internal/strconv.uint64pow10", "math/bits.deBruijn32tab", "math/bits.deBruijn64tab", "hourbook/crc.half", "hourbook/record.sizes"], apart := false, laid := [("hourbook/crc.half", laid_hourbook_crc_half), ("math/bits.deBruijn32tab", laid_math_bits_deBruijn32tab), ("math/bits.deBruijn64tab", laid_math_bits_deBruijn64tab), ("internal/strconv.uint64pow10", laid_internal_strconv_uint64pow10), ("strconv.ErrRange", laid_strconv_ErrRange), ("strconv.ErrSyntax", laid_strconv_ErrSyntax), ("hourbook/record.sizes", laid_hourbook_record_sizes)] }
def SegFlipSaid : Prop := segFlipRow.holds Tryz.pinned (OpenSpec.ofChange segFlipSpec)

/-- ITS FALSE NEIGHBOUR: 'it returns false'. Refute it at one input. -/
def segFlipWrong : ChangeSpec := { name := "segFlip", fn := fun _ => fun
  | [d1, d2, d3] => { results := [.lit (.bool false)], args := [d1, d2, d3] }
  | _ => none }
def SegFlipWrongFalsely : Prop := segFlipRow.holds Tryz.pinned (OpenSpec.ofChange segFlipWrong)

/-- 'hourbooklaw11.SegCrash': WHATEVER THE INPUT: true; the input reads as it did. -/
def segCrashSpec : ChangeSpec := { name := "segCrash", fn := fun _ => fun
  | [d1, d2, d3] => { results := [.lit (.bool true)], args := [d1, d2, d3] }
  | _ => none }
def segCrashRow : OpenClaim := { program := "ytgfkepebfaiepaagreatdoor", sum := "90d4cfc62b080e14d07c5e0eb4335d14dc2bbb938816520bfaba77861b33bbde", func := "hourbook/hourbooklaw11.SegCrash", spec := "segCrash", inPlace := ["internal/abi.NoEscape", "internal/bytealg.MakeNoZero", "maps.clone"], unfollowed := true, recurses := true, named := ["strconv.ErrSyntax", "strconv.ErrRange", "internal/strconv.uint64pow10", "math/bits.deBruijn32tab", "math/bits.deBruijn64tab", "hourbook/crc.half", "hourbook/record.sizes"], apart := false, laid := [("hourbook/crc.half", laid_hourbook_crc_half), ("math/bits.deBruijn32tab", laid_math_bits_deBruijn32tab), ("math/bits.deBruijn64tab", laid_math_bits_deBruijn64tab), ("internal/strconv.uint64pow10", laid_internal_strconv_uint64pow10), ("strconv.ErrRange", laid_strconv_ErrRange), ("strconv.ErrSyntax", laid_strconv_ErrSyntax), ("hourbook/record.sizes", laid_hourbook_record_sizes)] }
def SegCrashSaid : Prop := segCrashRow.holds Tryz.pinned (OpenSpec.ofChange segCrashSpec)

/-- ITS FALSE NEIGHBOUR: 'it returns false'. Refute it at one input. -/
def segCrashWrong : ChangeSpec := { name := "segCrash", fn := fun _ => fun
  | [d1, d2, d3] => { results := [.lit (.bool false)], args := [d1, d2, d3] }
  | _ => none }
def SegCrashWrongFalsely : Prop := segCrashRow.holds Tryz.pinned (OpenSpec.ofChange segCrashWrong)

/- THE SECOND FORM. 'bulk': how many values and letters a reading holds, each counted each time it is reached (what is shared counts as often as it is met; a slice's spare places count too). A statement '..UptoSaid' is the law's where the arguments, and the package variables that the reading takes, are together of bulk at most 1048576: NARROWER than '..Said'. Prove '..Said' where nothing that the law and all that it calls make is longer than what came in: it says more and counts as full. Else prove '..UptoSaid'. A law counts once. -/
mutual
def uptoBulk {H : Type} : DataW H → Nat
  | .lit (.string bytes) => bytes.length + 1
  | .lit _ => 1
  | .nil => 1
  | .ptr d => uptoBulk d + 1
  | .slice elems spare => uptoBulkAll elems + uptoBulkAll spare + 1
  | .agg parts => uptoBulkAll parts + 1
  | .iface _ d => uptoBulk d + 1
  | .map entries => uptoBulkEntries entries + 1
  | .held _ => 1
def uptoBulkAll {H : Type} : List (DataW H) → Nat
  | [] => 0
  | d :: r => uptoBulk d + uptoBulkAll r
def uptoBulkEntries {H : Type} : List (Lit × DataW H) → Nat
  | [] => 0
  | x :: r => uptoBulkEntry x + uptoBulkEntries r
def uptoBulkEntry {H : Type} : Lit × DataW H → Nat
  | (.string bytes, d) => bytes.length + uptoBulk d + 1
  | (_, d) => uptoBulk d + 1
 end
def uptoSmall : (H : Type) → List (DataW H) → Bool := fun _ ds => decide (uptoBulkAll ds ≤ 1048576)
def OpenSpec.upto (s : _root_.Go.ChangeSpec) : _root_.Go.OpenSpec := { _root_.Go.OpenSpec.ofChange s with cond := some uptoSmall }

/-- 'hourbooklaw11.SegNames', WHERE WHAT IT READS IS OF BULK AT MOST 1048576: true; the input reads as it did. -/
def segNamesUptoRow : OpenClaim := { program := "ytgfkepebfaiepaagreatdoor", sum := "90d4cfc62b080e14d07c5e0eb4335d14dc2bbb938816520bfaba77861b33bbde", func := "hourbook/hourbooklaw11.SegNames", spec := "segNames", inPlace := ["internal/abi.NoEscape", "internal/bytealg.MakeNoZero", "maps.clone"], unfollowed := true, recurses := true, named := ["strconv.ErrSyntax", "strconv.ErrRange", "internal/strconv.uint64pow10", "math/bits.deBruijn32tab", "math/bits.deBruijn64tab", "hourbook/crc.half", "hourbook/record.sizes"], apart := false, laid := [("hourbook/crc.half", laid_hourbook_crc_half), ("math/bits.deBruijn32tab", laid_math_bits_deBruijn32tab), ("math/bits.deBruijn64tab", laid_math_bits_deBruijn64tab), ("internal/strconv.uint64pow10", laid_internal_strconv_uint64pow10), ("strconv.ErrRange", laid_strconv_ErrRange), ("strconv.ErrSyntax", laid_strconv_ErrSyntax), ("hourbook/record.sizes", laid_hourbook_record_sizes)], narrowed := true }
def SegNamesUptoSaid : Prop := segNamesUptoRow.holds Tryz.pinned (OpenSpec.upto segNamesSpec)

/-- 'hourbooklaw13.RollRefused', WHERE WHAT IT READS IS OF BULK AT MOST 1048576: true; the input reads as it did. -/
def rollRefusedUptoRow : OpenClaim := { program := "ytgfkepebfaiepaagreatdoor", sum := "90d4cfc62b080e14d07c5e0eb4335d14dc2bbb938816520bfaba77861b33bbde", func := "hourbook/hourbooklaw13.RollRefused", spec := "rollRefused", inPlace := ["internal/abi.NoEscape", "internal/bytealg.MakeNoZero", "maps.clone"], unfollowed := true, recurses := true, named := ["internal/strconv.uint64pow10", "math/bits.deBruijn32tab", "math/bits.deBruijn64tab", "hourbook/crc.half", "hourbook/record.sizes"], apart := false, laid := [("hourbook/crc.half", laid_hourbook_crc_half), ("math/bits.deBruijn32tab", laid_math_bits_deBruijn32tab), ("math/bits.deBruijn64tab", laid_math_bits_deBruijn64tab), ("internal/strconv.uint64pow10", laid_internal_strconv_uint64pow10), ("hourbook/record.sizes", laid_hourbook_record_sizes)], narrowed := true }
def RollRefusedUptoSaid : Prop := rollRefusedUptoRow.holds Tryz.pinned (OpenSpec.upto rollRefusedSpec)

/-- 'hourbooklaw13.RollPlays', WHERE WHAT IT READS IS OF BULK AT MOST 1048576: true; the input reads as it did. -/
def rollPlaysUptoRow : OpenClaim := { program := "ytgfkepebfaiepaagreatdoor", sum := "90d4cfc62b080e14d07c5e0eb4335d14dc2bbb938816520bfaba77861b33bbde", func := "hourbook/hourbooklaw13.RollPlays", spec := "rollPlays", inPlace := ["internal/abi.NoEscape", "internal/bytealg.MakeNoZero", "maps.clone"], unfollowed := true, recurses := true, named := ["internal/strconv.uint64pow10", "math/bits.deBruijn32tab", "math/bits.deBruijn64tab", "hourbook/crc.half", "hourbook/record.sizes"], apart := false, laid := [("hourbook/crc.half", laid_hourbook_crc_half), ("math/bits.deBruijn32tab", laid_math_bits_deBruijn32tab), ("math/bits.deBruijn64tab", laid_math_bits_deBruijn64tab), ("internal/strconv.uint64pow10", laid_internal_strconv_uint64pow10), ("hourbook/record.sizes", laid_hourbook_record_sizes)], narrowed := true }
def RollPlaysUptoSaid : Prop := rollPlaysUptoRow.holds Tryz.pinned (OpenSpec.upto rollPlaysSpec)

/-- 'hourbooklaw13.RollSafe', WHERE WHAT IT READS IS OF BULK AT MOST 1048576: true; the input reads as it did. -/
def rollSafeUptoRow : OpenClaim := { program := "ytgfkepebfaiepaagreatdoor", sum := "90d4cfc62b080e14d07c5e0eb4335d14dc2bbb938816520bfaba77861b33bbde", func := "hourbook/hourbooklaw13.RollSafe", spec := "rollSafe", inPlace := ["internal/abi.NoEscape", "internal/bytealg.MakeNoZero", "maps.clone"], unfollowed := true, recurses := true, named := ["internal/strconv.uint64pow10", "math/bits.deBruijn32tab", "math/bits.deBruijn64tab", "hourbook/crc.half", "hourbook/record.sizes"], apart := false, laid := [("hourbook/crc.half", laid_hourbook_crc_half), ("math/bits.deBruijn32tab", laid_math_bits_deBruijn32tab), ("math/bits.deBruijn64tab", laid_math_bits_deBruijn64tab), ("internal/strconv.uint64pow10", laid_internal_strconv_uint64pow10), ("hourbook/record.sizes", laid_hourbook_record_sizes)], narrowed := true }
def RollSafeUptoSaid : Prop := rollSafeUptoRow.holds Tryz.pinned (OpenSpec.upto rollSafeSpec)

/-- 'hourbooklaw13.RollBack', WHERE WHAT IT READS IS OF BULK AT MOST 1048576: true; the input reads as it did. -/
def rollBackUptoRow : OpenClaim := { program := "ytgfkepebfaiepaagreatdoor", sum := "90d4cfc62b080e14d07c5e0eb4335d14dc2bbb938816520bfaba77861b33bbde", func := "hourbook/hourbooklaw13.RollBack", spec := "rollBack", inPlace := ["internal/abi.NoEscape", "internal/bytealg.MakeNoZero", "maps.clone"], unfollowed := true, recurses := true, named := ["internal/strconv.uint64pow10", "math/bits.deBruijn32tab", "math/bits.deBruijn64tab", "hourbook/crc.half", "hourbook/record.sizes"], apart := false, laid := [("hourbook/crc.half", laid_hourbook_crc_half), ("math/bits.deBruijn32tab", laid_math_bits_deBruijn32tab), ("math/bits.deBruijn64tab", laid_math_bits_deBruijn64tab), ("internal/strconv.uint64pow10", laid_internal_strconv_uint64pow10), ("hourbook/record.sizes", laid_hourbook_record_sizes)], narrowed := true }
def RollBackUptoSaid : Prop := rollBackUptoRow.holds Tryz.pinned (OpenSpec.upto rollBackSpec)

/-- 'hourbooklaw11.SegBack', WHERE WHAT IT READS IS OF BULK AT MOST 1048576: true; the input reads as it did. -/
def segBackUptoRow : OpenClaim := { program := "ytgfkepebfaiepaagreatdoor", sum := "90d4cfc62b080e14d07c5e0eb4335d14dc2bbb938816520bfaba77861b33bbde", func := "hourbook/hourbooklaw11.SegBack", spec := "segBack", inPlace := ["internal/abi.NoEscape", "internal/bytealg.MakeNoZero", "maps.clone"], unfollowed := true, recurses := true, named := ["strconv.ErrSyntax", "strconv.ErrRange", "internal/strconv.uint64pow10", "math/bits.deBruijn32tab", "math/bits.deBruijn64tab", "hourbook/crc.half", "hourbook/record.sizes"], apart := false, laid := [("hourbook/crc.half", laid_hourbook_crc_half), ("math/bits.deBruijn32tab", laid_math_bits_deBruijn32tab), ("math/bits.deBruijn64tab", laid_math_bits_deBruijn64tab), ("internal/strconv.uint64pow10", laid_internal_strconv_uint64pow10), ("strconv.ErrRange", laid_strconv_ErrRange), ("strconv.ErrSyntax", laid_strconv_ErrSyntax), ("hourbook/record.sizes", laid_hourbook_record_sizes)], narrowed := true }
def SegBackUptoSaid : Prop := segBackUptoRow.holds Tryz.pinned (OpenSpec.upto segBackSpec)

/-- 'hourbooklaw11.SegFlip', WHERE WHAT IT READS IS OF BULK AT MOST 1048576: true; the input reads as it did. -/
def segFlipUptoRow : OpenClaim := { program := "ytgfkepebfaiepaagreatdoor", sum := "90d4cfc62b080e14d07c5e0eb4335d14dc2bbb938816520bfaba77861b33bbde", func := "hourbook/hourbooklaw11.SegFlip", spec := "segFlip", inPlace := ["internal/abi.NoEscape", "internal/bytealg.MakeNoZero", "maps.clone"], unfollowed := true, recurses := true, named := ["strconv.ErrSyntax", "strconv.ErrRange", "internal/strconv.uint64pow10", "math/bits.deBruijn32tab", "math/bits.deBruijn64tab", "hourbook/crc.half", "hourbook/record.sizes"], apart := false, laid := [("hourbook/crc.half", laid_hourbook_crc_half), ("math/bits.deBruijn32tab", laid_math_bits_deBruijn32tab), ("math/bits.deBruijn64tab", laid_math_bits_deBruijn64tab), ("internal/strconv.uint64pow10", laid_internal_strconv_uint64pow10), ("strconv.ErrRange", laid_strconv_ErrRange), ("strconv.ErrSyntax", laid_strconv_ErrSyntax), ("hourbook/record.sizes", laid_hourbook_record_sizes)], narrowed := true }
def SegFlipUptoSaid : Prop := segFlipUptoRow.holds Tryz.pinned (OpenSpec.upto segFlipSpec)

/-- 'hourbooklaw11.SegCrash', WHERE WHAT IT READS IS OF BULK AT MOST 1048576: true; the input reads as it did. -/
def segCrashUptoRow : OpenClaim := { program := "ytgfkepebfaiepaagreatdoor", sum := "90d4cfc62b080e14d07c5e0eb4335d14dc2bbb938816520bfaba77861b33bbde", func := "hourbook/hourbooklaw11.SegCrash", spec := "segCrash", inPlace := ["internal/abi.NoEscape", "internal/bytealg.MakeNoZero", "maps.clone"], unfollowed := true, recurses := true, named := ["strconv.ErrSyntax", "strconv.ErrRange", "internal/strconv.uint64pow10", "math/bits.deBruijn32tab", "math/bits.deBruijn64tab", "hourbook/crc.half", "hourbook/record.sizes"], apart := false, laid := [("hourbook/crc.half", laid_hourbook_crc_half), ("math/bits.deBruijn32tab", laid_math_bits_deBruijn32tab), ("math/bits.deBruijn64tab", laid_math_bits_deBruijn64tab), ("internal/strconv.uint64pow10", laid_internal_strconv_uint64pow10), ("strconv.ErrRange", laid_strconv_ErrRange), ("strconv.ErrSyntax", laid_strconv_ErrSyntax), ("hourbook/record.sizes", laid_hourbook_record_sizes)], narrowed := true }
def SegCrashUptoSaid : Prop := segCrashUptoRow.holds Tryz.pinned (OpenSpec.upto segCrashSpec)

end Rows
end Go.Proofs.YtgfkepebfaiepaaGreatDoor
