/-
  DERIVED. GIVEN WITH THE SEED: THE CARDS: each row of YtjekhemcbnddkaaGreatDoorRows.lean that lists a variable, with what it lists TIED to the program's text (the seventh form; the later family's looks); each row that meets fmt, with fmt's text TOLD by the authors' own Lean function (tested against real Go, not proved from fmt's source: count such statements apart). THE CARD IS WHAT COUNTS. Prove the row's statement (the work); the ties are given (YtjekhemcbnddkaaGreatDoorTie.lean); close each card by the builder's one call (the guide's Derived/Test/ToyasCard.lean, 'card_holds'). Laid BY PROGRAM, IN A SANDBOX (cutbox-door.mjs). By AI agents, Wed Nov 11 2026. No macro, syntax, notation, axiom, sorry.
-/
import Derived.Test.YtjekhemcbnddkaaGreatDoorRows
import GoSem.ClaimSeven
namespace Go.Proofs.YtjekhemcbnddkaaGreatDoor
namespace Rows

/-- THE TIED CARD OF 'hourbooklaw11.SegKnown'. -/
def segKnownCard : Claim7 := { stood := { row := segKnownRow, standIns := [], harness := (true, "0b49609627074223ccefc6684ee3600790f28878c5cea7a774d5a4844da58bcd"), looks := true }, kinds := [], alts := [], laidByText := true, laidKinds := [.data, .data, .data, .data, .sentinel, .sentinel, .data], laidTests := true, laidLooks := .later }
def SegKnownCardSaid : Prop := Claim7.holds Tryz.pinned (.plain (OpenSpec.ofChange segKnownSpec)) segKnownCard

/-- THE SECOND FORM's CARD OF 'hourbooklaw11.SegKnown'. -/
def segKnownUptoCard : Claim7 := { stood := { row := segKnownUptoRow, standIns := [], harness := (true, "0b49609627074223ccefc6684ee3600790f28878c5cea7a774d5a4844da58bcd"), looks := true }, kinds := [], alts := [], laidByText := true, laidKinds := [.data, .data, .data, .data, .sentinel, .sentinel, .data], laidTests := true, laidLooks := .later }
def SegKnownUptoCardSaid : Prop := Claim7.holds Tryz.pinned (.plain (OpenSpec.upto segKnownSpec)) segKnownUptoCard
end Rows
end Go.Proofs.YtjekhemcbnddkaaGreatDoor
