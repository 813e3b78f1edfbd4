/-
  DERIVED. GIVEN WITH THE SEED: THE CARDS: each row of YtjhaikcokbmdbaaGreatDoorRows.lean that lists a variable, with what it lists TIED to the program's text (the seventh form; the later family's looks); each row that meets fmt, with fmt's text TOLD by the authors' own Lean function (tested against real Go, not proved from fmt's source: count such statements apart). THE CARD IS WHAT COUNTS. Prove the row's statement (the work); the ties are given (YtjhaikcokbmdbaaGreatDoorTie.lean); close each card by the builder's one call (the guide's Derived/Test/ToyasCard.lean, 'card_holds'). Laid BY PROGRAM, IN A SANDBOX (cutbox-door.mjs). By AI agents, Wed Nov 11 2026. No macro, syntax, notation, axiom, sorry.
-/
import Derived.Test.YtjhaikcokbmdbaaGreatDoorRows
import GoSem.ClaimSeven
namespace Go.Proofs.YtjhaikcokbmdbaaGreatDoor
namespace Rows

/-- THE TIED CARD OF 'hourbooklaw27.MergeKnown'. -/
def mergeKnownCard : Claim7 := { stood := { row := mergeKnownRow, standIns := [], harness := (true, "c3db8484ce671c41f52ca22a1ac65f7079a7981a059fca22a3b4e9f0e6620950"), looks := true }, kinds := [], alts := [], laidByText := true, laidKinds := [.data, .data, .data, .data, .data, .funcs], laidTests := true, laidLooks := .later }
def MergeKnownCardSaid : Prop := Claim7.holds Tryz.pinned (.plain (OpenSpec.ofChange mergeKnownSpec)) mergeKnownCard

/-- THE TIED CARD OF 'hourbooklaw28.RecoverKnown'. -/
def recoverKnownCard : Claim7 := { stood := { row := recoverKnownRow, standIns := [], harness := (true, "c3db8484ce671c41f52ca22a1ac65f7079a7981a059fca22a3b4e9f0e6620950"), looks := true }, kinds := [], alts := [], laidByText := true, laidKinds := [.data, .data, .data, .data, .sentinel, .sentinel, .data, .funcs], laidTests := true, laidLooks := .later }
def RecoverKnownCardSaid : Prop := Claim7.holds Tryz.pinned (.plain (OpenSpec.ofChange recoverKnownSpec)) recoverKnownCard

/-- THE SECOND FORM's CARD OF 'hourbooklaw27.MergeKnown'. -/
def mergeKnownUptoCard : Claim7 := { stood := { row := mergeKnownUptoRow, standIns := [], harness := (true, "c3db8484ce671c41f52ca22a1ac65f7079a7981a059fca22a3b4e9f0e6620950"), looks := true }, kinds := [], alts := [], laidByText := true, laidKinds := [.data, .data, .data, .data, .data, .funcs], laidTests := true, laidLooks := .later }
def MergeKnownUptoCardSaid : Prop := Claim7.holds Tryz.pinned (.plain (OpenSpec.upto mergeKnownSpec)) mergeKnownUptoCard

/-- THE SECOND FORM's CARD OF 'hourbooklaw28.RecoverKnown'. -/
def recoverKnownUptoCard : Claim7 := { stood := { row := recoverKnownUptoRow, standIns := [], harness := (true, "c3db8484ce671c41f52ca22a1ac65f7079a7981a059fca22a3b4e9f0e6620950"), looks := true }, kinds := [], alts := [], laidByText := true, laidKinds := [.data, .data, .data, .data, .sentinel, .sentinel, .data, .funcs], laidTests := true, laidLooks := .later }
def RecoverKnownUptoCardSaid : Prop := Claim7.holds Tryz.pinned (.plain (OpenSpec.upto recoverKnownSpec)) recoverKnownUptoCard
end Rows
end Go.Proofs.YtjhaikcokbmdbaaGreatDoor
