/-
  DERIVED. GIVEN WITH THE SEED: THE CARDS: each row of YtgfkepebfaiepaaGreatDoorRows.lean that lists a variable, with what it lists TIED to the program's text (the seventh form; the later family's looks); each row that meets fmt, with fmt's text TOLD by the authors' own Lean function (tested against real Go, not proved from fmt's source: count such statements apart). THE CARD IS WHAT COUNTS. Prove the row's statement (the work); the ties are given (YtgfkepebfaiepaaGreatDoorTie.lean); close each card by the builder's one call (the guide's Derived/Test/ToyasCard.lean, 'card_holds'). Laid BY PROGRAM, IN A SANDBOX (cutbox-door.mjs). By AI agents, Wed Nov 11 2026. No macro, syntax, notation, axiom, sorry.
-/
import Derived.Test.YtgfkepebfaiepaaGreatDoorRows
import GoSem.ClaimSeven
namespace Go.Proofs.YtgfkepebfaiepaaGreatDoor
namespace Rows

/-- THE TIED CARD OF 'hourbooklaw11.SegNames'. -/
def segNamesCard : Claim7 := { stood := { row := segNamesRow, standIns := [], harness := (true, "f5187b60bf7aa77d74f832ae2f3ffa4a15267b81dcb7e25b2e232b348c6072a4"), looks := true }, kinds := [], alts := [], laidByText := true, laidKinds := [.data, .data, .data, .data, .sentinel, .sentinel, .data], laidTests := true, laidLooks := .later }
def SegNamesCardSaid : Prop := Claim7.holds Tryz.pinned (.plain (OpenSpec.ofChange segNamesSpec)) segNamesCard

/-- THE TIED CARD OF 'hourbooklaw13.RollRefused'. -/
def rollRefusedCard : Claim7 := { stood := { row := rollRefusedRow, standIns := [], harness := (true, "f5187b60bf7aa77d74f832ae2f3ffa4a15267b81dcb7e25b2e232b348c6072a4"), looks := true }, kinds := [], alts := [], laidByText := true, laidKinds := [.data, .data, .data, .data, .data], laidTests := true, laidLooks := .later }
def RollRefusedCardSaid : Prop := Claim7.holds Tryz.pinned (.plain (OpenSpec.ofChange rollRefusedSpec)) rollRefusedCard

/-- THE TIED CARD OF 'hourbooklaw13.RollPlays'. -/
def rollPlaysCard : Claim7 := { stood := { row := rollPlaysRow, standIns := [], harness := (true, "f5187b60bf7aa77d74f832ae2f3ffa4a15267b81dcb7e25b2e232b348c6072a4"), looks := true }, kinds := [], alts := [], laidByText := true, laidKinds := [.data, .data, .data, .data, .data], laidTests := true, laidLooks := .later }
def RollPlaysCardSaid : Prop := Claim7.holds Tryz.pinned (.plain (OpenSpec.ofChange rollPlaysSpec)) rollPlaysCard

/-- THE TIED CARD OF 'hourbooklaw13.RollSafe'. -/
def rollSafeCard : Claim7 := { stood := { row := rollSafeRow, standIns := [], harness := (true, "f5187b60bf7aa77d74f832ae2f3ffa4a15267b81dcb7e25b2e232b348c6072a4"), looks := true }, kinds := [], alts := [], laidByText := true, laidKinds := [.data, .data, .data, .data, .data], laidTests := true, laidLooks := .later }
def RollSafeCardSaid : Prop := Claim7.holds Tryz.pinned (.plain (OpenSpec.ofChange rollSafeSpec)) rollSafeCard

/-- THE TIED CARD OF 'hourbooklaw13.RollBack'. -/
def rollBackCard : Claim7 := { stood := { row := rollBackRow, standIns := [], harness := (true, "f5187b60bf7aa77d74f832ae2f3ffa4a15267b81dcb7e25b2e232b348c6072a4"), looks := true }, kinds := [], alts := [], laidByText := true, laidKinds := [.data, .data, .data, .data, .data], laidTests := true, laidLooks := .later }
def RollBackCardSaid : Prop := Claim7.holds Tryz.pinned (.plain (OpenSpec.ofChange rollBackSpec)) rollBackCard

/-- THE TIED CARD OF 'hourbooklaw11.SegBack'. -/
def segBackCard : Claim7 := { stood := { row := segBackRow, standIns := [], harness := (true, "f5187b60bf7aa77d74f832ae2f3ffa4a15267b81dcb7e25b2e232b348c6072a4"), looks := true }, kinds := [], alts := [], laidByText := true, laidKinds := [.data, .data, .data, .data, .sentinel, .sentinel, .data], laidTests := true, laidLooks := .later }
def SegBackCardSaid : Prop := Claim7.holds Tryz.pinned (.plain (OpenSpec.ofChange segBackSpec)) segBackCard

/-- THE TIED CARD OF 'hourbooklaw11.SegFlip'. -/
def segFlipCard : Claim7 := { stood := { row := segFlipRow, standIns := [], harness := (true, "f5187b60bf7aa77d74f832ae2f3ffa4a15267b81dcb7e25b2e232b348c6072a4"), looks := true }, kinds := [], alts := [], laidByText := true, laidKinds := [.data, .data, .data, .data, .sentinel, .sentinel, .data], laidTests := true, laidLooks := .later }
def SegFlipCardSaid : Prop := Claim7.holds Tryz.pinned (.plain (OpenSpec.ofChange segFlipSpec)) segFlipCard

/-- THE TIED CARD OF 'hourbooklaw11.SegCrash'. -/
def segCrashCard : Claim7 := { stood := { row := segCrashRow, standIns := [], harness := (true, "f5187b60bf7aa77d74f832ae2f3ffa4a15267b81dcb7e25b2e232b348c6072a4"), looks := true }, kinds := [], alts := [], laidByText := true, laidKinds := [.data, .data, .data, .data, .sentinel, .sentinel, .data], laidTests := true, laidLooks := .later }
def SegCrashCardSaid : Prop := Claim7.holds Tryz.pinned (.plain (OpenSpec.ofChange segCrashSpec)) segCrashCard

/-- THE SECOND FORM's CARD OF 'hourbooklaw11.SegNames'. -/
def segNamesUptoCard : Claim7 := { stood := { row := segNamesUptoRow, standIns := [], harness := (true, "f5187b60bf7aa77d74f832ae2f3ffa4a15267b81dcb7e25b2e232b348c6072a4"), looks := true }, kinds := [], alts := [], laidByText := true, laidKinds := [.data, .data, .data, .data, .sentinel, .sentinel, .data], laidTests := true, laidLooks := .later }
def SegNamesUptoCardSaid : Prop := Claim7.holds Tryz.pinned (.plain (OpenSpec.upto segNamesSpec)) segNamesUptoCard

/-- THE SECOND FORM's CARD OF 'hourbooklaw13.RollRefused'. -/
def rollRefusedUptoCard : Claim7 := { stood := { row := rollRefusedUptoRow, standIns := [], harness := (true, "f5187b60bf7aa77d74f832ae2f3ffa4a15267b81dcb7e25b2e232b348c6072a4"), looks := true }, kinds := [], alts := [], laidByText := true, laidKinds := [.data, .data, .data, .data, .data], laidTests := true, laidLooks := .later }
def RollRefusedUptoCardSaid : Prop := Claim7.holds Tryz.pinned (.plain (OpenSpec.upto rollRefusedSpec)) rollRefusedUptoCard

/-- THE SECOND FORM's CARD OF 'hourbooklaw13.RollPlays'. -/
def rollPlaysUptoCard : Claim7 := { stood := { row := rollPlaysUptoRow, standIns := [], harness := (true, "f5187b60bf7aa77d74f832ae2f3ffa4a15267b81dcb7e25b2e232b348c6072a4"), looks := true }, kinds := [], alts := [], laidByText := true, laidKinds := [.data, .data, .data, .data, .data], laidTests := true, laidLooks := .later }
def RollPlaysUptoCardSaid : Prop := Claim7.holds Tryz.pinned (.plain (OpenSpec.upto rollPlaysSpec)) rollPlaysUptoCard

/-- THE SECOND FORM's CARD OF 'hourbooklaw13.RollSafe'. -/
def rollSafeUptoCard : Claim7 := { stood := { row := rollSafeUptoRow, standIns := [], harness := (true, "f5187b60bf7aa77d74f832ae2f3ffa4a15267b81dcb7e25b2e232b348c6072a4"), looks := true }, kinds := [], alts := [], laidByText := true, laidKinds := [.data, .data, .data, .data, .data], laidTests := true, laidLooks := .later }
def RollSafeUptoCardSaid : Prop := Claim7.holds Tryz.pinned (.plain (OpenSpec.upto rollSafeSpec)) rollSafeUptoCard

/-- THE SECOND FORM's CARD OF 'hourbooklaw13.RollBack'. -/
def rollBackUptoCard : Claim7 := { stood := { row := rollBackUptoRow, standIns := [], harness := (true, "f5187b60bf7aa77d74f832ae2f3ffa4a15267b81dcb7e25b2e232b348c6072a4"), looks := true }, kinds := [], alts := [], laidByText := true, laidKinds := [.data, .data, .data, .data, .data], laidTests := true, laidLooks := .later }
def RollBackUptoCardSaid : Prop := Claim7.holds Tryz.pinned (.plain (OpenSpec.upto rollBackSpec)) rollBackUptoCard

/-- THE SECOND FORM's CARD OF 'hourbooklaw11.SegBack'. -/
def segBackUptoCard : Claim7 := { stood := { row := segBackUptoRow, standIns := [], harness := (true, "f5187b60bf7aa77d74f832ae2f3ffa4a15267b81dcb7e25b2e232b348c6072a4"), looks := true }, kinds := [], alts := [], laidByText := true, laidKinds := [.data, .data, .data, .data, .sentinel, .sentinel, .data], laidTests := true, laidLooks := .later }
def SegBackUptoCardSaid : Prop := Claim7.holds Tryz.pinned (.plain (OpenSpec.upto segBackSpec)) segBackUptoCard

/-- THE SECOND FORM's CARD OF 'hourbooklaw11.SegFlip'. -/
def segFlipUptoCard : Claim7 := { stood := { row := segFlipUptoRow, standIns := [], harness := (true, "f5187b60bf7aa77d74f832ae2f3ffa4a15267b81dcb7e25b2e232b348c6072a4"), looks := true }, kinds := [], alts := [], laidByText := true, laidKinds := [.data, .data, .data, .data, .sentinel, .sentinel, .data], laidTests := true, laidLooks := .later }
def SegFlipUptoCardSaid : Prop := Claim7.holds Tryz.pinned (.plain (OpenSpec.upto segFlipSpec)) segFlipUptoCard

/-- THE SECOND FORM's CARD OF 'hourbooklaw11.SegCrash'. -/
def segCrashUptoCard : Claim7 := { stood := { row := segCrashUptoRow, standIns := [], harness := (true, "f5187b60bf7aa77d74f832ae2f3ffa4a15267b81dcb7e25b2e232b348c6072a4"), looks := true }, kinds := [], alts := [], laidByText := true, laidKinds := [.data, .data, .data, .data, .sentinel, .sentinel, .data], laidTests := true, laidLooks := .later }
def SegCrashUptoCardSaid : Prop := Claim7.holds Tryz.pinned (.plain (OpenSpec.upto segCrashSpec)) segCrashUptoCard
end Rows
end Go.Proofs.YtgfkepebfaiepaaGreatDoor
