/-
  DERIVED. GIVEN WITH THE SEED: THE CARDS: each row of YtmlhaellfpbcgaaDoorRows.lean that lists a variable, with what it lists TIED to the program's text (the seventh form; the later family's looks); each row that meets fmt, with fmt's text TOLD by the authors' own Lean function (tested against real Go, not proved from fmt's source: count such statements apart). THE CARD IS WHAT COUNTS. Prove the row's statement (the work); the ties are given (YtmlhaellfpbcgaaDoorTie.lean); close each card by the builder's one call (the guide's Derived/Test/ToyasCard.lean, 'card_holds'). Laid BY PROGRAM, IN A SANDBOX (cutbox-door.mjs). By AI agents, Wed Nov 11 2026. No macro, syntax, notation, axiom, sorry.
-/
import Derived.Test.YtmlhaellfpbcgaaDoorRows
import GoSem.ClaimSeven
namespace Go.Proofs.YtmlhaellfpbcgaaDoor
namespace Rows

/-- THE TIED CARD OF 'hourbooklaw23.MstateBack'. -/
def mstateBackCard : Claim7 := { stood := { row := mstateBackRow, standIns := [], harness := (true, "33dac486b193af04391d777fc261705cade56550c9f6a98c56dfe38afbc9e8e5"), looks := true }, kinds := [], alts := [], laidByText := true, laidKinds := [.funcs], laidTests := true, laidLooks := .later }
def MstateBackCardSaid : Prop := Claim7.holds Tryd.pinned (.plain (OpenSpec.ofChange mstateBackSpec)) mstateBackCard

/-- THE TIED CARD OF 'hourbooklaw23.MstatePlays'. -/
def mstatePlaysCard : Claim7 := { stood := { row := mstatePlaysRow, standIns := [], harness := (true, "33dac486b193af04391d777fc261705cade56550c9f6a98c56dfe38afbc9e8e5"), looks := true }, kinds := [], alts := [], laidByText := true, laidKinds := [.funcs], laidTests := true, laidLooks := .later }
def MstatePlaysCardSaid : Prop := Claim7.holds Tryd.pinned (.plain (OpenSpec.ofChange mstatePlaysSpec)) mstatePlaysCard

/-- THE TIED CARD OF 'hourbooklaw23.MstateHolds'. -/
def mstateHoldsCard : Claim7 := { stood := { row := mstateHoldsRow, standIns := [], harness := (true, "33dac486b193af04391d777fc261705cade56550c9f6a98c56dfe38afbc9e8e5"), looks := true }, kinds := [], alts := [], laidByText := true, laidKinds := [.funcs], laidTests := true, laidLooks := .later }
def MstateHoldsCardSaid : Prop := Claim7.holds Tryd.pinned (.plain (OpenSpec.ofChange mstateHoldsSpec)) mstateHoldsCard

/-- THE TIED CARD OF 'hourbooklaw23.MstateSnaps'. -/
def mstateSnapsCard : Claim7 := { stood := { row := mstateSnapsRow, standIns := [], harness := (true, "33dac486b193af04391d777fc261705cade56550c9f6a98c56dfe38afbc9e8e5"), looks := true }, kinds := [], alts := [], laidByText := true, laidKinds := [.funcs], laidTests := true, laidLooks := .later }
def MstateSnapsCardSaid : Prop := Claim7.holds Tryd.pinned (.plain (OpenSpec.ofChange mstateSnapsSpec)) mstateSnapsCard

/-- THE SECOND FORM's CARD OF 'hourbooklaw23.MstateBack'. -/
def mstateBackUptoCard : Claim7 := { stood := { row := mstateBackUptoRow, standIns := [], harness := (true, "33dac486b193af04391d777fc261705cade56550c9f6a98c56dfe38afbc9e8e5"), looks := true }, kinds := [], alts := [], laidByText := true, laidKinds := [.funcs], laidTests := true, laidLooks := .later }
def MstateBackUptoCardSaid : Prop := Claim7.holds Tryd.pinned (.plain (OpenSpec.upto mstateBackSpec)) mstateBackUptoCard

/-- THE SECOND FORM's CARD OF 'hourbooklaw23.MstatePlays'. -/
def mstatePlaysUptoCard : Claim7 := { stood := { row := mstatePlaysUptoRow, standIns := [], harness := (true, "33dac486b193af04391d777fc261705cade56550c9f6a98c56dfe38afbc9e8e5"), looks := true }, kinds := [], alts := [], laidByText := true, laidKinds := [.funcs], laidTests := true, laidLooks := .later }
def MstatePlaysUptoCardSaid : Prop := Claim7.holds Tryd.pinned (.plain (OpenSpec.upto mstatePlaysSpec)) mstatePlaysUptoCard

/-- THE SECOND FORM's CARD OF 'hourbooklaw23.MstateHolds'. -/
def mstateHoldsUptoCard : Claim7 := { stood := { row := mstateHoldsUptoRow, standIns := [], harness := (true, "33dac486b193af04391d777fc261705cade56550c9f6a98c56dfe38afbc9e8e5"), looks := true }, kinds := [], alts := [], laidByText := true, laidKinds := [.funcs], laidTests := true, laidLooks := .later }
def MstateHoldsUptoCardSaid : Prop := Claim7.holds Tryd.pinned (.plain (OpenSpec.upto mstateHoldsSpec)) mstateHoldsUptoCard

/-- THE SECOND FORM's CARD OF 'hourbooklaw23.MstateSnaps'. -/
def mstateSnapsUptoCard : Claim7 := { stood := { row := mstateSnapsUptoRow, standIns := [], harness := (true, "33dac486b193af04391d777fc261705cade56550c9f6a98c56dfe38afbc9e8e5"), looks := true }, kinds := [], alts := [], laidByText := true, laidKinds := [.funcs], laidTests := true, laidLooks := .later }
def MstateSnapsUptoCardSaid : Prop := Claim7.holds Tryd.pinned (.plain (OpenSpec.upto mstateSnapsSpec)) mstateSnapsUptoCard
end Rows
end Go.Proofs.YtmlhaellfpbcgaaDoor
