/-
  DERIVED. GIVEN WITH THE SEED: THE CARDS: each row of YthdmapjdfghgfaaDoorRows.lean that lists a variable, with what it lists TIED to the program's text (the seventh form; the later family's looks); each row that meets fmt, with fmt's text TOLD by the authors' own Lean function (tested against real Go, not proved from fmt's source: count such statements apart). THE CARD IS WHAT COUNTS. Prove the row's statement (the work); the ties are given (YthdmapjdfghgfaaDoorTie.lean); close each card by the builder's one call (the guide's Derived/Test/ToyasCard.lean, 'card_holds'). Laid BY PROGRAM, IN A SANDBOX (cutbox-door.mjs). By AI agents, Wed Nov 11 2026. No macro, syntax, notation, axiom, sorry.
-/
import Derived.Test.YthdmapjdfghgfaaDoorRows
import GoSem.ClaimSeven
namespace Go.Proofs.YthdmapjdfghgfaaDoor
namespace Rows

/-- THE TIED CARD OF 'hourbooklaw02.CrcXors'. -/
def crcXorsCard : Claim7 := { stood := { row := crcXorsRow, standIns := [], harness := (true, "4b0e757c63a177aea4f19f3f51740f0f852c5ef1ccb9b214899450cd2ac78ac1"), looks := false }, kinds := [], alts := [], laidByText := true, laidKinds := [.data], laidTests := true, laidLooks := .later }
def CrcXorsCardSaid : Prop := Claim7.holds Tryd.pinned (.plain (OpenSpec.ofChange crcXorsSpec)) crcXorsCard

/-- THE TIED CARD OF 'hourbooklaw02.CrcField'. -/
def crcFieldCard : Claim7 := { stood := { row := crcFieldRow, standIns := [], harness := (true, "4b0e757c63a177aea4f19f3f51740f0f852c5ef1ccb9b214899450cd2ac78ac1"), looks := false }, kinds := [], alts := [], laidByText := true, laidKinds := [.data], laidTests := true, laidLooks := .later }
def CrcFieldCardSaid : Prop := Claim7.holds Tryd.pinned (.plain (OpenSpec.ofChange crcFieldSpec)) crcFieldCard

/-- THE TIED CARD OF 'hourbooklaw02.CrcProducts'. -/
def crcProductsCard : Claim7 := { stood := { row := crcProductsRow, standIns := [], harness := (true, "4b0e757c63a177aea4f19f3f51740f0f852c5ef1ccb9b214899450cd2ac78ac1"), looks := false }, kinds := [], alts := [], laidByText := true, laidKinds := [.data], laidTests := true, laidLooks := .later }
def CrcProductsCardSaid : Prop := Claim7.holds Tryd.pinned (.plain (OpenSpec.ofChange crcProductsSpec)) crcProductsCard

/-- THE TIED CARD OF 'hourbooklaw02.CrcParts'. -/
def crcPartsCard : Claim7 := { stood := { row := crcPartsRow, standIns := [], harness := (true, "4b0e757c63a177aea4f19f3f51740f0f852c5ef1ccb9b214899450cd2ac78ac1"), looks := false }, kinds := [], alts := [], laidByText := true, laidKinds := [.data], laidTests := true, laidLooks := .later }
def CrcPartsCardSaid : Prop := Claim7.holds Tryd.pinned (.plain (OpenSpec.ofChange crcPartsSpec)) crcPartsCard

/-- THE TIED CARD OF 'hourbooklaw02.CrcSums'. -/
def crcSumsCard : Claim7 := { stood := { row := crcSumsRow, standIns := [], harness := (true, "4b0e757c63a177aea4f19f3f51740f0f852c5ef1ccb9b214899450cd2ac78ac1"), looks := false }, kinds := [], alts := [], laidByText := true, laidKinds := [.data], laidTests := true, laidLooks := .later }
def CrcSumsCardSaid : Prop := Claim7.holds Tryd.pinned (.plain (OpenSpec.ofChange crcSumsSpec)) crcSumsCard

/-- THE TIED CARD OF 'hourbooklaw02.CrcTurned'. -/
def crcTurnedCard : Claim7 := { stood := { row := crcTurnedRow, standIns := [], harness := (true, "4b0e757c63a177aea4f19f3f51740f0f852c5ef1ccb9b214899450cd2ac78ac1"), looks := false }, kinds := [], alts := [], laidByText := true, laidKinds := [.data], laidTests := true, laidLooks := .later }
def CrcTurnedCardSaid : Prop := Claim7.holds Tryd.pinned (.plain (OpenSpec.ofChange crcTurnedSpec)) crcTurnedCard

/-- THE TIED CARD OF 'hourbooklaw02.CrcKnown'. -/
def crcKnownCard : Claim7 := { stood := { row := crcKnownRow, standIns := [], harness := (true, "4b0e757c63a177aea4f19f3f51740f0f852c5ef1ccb9b214899450cd2ac78ac1"), looks := false }, kinds := [], alts := [], laidByText := true, laidKinds := [.data], laidTests := true, laidLooks := .later }
def CrcKnownCardSaid : Prop := Claim7.holds Tryd.pinned (.plain (OpenSpec.ofChange crcKnownSpec)) crcKnownCard

/-- THE SECOND FORM's CARD OF 'hourbooklaw02.CrcXors'. -/
def crcXorsUptoCard : Claim7 := { stood := { row := crcXorsUptoRow, standIns := [], harness := (true, "4b0e757c63a177aea4f19f3f51740f0f852c5ef1ccb9b214899450cd2ac78ac1"), looks := false }, kinds := [], alts := [], laidByText := true, laidKinds := [.data], laidTests := true, laidLooks := .later }
def CrcXorsUptoCardSaid : Prop := Claim7.holds Tryd.pinned (.plain (OpenSpec.upto crcXorsSpec)) crcXorsUptoCard

/-- THE SECOND FORM's CARD OF 'hourbooklaw02.CrcField'. -/
def crcFieldUptoCard : Claim7 := { stood := { row := crcFieldUptoRow, standIns := [], harness := (true, "4b0e757c63a177aea4f19f3f51740f0f852c5ef1ccb9b214899450cd2ac78ac1"), looks := false }, kinds := [], alts := [], laidByText := true, laidKinds := [.data], laidTests := true, laidLooks := .later }
def CrcFieldUptoCardSaid : Prop := Claim7.holds Tryd.pinned (.plain (OpenSpec.upto crcFieldSpec)) crcFieldUptoCard

/-- THE SECOND FORM's CARD OF 'hourbooklaw02.CrcProducts'. -/
def crcProductsUptoCard : Claim7 := { stood := { row := crcProductsUptoRow, standIns := [], harness := (true, "4b0e757c63a177aea4f19f3f51740f0f852c5ef1ccb9b214899450cd2ac78ac1"), looks := false }, kinds := [], alts := [], laidByText := true, laidKinds := [.data], laidTests := true, laidLooks := .later }
def CrcProductsUptoCardSaid : Prop := Claim7.holds Tryd.pinned (.plain (OpenSpec.upto crcProductsSpec)) crcProductsUptoCard

/-- THE SECOND FORM's CARD OF 'hourbooklaw02.CrcParts'. -/
def crcPartsUptoCard : Claim7 := { stood := { row := crcPartsUptoRow, standIns := [], harness := (true, "4b0e757c63a177aea4f19f3f51740f0f852c5ef1ccb9b214899450cd2ac78ac1"), looks := false }, kinds := [], alts := [], laidByText := true, laidKinds := [.data], laidTests := true, laidLooks := .later }
def CrcPartsUptoCardSaid : Prop := Claim7.holds Tryd.pinned (.plain (OpenSpec.upto crcPartsSpec)) crcPartsUptoCard

/-- THE SECOND FORM's CARD OF 'hourbooklaw02.CrcSums'. -/
def crcSumsUptoCard : Claim7 := { stood := { row := crcSumsUptoRow, standIns := [], harness := (true, "4b0e757c63a177aea4f19f3f51740f0f852c5ef1ccb9b214899450cd2ac78ac1"), looks := false }, kinds := [], alts := [], laidByText := true, laidKinds := [.data], laidTests := true, laidLooks := .later }
def CrcSumsUptoCardSaid : Prop := Claim7.holds Tryd.pinned (.plain (OpenSpec.upto crcSumsSpec)) crcSumsUptoCard

/-- THE SECOND FORM's CARD OF 'hourbooklaw02.CrcTurned'. -/
def crcTurnedUptoCard : Claim7 := { stood := { row := crcTurnedUptoRow, standIns := [], harness := (true, "4b0e757c63a177aea4f19f3f51740f0f852c5ef1ccb9b214899450cd2ac78ac1"), looks := false }, kinds := [], alts := [], laidByText := true, laidKinds := [.data], laidTests := true, laidLooks := .later }
def CrcTurnedUptoCardSaid : Prop := Claim7.holds Tryd.pinned (.plain (OpenSpec.upto crcTurnedSpec)) crcTurnedUptoCard

/-- THE SECOND FORM's CARD OF 'hourbooklaw02.CrcKnown'. -/
def crcKnownUptoCard : Claim7 := { stood := { row := crcKnownUptoRow, standIns := [], harness := (true, "4b0e757c63a177aea4f19f3f51740f0f852c5ef1ccb9b214899450cd2ac78ac1"), looks := false }, kinds := [], alts := [], laidByText := true, laidKinds := [.data], laidTests := true, laidLooks := .later }
def CrcKnownUptoCardSaid : Prop := Claim7.holds Tryd.pinned (.plain (OpenSpec.upto crcKnownSpec)) crcKnownUptoCard
end Rows
end Go.Proofs.YthdmapjdfghgfaaDoor
