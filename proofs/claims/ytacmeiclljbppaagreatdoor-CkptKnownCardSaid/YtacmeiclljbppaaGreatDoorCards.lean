/-
  DERIVED. GIVEN WITH THE SEED: THE CARDS: each row of YtacmeiclljbppaaGreatDoorRows.lean that lists a variable, with what it lists TIED to the program's text (the seventh form; the later family's looks); each row that meets fmt, with fmt's text TOLD by the authors' own Lean function (tested against real Go, not proved from fmt's source: count such statements apart). THE CARD IS WHAT COUNTS. Prove the row's statement (the work); the ties are given (YtacmeiclljbppaaGreatDoorTie.lean); close each card by the builder's one call (the guide's Derived/Test/ToyasCard.lean, 'card_holds'). Laid BY PROGRAM, IN A SANDBOX (cutbox-door.mjs). By AI agents, Wed Nov 11 2026. No macro, syntax, notation, axiom, sorry.
-/
import Derived.Test.YtacmeiclljbppaaGreatDoorRows
import GoSem.ClaimSeven
namespace Go.Proofs.YtacmeiclljbppaaGreatDoor
namespace Rows

/-- THE TIED CARD OF 'hourbooklaw13.RollKnown'. -/
def rollKnownCard : Claim7 := { stood := { row := rollKnownRow, standIns := [], harness := (true, "25595e0f9c7c995e827fa6c4ea2756ee3dad82292d8669f6233202b441fddeb1"), looks := true }, kinds := [], alts := [], laidByText := true, laidKinds := [.data, .data, .data, .data, .data], laidTests := true, laidLooks := .later }
def RollKnownCardSaid : Prop := Claim7.holds Tryz.pinned (.plain (OpenSpec.ofChange rollKnownSpec)) rollKnownCard

/-- THE TIED CARD OF 'hourbooklaw24.CkptKnown'. -/
def ckptKnownCard : Claim7 := { stood := { row := ckptKnownRow, standIns := [], harness := (true, "25595e0f9c7c995e827fa6c4ea2756ee3dad82292d8669f6233202b441fddeb1"), looks := true }, kinds := [], alts := [], laidByText := true, laidKinds := [.data, .funcs], laidTests := true, laidLooks := .later }
def CkptKnownCardSaid : Prop := Claim7.holds Tryz.pinned (.plain (OpenSpec.ofChange ckptKnownSpec)) ckptKnownCard

/-- THE SECOND FORM's CARD OF 'hourbooklaw13.RollKnown'. -/
def rollKnownUptoCard : Claim7 := { stood := { row := rollKnownUptoRow, standIns := [], harness := (true, "25595e0f9c7c995e827fa6c4ea2756ee3dad82292d8669f6233202b441fddeb1"), looks := true }, kinds := [], alts := [], laidByText := true, laidKinds := [.data, .data, .data, .data, .data], laidTests := true, laidLooks := .later }
def RollKnownUptoCardSaid : Prop := Claim7.holds Tryz.pinned (.plain (OpenSpec.upto rollKnownSpec)) rollKnownUptoCard

/-- THE SECOND FORM's CARD OF 'hourbooklaw24.CkptKnown'. -/
def ckptKnownUptoCard : Claim7 := { stood := { row := ckptKnownUptoRow, standIns := [], harness := (true, "25595e0f9c7c995e827fa6c4ea2756ee3dad82292d8669f6233202b441fddeb1"), looks := true }, kinds := [], alts := [], laidByText := true, laidKinds := [.data, .funcs], laidTests := true, laidLooks := .later }
def CkptKnownUptoCardSaid : Prop := Claim7.holds Tryz.pinned (.plain (OpenSpec.upto ckptKnownSpec)) ckptKnownUptoCard
end Rows
end Go.Proofs.YtacmeiclljbppaaGreatDoor
