/-
  DERIVED. GIVEN WITH THE SEED: THE CARDS: each row of YtnopfndpnlomjaaDoorRows.lean that lists a variable, with what it lists TIED to the program's text (the seventh form; the later family's looks); each row that meets fmt, with fmt's text TOLD by the authors' own Lean function (tested against real Go, not proved from fmt's source: count such statements apart). THE CARD IS WHAT COUNTS. Prove the row's statement (the work); the ties are given (YtnopfndpnlomjaaDoorTie.lean); close each card by the builder's one call (the guide's Derived/Test/ToyasCard.lean, 'card_holds'). Laid BY PROGRAM, IN A SANDBOX (cutbox-door.mjs). By AI agents, Wed Nov 11 2026. No macro, syntax, notation, axiom, sorry.
-/
import Derived.Test.YtnopfndpnlomjaaDoorRows
import GoSem.ClaimSeven
namespace Go.Proofs.YtnopfndpnlomjaaDoor
namespace Rows

/-- THE TIED CARD OF 'hourbooklaw06.FolderKnown'. -/
def folderKnownCard : Claim7 := { stood := { row := folderKnownRow, standIns := [], harness := (true, "19da8f088f633a0525ac41f6b283c3e8ab2cfcaefd9f7cd3f612b4ab490039f4"), looks := true }, kinds := [], alts := [], laidByText := true, laidKinds := [.data, .data, .data], laidTests := true, laidLooks := .later }
def FolderKnownCardSaid : Prop := Claim7.holds Tryd.pinned (.plain (OpenSpec.ofChange folderKnownSpec)) folderKnownCard

/-- THE SECOND FORM's CARD OF 'hourbooklaw06.FolderKnown'. -/
def folderKnownUptoCard : Claim7 := { stood := { row := folderKnownUptoRow, standIns := [], harness := (true, "19da8f088f633a0525ac41f6b283c3e8ab2cfcaefd9f7cd3f612b4ab490039f4"), looks := true }, kinds := [], alts := [], laidByText := true, laidKinds := [.data, .data, .data], laidTests := true, laidLooks := .later }
def FolderKnownUptoCardSaid : Prop := Claim7.holds Tryd.pinned (.plain (OpenSpec.upto folderKnownSpec)) folderKnownUptoCard
end Rows
end Go.Proofs.YtnopfndpnlomjaaDoor
