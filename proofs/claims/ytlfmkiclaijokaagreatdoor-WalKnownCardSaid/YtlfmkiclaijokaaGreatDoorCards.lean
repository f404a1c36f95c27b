/-
  DERIVED. GIVEN WITH THE SEED: THE CARDS: each row of YtlfmkiclaijokaaGreatDoorRows.lean that lists a variable, with what it lists TIED to the program's text (the seventh form; the later family's looks); each row that meets fmt, with fmt's text TOLD by the authors' own Lean function (tested against real Go, not proved from fmt's source: count such statements apart). THE CARD IS WHAT COUNTS. Prove the row's statement (the work); the ties are given (YtlfmkiclaijokaaGreatDoorTie.lean); close each card by the builder's one call (the guide's Derived/Test/ToyasCard.lean, 'card_holds'). Laid BY PROGRAM, IN A SANDBOX (cutbox-door.mjs). By AI agents, Wed Nov 11 2026. No macro, syntax, notation, axiom, sorry.
-/
import Derived.Test.YtlfmkiclaijokaaGreatDoorRows
import GoSem.ClaimSeven
namespace Go.Proofs.YtlfmkiclaijokaaGreatDoor
namespace Rows

/-- THE TIED CARD OF 'tithebarnlaw05.WalKeeps'. -/
def walKeepsCard : Claim7 := { stood := { row := walKeepsRow, standIns := [], harness := (true, "9bcc9aaed2dcf5057925a4167765dc1503586c3f9cfdbb1e3f417571a3f5e653"), looks := true }, kinds := [], alts := [], laidByText := true, laidKinds := [.data, .data, .data], laidTests := true, laidLooks := .later }
def WalKeepsCardSaid : Prop := Claim7.holds Tryz.pinned (.plain (OpenSpec.ofChange walKeepsSpec)) walKeepsCard

/-- THE TIED CARD OF 'tithebarnlaw05.WalKnown'. -/
def walKnownCard : Claim7 := { stood := { row := walKnownRow, standIns := [], harness := (true, "9bcc9aaed2dcf5057925a4167765dc1503586c3f9cfdbb1e3f417571a3f5e653"), looks := true }, kinds := [], alts := [], laidByText := true, laidKinds := [.data, .data, .data], laidTests := true, laidLooks := .later }
def WalKnownCardSaid : Prop := Claim7.holds Tryz.pinned (.plain (OpenSpec.ofChange walKnownSpec)) walKnownCard

/-- THE SECOND FORM's CARD OF 'tithebarnlaw05.WalKeeps'. -/
def walKeepsUptoCard : Claim7 := { stood := { row := walKeepsUptoRow, standIns := [], harness := (true, "9bcc9aaed2dcf5057925a4167765dc1503586c3f9cfdbb1e3f417571a3f5e653"), looks := true }, kinds := [], alts := [], laidByText := true, laidKinds := [.data, .data, .data], laidTests := true, laidLooks := .later }
def WalKeepsUptoCardSaid : Prop := Claim7.holds Tryz.pinned (.plain (OpenSpec.upto walKeepsSpec)) walKeepsUptoCard

/-- THE SECOND FORM's CARD OF 'tithebarnlaw05.WalKnown'. -/
def walKnownUptoCard : Claim7 := { stood := { row := walKnownUptoRow, standIns := [], harness := (true, "9bcc9aaed2dcf5057925a4167765dc1503586c3f9cfdbb1e3f417571a3f5e653"), looks := true }, kinds := [], alts := [], laidByText := true, laidKinds := [.data, .data, .data], laidTests := true, laidLooks := .later }
def WalKnownUptoCardSaid : Prop := Claim7.holds Tryz.pinned (.plain (OpenSpec.upto walKnownSpec)) walKnownUptoCard
end Rows
end Go.Proofs.YtlfmkiclaijokaaGreatDoor
