/-
  DERIVED. GIVEN WITH THE SEED: THE CARDS: each row of YtpmlhkoianekfaaGreatDoorRows.lean that lists a variable, with what it lists TIED to the program's text (the seventh form; the later family's looks); each row that meets fmt, with fmt's text TOLD by the authors' own Lean function (tested against real Go, not proved from fmt's source: count such statements apart). THE CARD IS WHAT COUNTS. Prove the row's statement (the work); the ties are given (YtpmlhkoianekfaaGreatDoorTie.lean); close each card by the builder's one call (the guide's Derived/Test/ToyasCard.lean, 'card_holds'). Laid BY PROGRAM, IN A SANDBOX (cutbox-door.mjs). By AI agents, Wed Nov 11 2026. No macro, syntax, notation, axiom, sorry.
-/
import Derived.Test.YtpmlhkoianekfaaGreatDoorRows
import GoSem.ClaimSeven
namespace Go.Proofs.YtpmlhkoianekfaaGreatDoor
namespace Rows

/-- THE TIED CARD OF 'posthousetop.TopEncodedSame'. -/
def topEncodedSameCard : Claim7 := { stood := { row := topEncodedSameRow, standIns := [], harness := (true, "25143d2385cc408491c76866105f1c5e4f7c597223bf5baec59eab76e63a8908"), looks := true }, kinds := [], alts := [], laidByText := true, laidKinds := [.data, .data, .data, .data, .sentinel, .sentinel, .pinned], laidTests := true, laidLooks := .later }
def TopEncodedSameCardSaid : Prop := Claim7.holds Tryz.pinned (.plain (OpenSpec.ofChange topEncodedSameSpec)) topEncodedSameCard

/-- THE SECOND FORM's CARD OF 'posthousetop.TopEncodedSame'. -/
def topEncodedSameUptoCard : Claim7 := { stood := { row := topEncodedSameUptoRow, standIns := [], harness := (true, "25143d2385cc408491c76866105f1c5e4f7c597223bf5baec59eab76e63a8908"), looks := true }, kinds := [], alts := [], laidByText := true, laidKinds := [.data, .data, .data, .data, .sentinel, .sentinel, .pinned], laidTests := true, laidLooks := .later }
def TopEncodedSameUptoCardSaid : Prop := Claim7.holds Tryz.pinned (.plain (OpenSpec.upto topEncodedSameSpec)) topEncodedSameUptoCard
end Rows
end Go.Proofs.YtpmlhkoianekfaaGreatDoor
