/-
  DERIVED. GIVEN WITH THE SEED: THE CARDS: each row of YtijdnecnjenleaaGreatDoorRows.lean that lists a variable, with what it lists TIED to the program's text (the seventh form; the later family's looks); each row that meets fmt, with fmt's text TOLD by the authors' own Lean function (tested against real Go, not proved from fmt's source: count such statements apart). THE CARD IS WHAT COUNTS. Prove the row's statement (the work); the ties are given (YtijdnecnjenleaaGreatDoorTie.lean); close each card by the builder's one call (the guide's Derived/Test/ToyasCard.lean, 'card_holds'). Laid BY PROGRAM, IN A SANDBOX (cutbox-door.mjs). By AI agents, Wed Nov 11 2026. No macro, syntax, notation, axiom, sorry.
-/
import Derived.Test.YtijdnecnjenleaaGreatDoorRows
import GoSem.ClaimSeven
namespace Go.Proofs.YtijdnecnjenleaaGreatDoor
namespace Rows

/-- THE TIED CARD OF 'posthousetop.TopLimitsPerDomain'. -/
def topLimitsPerDomainCard : Claim7 := { stood := { row := topLimitsPerDomainRow, standIns := [], harness := (true, "43343e81c6a8b9ac3870bdfbdf1fcd86bf29f8a577acdfc1c8bab7557a58af4d"), looks := true }, kinds := [], alts := [], laidByText := true, laidKinds := [.data, .data, .data, .data, .sentinel, .sentinel, .pinned], laidTests := true, laidLooks := .later }
def TopLimitsPerDomainCardSaid : Prop := Claim7.holds Tryz.pinned (.plain (OpenSpec.ofChange topLimitsPerDomainSpec)) topLimitsPerDomainCard

/-- THE TIED CARD OF 'posthousetop.TopEverybodyOnce'. -/
def topEverybodyOnceCard : Claim7 := { stood := { row := topEverybodyOnceRow, standIns := [], harness := (true, "43343e81c6a8b9ac3870bdfbdf1fcd86bf29f8a577acdfc1c8bab7557a58af4d"), looks := true }, kinds := [], alts := [], laidByText := true, laidKinds := [.data, .data, .data, .data, .sentinel, .sentinel, .pinned], laidTests := true, laidLooks := .later }
def TopEverybodyOnceCardSaid : Prop := Claim7.holds Tryz.pinned (.plain (OpenSpec.ofChange topEverybodyOnceSpec)) topEverybodyOnceCard

/-- THE SECOND FORM's CARD OF 'posthousetop.TopLimitsPerDomain'. -/
def topLimitsPerDomainUptoCard : Claim7 := { stood := { row := topLimitsPerDomainUptoRow, standIns := [], harness := (true, "43343e81c6a8b9ac3870bdfbdf1fcd86bf29f8a577acdfc1c8bab7557a58af4d"), looks := true }, kinds := [], alts := [], laidByText := true, laidKinds := [.data, .data, .data, .data, .sentinel, .sentinel, .pinned], laidTests := true, laidLooks := .later }
def TopLimitsPerDomainUptoCardSaid : Prop := Claim7.holds Tryz.pinned (.plain (OpenSpec.upto topLimitsPerDomainSpec)) topLimitsPerDomainUptoCard

/-- THE SECOND FORM's CARD OF 'posthousetop.TopEverybodyOnce'. -/
def topEverybodyOnceUptoCard : Claim7 := { stood := { row := topEverybodyOnceUptoRow, standIns := [], harness := (true, "43343e81c6a8b9ac3870bdfbdf1fcd86bf29f8a577acdfc1c8bab7557a58af4d"), looks := true }, kinds := [], alts := [], laidByText := true, laidKinds := [.data, .data, .data, .data, .sentinel, .sentinel, .pinned], laidTests := true, laidLooks := .later }
def TopEverybodyOnceUptoCardSaid : Prop := Claim7.holds Tryz.pinned (.plain (OpenSpec.upto topEverybodyOnceSpec)) topEverybodyOnceUptoCard
end Rows
end Go.Proofs.YtijdnecnjenleaaGreatDoor
