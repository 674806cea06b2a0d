/-
  DERIVED. GIVEN WITH THE SEED: THE CARDS: each row of YtghinideddfcpaaDoorRows.lean that lists a variable, with what it lists TIED to the program's text (the seventh form; the later family's looks); each row that meets fmt, with fmt's text TOLD by the authors' own Lean function (tested against real Go, not proved from fmt's source: count such statements apart). THE CARD IS WHAT COUNTS. Prove the row's statement (the work); the ties are given (YtghinideddfcpaaDoorTie.lean); close each card by the builder's one call (the guide's Derived/Test/ToyasCard.lean, 'card_holds'). Laid BY PROGRAM, IN A SANDBOX (cutbox-door.mjs). By AI agents, Wed Nov 11 2026. No macro, syntax, notation, axiom, sorry.
-/
import Derived.Test.YtghinideddfcpaaDoorRows
import GoSem.ClaimSeven
namespace Go.Proofs.YtghinideddfcpaaDoor
namespace Rows

/-- THE TIED CARD OF 'posthouselaw5.TokensMatchesSpec'. -/
def tokensMatchesSpecCard : Claim7 := { stood := { row := tokensMatchesSpecRow, standIns := [], harness := (true, "472318986fd433a8a1398d46bb6cd759247b45fa375fd29bcc0512f3d0138014"), looks := false }, kinds := [], alts := [], laidByText := true, laidKinds := [.data, .data, .pinned, .pinned, .pinned, .pinned], laidTests := true, laidLooks := .later }
def TokensMatchesSpecCardSaid : Prop := Claim7.holds Tryd.pinned (.plain (OpenSpec.ofChange tokensMatchesSpecSpec)) tokensMatchesSpecCard

/-- THE TIED CARD OF 'posthouselaw5.TokensOfTokens'. -/
def tokensOfTokensCard : Claim7 := { stood := { row := tokensOfTokensRow, standIns := [], harness := (true, "472318986fd433a8a1398d46bb6cd759247b45fa375fd29bcc0512f3d0138014"), looks := false }, kinds := [], alts := [], laidByText := true, laidKinds := [.data, .data, .pinned, .pinned, .pinned, .pinned], laidTests := true, laidLooks := .later }
def TokensOfTokensCardSaid : Prop := Claim7.holds Tryd.pinned (.plain (OpenSpec.ofChange tokensOfTokensSpec)) tokensOfTokensCard

/-- THE TIED CARD OF 'posthouselaw5.TokensOfBoth'. -/
def tokensOfBothCard : Claim7 := { stood := { row := tokensOfBothRow, standIns := [], harness := (true, "472318986fd433a8a1398d46bb6cd759247b45fa375fd29bcc0512f3d0138014"), looks := false }, kinds := [], alts := [], laidByText := true, laidKinds := [.data, .data, .pinned, .pinned, .pinned, .pinned], laidTests := true, laidLooks := .later }
def TokensOfBothCardSaid : Prop := Claim7.holds Tryd.pinned (.plain (OpenSpec.ofChange tokensOfBothSpec)) tokensOfBothCard

/-- THE SECOND FORM's CARD OF 'posthouselaw5.TokensMatchesSpec'. -/
def tokensMatchesSpecUptoCard : Claim7 := { stood := { row := tokensMatchesSpecUptoRow, standIns := [], harness := (true, "472318986fd433a8a1398d46bb6cd759247b45fa375fd29bcc0512f3d0138014"), looks := false }, kinds := [], alts := [], laidByText := true, laidKinds := [.data, .data, .pinned, .pinned, .pinned, .pinned], laidTests := true, laidLooks := .later }
def TokensMatchesSpecUptoCardSaid : Prop := Claim7.holds Tryd.pinned (.plain (OpenSpec.upto tokensMatchesSpecSpec)) tokensMatchesSpecUptoCard

/-- THE SECOND FORM's CARD OF 'posthouselaw5.TokensOfTokens'. -/
def tokensOfTokensUptoCard : Claim7 := { stood := { row := tokensOfTokensUptoRow, standIns := [], harness := (true, "472318986fd433a8a1398d46bb6cd759247b45fa375fd29bcc0512f3d0138014"), looks := false }, kinds := [], alts := [], laidByText := true, laidKinds := [.data, .data, .pinned, .pinned, .pinned, .pinned], laidTests := true, laidLooks := .later }
def TokensOfTokensUptoCardSaid : Prop := Claim7.holds Tryd.pinned (.plain (OpenSpec.upto tokensOfTokensSpec)) tokensOfTokensUptoCard

/-- THE SECOND FORM's CARD OF 'posthouselaw5.TokensOfBoth'. -/
def tokensOfBothUptoCard : Claim7 := { stood := { row := tokensOfBothUptoRow, standIns := [], harness := (true, "472318986fd433a8a1398d46bb6cd759247b45fa375fd29bcc0512f3d0138014"), looks := false }, kinds := [], alts := [], laidByText := true, laidKinds := [.data, .data, .pinned, .pinned, .pinned, .pinned], laidTests := true, laidLooks := .later }
def TokensOfBothUptoCardSaid : Prop := Claim7.holds Tryd.pinned (.plain (OpenSpec.upto tokensOfBothSpec)) tokensOfBothUptoCard
end Rows
end Go.Proofs.YtghinideddfcpaaDoor
