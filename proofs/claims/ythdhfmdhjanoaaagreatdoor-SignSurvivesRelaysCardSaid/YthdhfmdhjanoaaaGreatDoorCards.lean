/-
  DERIVED. GIVEN WITH THE SEED: THE CARDS: each row of YthdhfmdhjanoaaaGreatDoorRows.lean that lists a variable, with what it lists TIED to the program's text (the seventh form; the later family's looks); each row that meets fmt, with fmt's text TOLD by the authors' own Lean function (tested against real Go, not proved from fmt's source: count such statements apart). THE CARD IS WHAT COUNTS. Prove the row's statement (the work); the ties are given (YthdhfmdhjanoaaaGreatDoorTie.lean); close each card by the builder's one call (the guide's Derived/Test/ToyasCard.lean, 'card_holds'). Laid BY PROGRAM, IN A SANDBOX (cutbox-door.mjs). By AI agents, Wed Nov 11 2026. No macro, syntax, notation, axiom, sorry.
-/
import Derived.Test.YthdhfmdhjanoaaaGreatDoorRows
import GoSem.ClaimSeven
namespace Go.Proofs.YthdhfmdhjanoaaaGreatDoor
namespace Rows

/-- THE TIED CARD OF 'posthouselaw5.SignSumMatchesSpec'. -/
def signSumMatchesSpecCard : Claim7 := { stood := { row := signSumMatchesSpecRow, standIns := [], harness := (true, "c42626e2726d00c1893b9eec8006167c47ada7340b544c8011cb9df5be4c1095"), looks := false }, kinds := [], alts := [], laidByText := true, laidKinds := [.data, .pinned], laidTests := true, laidLooks := .later }
def SignSumMatchesSpecCardSaid : Prop := Claim7.holds Tryz.pinned (.plain (OpenSpec.ofChange signSumMatchesSpecSpec)) signSumMatchesSpecCard

/-- THE TIED CARD OF 'posthouselaw5.SignMatchesSpec'. -/
def signMatchesSpecCard : Claim7 := { stood := { row := signMatchesSpecRow, standIns := [], harness := (true, "c42626e2726d00c1893b9eec8006167c47ada7340b544c8011cb9df5be4c1095"), looks := false }, kinds := [], alts := [], laidByText := true, laidKinds := [.data, .pinned], laidTests := true, laidLooks := .later }
def SignMatchesSpecCardSaid : Prop := Claim7.holds Tryz.pinned (.plain (OpenSpec.ofChange signMatchesSpecSpec)) signMatchesSpecCard

/-- THE TIED CARD OF 'posthouselaw5.SignVerifyMatchesSpec'. -/
def signVerifyMatchesSpecCard : Claim7 := { stood := { row := signVerifyMatchesSpecRow, standIns := [], harness := (true, "c42626e2726d00c1893b9eec8006167c47ada7340b544c8011cb9df5be4c1095"), looks := false }, kinds := [], alts := [], laidByText := true, laidKinds := [.data, .pinned], laidTests := true, laidLooks := .later }
def SignVerifyMatchesSpecCardSaid : Prop := Claim7.holds Tryz.pinned (.plain (OpenSpec.ofChange signVerifyMatchesSpecSpec)) signVerifyMatchesSpecCard

/-- THE TIED CARD OF 'posthouselaw5.SignIsVerified'. -/
def signIsVerifiedCard : Claim7 := { stood := { row := signIsVerifiedRow, standIns := [], harness := (true, "c42626e2726d00c1893b9eec8006167c47ada7340b544c8011cb9df5be4c1095"), looks := false }, kinds := [], alts := [], laidByText := true, laidKinds := [.data, .pinned], laidTests := true, laidLooks := .later }
def SignIsVerifiedCardSaid : Prop := Claim7.holds Tryz.pinned (.plain (OpenSpec.ofChange signIsVerifiedSpec)) signIsVerifiedCard

/-- THE TIED CARD OF 'posthouselaw5.SignSurvivesRelays'. -/
def signSurvivesRelaysCard : Claim7 := { stood := { row := signSurvivesRelaysRow, standIns := [], harness := (true, "c42626e2726d00c1893b9eec8006167c47ada7340b544c8011cb9df5be4c1095"), looks := false }, kinds := [], alts := [], laidByText := true, laidKinds := [.data, .pinned], laidTests := true, laidLooks := .later }
def SignSurvivesRelaysCardSaid : Prop := Claim7.holds Tryz.pinned (.plain (OpenSpec.ofChange signSurvivesRelaysSpec)) signSurvivesRelaysCard

/-- THE TIED CARD OF 'posthouselaw5.SignFindsChanges'. -/
def signFindsChangesCard : Claim7 := { stood := { row := signFindsChangesRow, standIns := [], harness := (true, "c42626e2726d00c1893b9eec8006167c47ada7340b544c8011cb9df5be4c1095"), looks := false }, kinds := [], alts := [], laidByText := true, laidKinds := [.data, .pinned], laidTests := true, laidLooks := .later }
def SignFindsChangesCardSaid : Prop := Claim7.holds Tryz.pinned (.plain (OpenSpec.ofChange signFindsChangesSpec)) signFindsChangesCard

/-- THE TIED CARD OF 'posthouselaw5.CustodySealMatchesSpec'. -/
def custodySealMatchesSpecCard : Claim7 := { stood := { row := custodySealMatchesSpecRow, standIns := [], harness := (true, "c42626e2726d00c1893b9eec8006167c47ada7340b544c8011cb9df5be4c1095"), looks := false }, kinds := [], alts := [], laidByText := true, laidKinds := [.data, .data, .data, .data, .pinned], laidTests := true, laidLooks := .later }
def CustodySealMatchesSpecCardSaid : Prop := Claim7.holds Tryz.pinned (.plain (OpenSpec.ofChange custodySealMatchesSpecSpec)) custodySealMatchesSpecCard

/-- THE TIED CARD OF 'posthouselaw5.CustodyCheckMatchesSpec'. -/
def custodyCheckMatchesSpecCard : Claim7 := { stood := { row := custodyCheckMatchesSpecRow, standIns := [], harness := (true, "c42626e2726d00c1893b9eec8006167c47ada7340b544c8011cb9df5be4c1095"), looks := false }, kinds := [], alts := [], laidByText := true, laidKinds := [.data, .data, .data, .data, .pinned], laidTests := true, laidLooks := .later }
def CustodyCheckMatchesSpecCardSaid : Prop := Claim7.holds Tryz.pinned (.plain (OpenSpec.ofChange custodyCheckMatchesSpecSpec)) custodyCheckMatchesSpecCard

/-- THE TIED CARD OF 'posthouselaw5.CustodyGrows'. -/
def custodyGrowsCard : Claim7 := { stood := { row := custodyGrowsRow, standIns := [], harness := (true, "c42626e2726d00c1893b9eec8006167c47ada7340b544c8011cb9df5be4c1095"), looks := false }, kinds := [], alts := [], laidByText := true, laidKinds := [.data, .data, .data, .data, .pinned], laidTests := true, laidLooks := .later }
def CustodyGrowsCardSaid : Prop := Claim7.holds Tryz.pinned (.plain (OpenSpec.ofChange custodyGrowsSpec)) custodyGrowsCard

/-- THE TIED CARD OF 'posthouselaw5.CustodyNeedsAllSeals'. -/
def custodyNeedsAllSealsCard : Claim7 := { stood := { row := custodyNeedsAllSealsRow, standIns := [], harness := (true, "c42626e2726d00c1893b9eec8006167c47ada7340b544c8011cb9df5be4c1095"), looks := false }, kinds := [], alts := [], laidByText := true, laidKinds := [.data, .data, .data, .data, .pinned], laidTests := true, laidLooks := .later }
def CustodyNeedsAllSealsCardSaid : Prop := Claim7.holds Tryz.pinned (.plain (OpenSpec.ofChange custodyNeedsAllSealsSpec)) custodyNeedsAllSealsCard

/-- THE TIED CARD OF 'posthouselaw5.CustodyIgnoresOtherFields'. -/
def custodyIgnoresOtherFieldsCard : Claim7 := { stood := { row := custodyIgnoresOtherFieldsRow, standIns := [], harness := (true, "c42626e2726d00c1893b9eec8006167c47ada7340b544c8011cb9df5be4c1095"), looks := false }, kinds := [], alts := [], laidByText := true, laidKinds := [.data, .data, .data, .data, .pinned], laidTests := true, laidLooks := .later }
def CustodyIgnoresOtherFieldsCardSaid : Prop := Claim7.holds Tryz.pinned (.plain (OpenSpec.ofChange custodyIgnoresOtherFieldsSpec)) custodyIgnoresOtherFieldsCard

/-- THE SECOND FORM's CARD OF 'posthouselaw5.SignSumMatchesSpec'. -/
def signSumMatchesSpecUptoCard : Claim7 := { stood := { row := signSumMatchesSpecUptoRow, standIns := [], harness := (true, "c42626e2726d00c1893b9eec8006167c47ada7340b544c8011cb9df5be4c1095"), looks := false }, kinds := [], alts := [], laidByText := true, laidKinds := [.data, .pinned], laidTests := true, laidLooks := .later }
def SignSumMatchesSpecUptoCardSaid : Prop := Claim7.holds Tryz.pinned (.plain (OpenSpec.upto signSumMatchesSpecSpec)) signSumMatchesSpecUptoCard

/-- THE SECOND FORM's CARD OF 'posthouselaw5.SignMatchesSpec'. -/
def signMatchesSpecUptoCard : Claim7 := { stood := { row := signMatchesSpecUptoRow, standIns := [], harness := (true, "c42626e2726d00c1893b9eec8006167c47ada7340b544c8011cb9df5be4c1095"), looks := false }, kinds := [], alts := [], laidByText := true, laidKinds := [.data, .pinned], laidTests := true, laidLooks := .later }
def SignMatchesSpecUptoCardSaid : Prop := Claim7.holds Tryz.pinned (.plain (OpenSpec.upto signMatchesSpecSpec)) signMatchesSpecUptoCard

/-- THE SECOND FORM's CARD OF 'posthouselaw5.SignVerifyMatchesSpec'. -/
def signVerifyMatchesSpecUptoCard : Claim7 := { stood := { row := signVerifyMatchesSpecUptoRow, standIns := [], harness := (true, "c42626e2726d00c1893b9eec8006167c47ada7340b544c8011cb9df5be4c1095"), looks := false }, kinds := [], alts := [], laidByText := true, laidKinds := [.data, .pinned], laidTests := true, laidLooks := .later }
def SignVerifyMatchesSpecUptoCardSaid : Prop := Claim7.holds Tryz.pinned (.plain (OpenSpec.upto signVerifyMatchesSpecSpec)) signVerifyMatchesSpecUptoCard

/-- THE SECOND FORM's CARD OF 'posthouselaw5.SignIsVerified'. -/
def signIsVerifiedUptoCard : Claim7 := { stood := { row := signIsVerifiedUptoRow, standIns := [], harness := (true, "c42626e2726d00c1893b9eec8006167c47ada7340b544c8011cb9df5be4c1095"), looks := false }, kinds := [], alts := [], laidByText := true, laidKinds := [.data, .pinned], laidTests := true, laidLooks := .later }
def SignIsVerifiedUptoCardSaid : Prop := Claim7.holds Tryz.pinned (.plain (OpenSpec.upto signIsVerifiedSpec)) signIsVerifiedUptoCard

/-- THE SECOND FORM's CARD OF 'posthouselaw5.SignSurvivesRelays'. -/
def signSurvivesRelaysUptoCard : Claim7 := { stood := { row := signSurvivesRelaysUptoRow, standIns := [], harness := (true, "c42626e2726d00c1893b9eec8006167c47ada7340b544c8011cb9df5be4c1095"), looks := false }, kinds := [], alts := [], laidByText := true, laidKinds := [.data, .pinned], laidTests := true, laidLooks := .later }
def SignSurvivesRelaysUptoCardSaid : Prop := Claim7.holds Tryz.pinned (.plain (OpenSpec.upto signSurvivesRelaysSpec)) signSurvivesRelaysUptoCard

/-- THE SECOND FORM's CARD OF 'posthouselaw5.SignFindsChanges'. -/
def signFindsChangesUptoCard : Claim7 := { stood := { row := signFindsChangesUptoRow, standIns := [], harness := (true, "c42626e2726d00c1893b9eec8006167c47ada7340b544c8011cb9df5be4c1095"), looks := false }, kinds := [], alts := [], laidByText := true, laidKinds := [.data, .pinned], laidTests := true, laidLooks := .later }
def SignFindsChangesUptoCardSaid : Prop := Claim7.holds Tryz.pinned (.plain (OpenSpec.upto signFindsChangesSpec)) signFindsChangesUptoCard

/-- THE SECOND FORM's CARD OF 'posthouselaw5.CustodySealMatchesSpec'. -/
def custodySealMatchesSpecUptoCard : Claim7 := { stood := { row := custodySealMatchesSpecUptoRow, standIns := [], harness := (true, "c42626e2726d00c1893b9eec8006167c47ada7340b544c8011cb9df5be4c1095"), looks := false }, kinds := [], alts := [], laidByText := true, laidKinds := [.data, .data, .data, .data, .pinned], laidTests := true, laidLooks := .later }
def CustodySealMatchesSpecUptoCardSaid : Prop := Claim7.holds Tryz.pinned (.plain (OpenSpec.upto custodySealMatchesSpecSpec)) custodySealMatchesSpecUptoCard

/-- THE SECOND FORM's CARD OF 'posthouselaw5.CustodyCheckMatchesSpec'. -/
def custodyCheckMatchesSpecUptoCard : Claim7 := { stood := { row := custodyCheckMatchesSpecUptoRow, standIns := [], harness := (true, "c42626e2726d00c1893b9eec8006167c47ada7340b544c8011cb9df5be4c1095"), looks := false }, kinds := [], alts := [], laidByText := true, laidKinds := [.data, .data, .data, .data, .pinned], laidTests := true, laidLooks := .later }
def CustodyCheckMatchesSpecUptoCardSaid : Prop := Claim7.holds Tryz.pinned (.plain (OpenSpec.upto custodyCheckMatchesSpecSpec)) custodyCheckMatchesSpecUptoCard

/-- THE SECOND FORM's CARD OF 'posthouselaw5.CustodyGrows'. -/
def custodyGrowsUptoCard : Claim7 := { stood := { row := custodyGrowsUptoRow, standIns := [], harness := (true, "c42626e2726d00c1893b9eec8006167c47ada7340b544c8011cb9df5be4c1095"), looks := false }, kinds := [], alts := [], laidByText := true, laidKinds := [.data, .data, .data, .data, .pinned], laidTests := true, laidLooks := .later }
def CustodyGrowsUptoCardSaid : Prop := Claim7.holds Tryz.pinned (.plain (OpenSpec.upto custodyGrowsSpec)) custodyGrowsUptoCard

/-- THE SECOND FORM's CARD OF 'posthouselaw5.CustodyNeedsAllSeals'. -/
def custodyNeedsAllSealsUptoCard : Claim7 := { stood := { row := custodyNeedsAllSealsUptoRow, standIns := [], harness := (true, "c42626e2726d00c1893b9eec8006167c47ada7340b544c8011cb9df5be4c1095"), looks := false }, kinds := [], alts := [], laidByText := true, laidKinds := [.data, .data, .data, .data, .pinned], laidTests := true, laidLooks := .later }
def CustodyNeedsAllSealsUptoCardSaid : Prop := Claim7.holds Tryz.pinned (.plain (OpenSpec.upto custodyNeedsAllSealsSpec)) custodyNeedsAllSealsUptoCard

/-- THE SECOND FORM's CARD OF 'posthouselaw5.CustodyIgnoresOtherFields'. -/
def custodyIgnoresOtherFieldsUptoCard : Claim7 := { stood := { row := custodyIgnoresOtherFieldsUptoRow, standIns := [], harness := (true, "c42626e2726d00c1893b9eec8006167c47ada7340b544c8011cb9df5be4c1095"), looks := false }, kinds := [], alts := [], laidByText := true, laidKinds := [.data, .data, .data, .data, .pinned], laidTests := true, laidLooks := .later }
def CustodyIgnoresOtherFieldsUptoCardSaid : Prop := Claim7.holds Tryz.pinned (.plain (OpenSpec.upto custodyIgnoresOtherFieldsSpec)) custodyIgnoresOtherFieldsUptoCard
end Rows
end Go.Proofs.YthdhfmdhjanoaaaGreatDoor
