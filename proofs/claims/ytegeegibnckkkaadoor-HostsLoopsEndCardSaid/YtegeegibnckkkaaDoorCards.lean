/-
  DERIVED. GIVEN WITH THE SEED: THE CARDS: each row of YtegeegibnckkkaaDoorRows.lean that lists a variable, with what it lists TIED to the program's text (the seventh form; the later family's looks); each row that meets fmt, with fmt's text TOLD by the authors' own Lean function (tested against real Go, not proved from fmt's source: count such statements apart). THE CARD IS WHAT COUNTS. Prove the row's statement (the work); the ties are given (YtegeegibnckkkaaDoorTie.lean); close each card by the builder's one call (the guide's Derived/Test/ToyasCard.lean, 'card_holds'). Laid BY PROGRAM, IN A SANDBOX (cutbox-door.mjs). By AI agents, Wed Nov 11 2026. No macro, syntax, notation, axiom, sorry.
-/
import Derived.Test.YtegeegibnckkkaaDoorRows
import GoSem.ClaimSeven
namespace Go.Proofs.YtegeegibnckkkaaDoor
namespace Rows

/-- THE TIED CARD OF 'posthouselaw5.HostsParseMatchesSpec'. -/
def hostsParseMatchesSpecCard : Claim7 := { stood := { row := hostsParseMatchesSpecRow, standIns := [], harness := (true, "a3c251f5752f80002ea6722eb34b424962026897df155e1746afa3423cb18f56"), looks := false }, kinds := [], alts := [], laidByText := true, laidKinds := [.data, .pinned], laidTests := true, laidLooks := .later }
def HostsParseMatchesSpecCardSaid : Prop := Claim7.holds Tryd.pinned (.plain (OpenSpec.ofChange hostsParseMatchesSpecSpec)) hostsParseMatchesSpecCard

/-- THE TIED CARD OF 'posthouselaw5.HostsCheckMatchesSpec'. -/
def hostsCheckMatchesSpecCard : Claim7 := { stood := { row := hostsCheckMatchesSpecRow, standIns := [], harness := (true, "a3c251f5752f80002ea6722eb34b424962026897df155e1746afa3423cb18f56"), looks := false }, kinds := [], alts := [], laidByText := true, laidKinds := [.data, .pinned], laidTests := true, laidLooks := .later }
def HostsCheckMatchesSpecCardSaid : Prop := Claim7.holds Tryd.pinned (.plain (OpenSpec.ofChange hostsCheckMatchesSpecSpec)) hostsCheckMatchesSpecCard

/-- THE TIED CARD OF 'posthouselaw5.HostsLoopsEnd'. -/
def hostsLoopsEndCard : Claim7 := { stood := { row := hostsLoopsEndRow, standIns := [], harness := (true, "a3c251f5752f80002ea6722eb34b424962026897df155e1746afa3423cb18f56"), looks := false }, kinds := [], alts := [], laidByText := true, laidKinds := [.data, .pinned], laidTests := true, laidLooks := .later }
def HostsLoopsEndCardSaid : Prop := Claim7.holds Tryd.pinned (.plain (OpenSpec.ofChange hostsLoopsEndSpec)) hostsLoopsEndCard

/-- THE TIED CARD OF 'posthouselaw5.HostsFirstRuleDecides'. -/
def hostsFirstRuleDecidesCard : Claim7 := { stood := { row := hostsFirstRuleDecidesRow, standIns := [], harness := (true, "a3c251f5752f80002ea6722eb34b424962026897df155e1746afa3423cb18f56"), looks := false }, kinds := [], alts := [], laidByText := true, laidKinds := [.data, .pinned], laidTests := true, laidLooks := .later }
def HostsFirstRuleDecidesCardSaid : Prop := Claim7.holds Tryd.pinned (.plain (OpenSpec.ofChange hostsFirstRuleDecidesSpec)) hostsFirstRuleDecidesCard

/-- THE TIED CARD OF 'posthouselaw5.HostsPrintMatchesSpec'. -/
def hostsPrintMatchesSpecCard : Claim7 := { stood := { row := hostsPrintMatchesSpecRow, standIns := [], harness := (true, "a3c251f5752f80002ea6722eb34b424962026897df155e1746afa3423cb18f56"), looks := false }, kinds := [], alts := [], laidByText := true, laidKinds := [.data, .pinned], laidTests := true, laidLooks := .later }
def HostsPrintMatchesSpecCardSaid : Prop := Claim7.holds Tryd.pinned (.plain (OpenSpec.ofChange hostsPrintMatchesSpecSpec)) hostsPrintMatchesSpecCard

/-- THE TIED CARD OF 'posthouselaw5.HostsReadWhatIsWritten'. -/
def hostsReadWhatIsWrittenCard : Claim7 := { stood := { row := hostsReadWhatIsWrittenRow, standIns := [], harness := (true, "a3c251f5752f80002ea6722eb34b424962026897df155e1746afa3423cb18f56"), looks := false }, kinds := [], alts := [], laidByText := true, laidKinds := [.data, .pinned], laidTests := true, laidLooks := .later }
def HostsReadWhatIsWrittenCardSaid : Prop := Claim7.holds Tryd.pinned (.plain (OpenSpec.ofChange hostsReadWhatIsWrittenSpec)) hostsReadWhatIsWrittenCard

/-- THE SECOND FORM's CARD OF 'posthouselaw5.HostsParseMatchesSpec'. -/
def hostsParseMatchesSpecUptoCard : Claim7 := { stood := { row := hostsParseMatchesSpecUptoRow, standIns := [], harness := (true, "a3c251f5752f80002ea6722eb34b424962026897df155e1746afa3423cb18f56"), looks := false }, kinds := [], alts := [], laidByText := true, laidKinds := [.data, .pinned], laidTests := true, laidLooks := .later }
def HostsParseMatchesSpecUptoCardSaid : Prop := Claim7.holds Tryd.pinned (.plain (OpenSpec.upto hostsParseMatchesSpecSpec)) hostsParseMatchesSpecUptoCard

/-- THE SECOND FORM's CARD OF 'posthouselaw5.HostsCheckMatchesSpec'. -/
def hostsCheckMatchesSpecUptoCard : Claim7 := { stood := { row := hostsCheckMatchesSpecUptoRow, standIns := [], harness := (true, "a3c251f5752f80002ea6722eb34b424962026897df155e1746afa3423cb18f56"), looks := false }, kinds := [], alts := [], laidByText := true, laidKinds := [.data, .pinned], laidTests := true, laidLooks := .later }
def HostsCheckMatchesSpecUptoCardSaid : Prop := Claim7.holds Tryd.pinned (.plain (OpenSpec.upto hostsCheckMatchesSpecSpec)) hostsCheckMatchesSpecUptoCard

/-- THE SECOND FORM's CARD OF 'posthouselaw5.HostsLoopsEnd'. -/
def hostsLoopsEndUptoCard : Claim7 := { stood := { row := hostsLoopsEndUptoRow, standIns := [], harness := (true, "a3c251f5752f80002ea6722eb34b424962026897df155e1746afa3423cb18f56"), looks := false }, kinds := [], alts := [], laidByText := true, laidKinds := [.data, .pinned], laidTests := true, laidLooks := .later }
def HostsLoopsEndUptoCardSaid : Prop := Claim7.holds Tryd.pinned (.plain (OpenSpec.upto hostsLoopsEndSpec)) hostsLoopsEndUptoCard

/-- THE SECOND FORM's CARD OF 'posthouselaw5.HostsFirstRuleDecides'. -/
def hostsFirstRuleDecidesUptoCard : Claim7 := { stood := { row := hostsFirstRuleDecidesUptoRow, standIns := [], harness := (true, "a3c251f5752f80002ea6722eb34b424962026897df155e1746afa3423cb18f56"), looks := false }, kinds := [], alts := [], laidByText := true, laidKinds := [.data, .pinned], laidTests := true, laidLooks := .later }
def HostsFirstRuleDecidesUptoCardSaid : Prop := Claim7.holds Tryd.pinned (.plain (OpenSpec.upto hostsFirstRuleDecidesSpec)) hostsFirstRuleDecidesUptoCard

/-- THE SECOND FORM's CARD OF 'posthouselaw5.HostsPrintMatchesSpec'. -/
def hostsPrintMatchesSpecUptoCard : Claim7 := { stood := { row := hostsPrintMatchesSpecUptoRow, standIns := [], harness := (true, "a3c251f5752f80002ea6722eb34b424962026897df155e1746afa3423cb18f56"), looks := false }, kinds := [], alts := [], laidByText := true, laidKinds := [.data, .pinned], laidTests := true, laidLooks := .later }
def HostsPrintMatchesSpecUptoCardSaid : Prop := Claim7.holds Tryd.pinned (.plain (OpenSpec.upto hostsPrintMatchesSpecSpec)) hostsPrintMatchesSpecUptoCard

/-- THE SECOND FORM's CARD OF 'posthouselaw5.HostsReadWhatIsWritten'. -/
def hostsReadWhatIsWrittenUptoCard : Claim7 := { stood := { row := hostsReadWhatIsWrittenUptoRow, standIns := [], harness := (true, "a3c251f5752f80002ea6722eb34b424962026897df155e1746afa3423cb18f56"), looks := false }, kinds := [], alts := [], laidByText := true, laidKinds := [.data, .pinned], laidTests := true, laidLooks := .later }
def HostsReadWhatIsWrittenUptoCardSaid : Prop := Claim7.holds Tryd.pinned (.plain (OpenSpec.upto hostsReadWhatIsWrittenSpec)) hostsReadWhatIsWrittenUptoCard
end Rows
end Go.Proofs.YtegeegibnckkkaaDoor
