/-
  NARROWER THAN 'FOR EVERY INPUT', by the rows' own cells (each row's printed sentence says how): HostsParseMatchesSpec: laid · HostsCheckMatchesSpec: laid · HostsLoopsEnd: laid · HostsFirstRuleDecides: laid · HostsPrintMatchesSpec: laid · HostsReadWhatIsWritten: laid.
  DERIVED. THE GIVEN ROWS OF THIS SEAT. 6 by the template 'for every input the law returns true; each argument reads behind the call as it read before'; 0 by the template 'total and deterministic' (their statements: YtegeegibnckkkaaDoorTotals.lean).
  GIVEN WITH THE SEED: the statements are not yours to turn. If you find one false, say at which input.
  Laid BY PROGRAM, IN A SANDBOX (cutbox-rows.mjs): the forced cells as the released guide's own fill.sh prints them over the translation 18d29f338432d235… (all of the seat's roots in one cut). By AI agents, Wed Nov 11 2026. No macro, syntax, notation, axiom, sorry.
-/
import Derived.Test.YtegeegibnckkkaaDoorChecked
import GoSem.PinnedTables
import GoSem.Claim
import GoSem.ClaimJoined
import GoSem.ClaimMapViews
import Derived.JoinedTies
import Derived.KernelRfl
namespace Go.Proofs.YtegeegibnckkkaaDoor
/- THE CELL 'sum', in the pinned program and in every row, IS THE sha256 OF THE DUMP (.gsa) THAT YtegeegibnckkkaaDoorProg.lean LOADS. Nothing in Lean hashes anything: it is a label: what it is worth is what the hold of that sum in a sandbox is worth. -/
noncomputable def Tryd.pinned : Pinned := { name := "ytegeegibnckkkaadoor", sum := "18d29f338432d2354ee0b36d31aed7d08ff5a15ede3a07aa0d06afc3c771e346", checked := Tryd.checked }
namespace Rows
def none {H : Type} : Left H := { results := [], args := [] }

/- WHAT THE LISTED PACKAGE-LEVEL VARIABLES READ AS WHEN THE CALL BEGINS. Each datum BY PROGRAM (the guide's laid-datum.mjs) off the statement by which the dump's own 'gosem.cut.vars' lays the variable. In a bare row this is a premise. The card (YtegeegibnckkkaaDoorCards.lean) ties it to the program's text. -/
def laid_unicode_utf8_acceptRanges {H : Type} : DataW H := .agg [.agg [.lit (.int .u8 128), .lit (.int .u8 191)], .agg [.lit (.int .u8 160), .lit (.int .u8 191)], .agg [.lit (.int .u8 128), .lit (.int .u8 159)], .agg [.lit (.int .u8 144), .lit (.int .u8 191)], .agg [.lit (.int .u8 128), .lit (.int .u8 143)], .agg [.lit (.int .u8 0), .lit (.int .u8 0)], .agg [.lit (.int .u8 0), .lit (.int .u8 0)], .agg [.lit (.int .u8 0), .lit (.int .u8 0)], .agg [.lit (.int .u8 0), .lit (.int .u8 0)], .agg [.lit (.int .u8 0), .lit (.int .u8 0)], .agg [.lit (.int .u8 0), .lit (.int .u8 0)], .agg [.lit (.int .u8 0), .lit (.int .u8 0)], .agg [.lit (.int .u8 0), .lit (.int .u8 0)], .agg [.lit (.int .u8 0), .lit (.int .u8 0)], .agg [.lit (.int .u8 0), .lit (.int .u8 0)], .agg [.lit (.int .u8 0), .lit (.int .u8 0)]]
/-- One of Go's own tables, pinned by name: the form's constant. -/
def laid_unicode_utf8_first : DataW Unit := Go.Pinned.utf8First

/-- 'posthouselaw5.HostsParseMatchesSpec': WHATEVER THE INPUT: true; the input reads as it did. -/
def hostsParseMatchesSpecSpec : ChangeSpec := { name := "hostsParseMatchesSpec", fn := fun _ => fun
  | [d] => { results := [.lit (.bool true)], args := [d] }
  | _ => none }
def hostsParseMatchesSpecRow : OpenClaim := { program := "ytegeegibnckkkaadoor", sum := "18d29f338432d2354ee0b36d31aed7d08ff5a15ede3a07aa0d06afc3c771e346", func := "posthouse/posthouselaw5.HostsParseMatchesSpec", spec := "hostsParseMatchesSpec", inPlace := ["internal/bytealg.CountString", "internal/bytealg.IndexByteString", "internal/bytealg.IndexString"], unfollowed := true, recurses := true, named := ["unicode/utf8.first", "unicode/utf8.acceptRanges", "internal/bytealg.MaxLen"], apart := false, laid := [("unicode/utf8.acceptRanges", laid_unicode_utf8_acceptRanges), ("unicode/utf8.first", laid_unicode_utf8_first)] }
def HostsParseMatchesSpecSaid : Prop := hostsParseMatchesSpecRow.holds Tryd.pinned (OpenSpec.ofChange hostsParseMatchesSpecSpec)

/-- ITS FALSE NEIGHBOUR: 'it returns false'. Refute it at one input. -/
def hostsParseMatchesSpecWrong : ChangeSpec := { name := "hostsParseMatchesSpec", fn := fun _ => fun
  | [d] => { results := [.lit (.bool false)], args := [d] }
  | _ => none }
def HostsParseMatchesSpecWrongFalsely : Prop := hostsParseMatchesSpecRow.holds Tryd.pinned (OpenSpec.ofChange hostsParseMatchesSpecWrong)

/-- 'posthouselaw5.HostsCheckMatchesSpec': WHATEVER THE INPUT: true; the input reads as it did. -/
def hostsCheckMatchesSpecSpec : ChangeSpec := { name := "hostsCheckMatchesSpec", fn := fun _ => fun
  | [d1, d2, d3] => { results := [.lit (.bool true)], args := [d1, d2, d3] }
  | _ => none }
def hostsCheckMatchesSpecRow : OpenClaim := { program := "ytegeegibnckkkaadoor", sum := "18d29f338432d2354ee0b36d31aed7d08ff5a15ede3a07aa0d06afc3c771e346", func := "posthouse/posthouselaw5.HostsCheckMatchesSpec", spec := "hostsCheckMatchesSpec", inPlace := ["internal/bytealg.CountString", "internal/bytealg.IndexByteString", "internal/bytealg.IndexString"], unfollowed := true, recurses := true, named := ["unicode/utf8.first", "unicode/utf8.acceptRanges", "internal/bytealg.MaxLen"], apart := false, laid := [("unicode/utf8.acceptRanges", laid_unicode_utf8_acceptRanges), ("unicode/utf8.first", laid_unicode_utf8_first)] }
def HostsCheckMatchesSpecSaid : Prop := hostsCheckMatchesSpecRow.holds Tryd.pinned (OpenSpec.ofChange hostsCheckMatchesSpecSpec)

/-- ITS FALSE NEIGHBOUR: 'it returns false'. Refute it at one input. -/
def hostsCheckMatchesSpecWrong : ChangeSpec := { name := "hostsCheckMatchesSpec", fn := fun _ => fun
  | [d1, d2, d3] => { results := [.lit (.bool false)], args := [d1, d2, d3] }
  | _ => none }
def HostsCheckMatchesSpecWrongFalsely : Prop := hostsCheckMatchesSpecRow.holds Tryd.pinned (OpenSpec.ofChange hostsCheckMatchesSpecWrong)

/-- 'posthouselaw5.HostsLoopsEnd': WHATEVER THE INPUT: true; the input reads as it did. -/
def hostsLoopsEndSpec : ChangeSpec := { name := "hostsLoopsEnd", fn := fun _ => fun
  | [d1, d2] => { results := [.lit (.bool true)], args := [d1, d2] }
  | _ => none }
def hostsLoopsEndRow : OpenClaim := { program := "ytegeegibnckkkaadoor", sum := "18d29f338432d2354ee0b36d31aed7d08ff5a15ede3a07aa0d06afc3c771e346", func := "posthouse/posthouselaw5.HostsLoopsEnd", spec := "hostsLoopsEnd", inPlace := ["internal/bytealg.CountString", "internal/bytealg.IndexByteString", "internal/bytealg.IndexString"], unfollowed := true, recurses := true, named := ["unicode/utf8.first", "unicode/utf8.acceptRanges", "internal/bytealg.MaxLen"], apart := false, laid := [("unicode/utf8.acceptRanges", laid_unicode_utf8_acceptRanges), ("unicode/utf8.first", laid_unicode_utf8_first)] }
def HostsLoopsEndSaid : Prop := hostsLoopsEndRow.holds Tryd.pinned (OpenSpec.ofChange hostsLoopsEndSpec)

/-- ITS FALSE NEIGHBOUR: 'it returns false'. Refute it at one input. -/
def hostsLoopsEndWrong : ChangeSpec := { name := "hostsLoopsEnd", fn := fun _ => fun
  | [d1, d2] => { results := [.lit (.bool false)], args := [d1, d2] }
  | _ => none }
def HostsLoopsEndWrongFalsely : Prop := hostsLoopsEndRow.holds Tryd.pinned (OpenSpec.ofChange hostsLoopsEndWrong)

/-- 'posthouselaw5.HostsFirstRuleDecides': WHATEVER THE INPUT: true; the input reads as it did. -/
def hostsFirstRuleDecidesSpec : ChangeSpec := { name := "hostsFirstRuleDecides", fn := fun _ => fun
  | [d1, d2, d3, d4, d5] => { results := [.lit (.bool true)], args := [d1, d2, d3, d4, d5] }
  | _ => none }
def hostsFirstRuleDecidesRow : OpenClaim := { program := "ytegeegibnckkkaadoor", sum := "18d29f338432d2354ee0b36d31aed7d08ff5a15ede3a07aa0d06afc3c771e346", func := "posthouse/posthouselaw5.HostsFirstRuleDecides", spec := "hostsFirstRuleDecides", inPlace := ["internal/bytealg.CountString", "internal/bytealg.IndexByteString", "internal/bytealg.IndexString"], unfollowed := true, recurses := true, named := ["unicode/utf8.first", "unicode/utf8.acceptRanges", "internal/bytealg.MaxLen"], apart := false, laid := [("unicode/utf8.acceptRanges", laid_unicode_utf8_acceptRanges), ("unicode/utf8.first", laid_unicode_utf8_first)] }
def HostsFirstRuleDecidesSaid : Prop := hostsFirstRuleDecidesRow.holds Tryd.pinned (OpenSpec.ofChange hostsFirstRuleDecidesSpec)

/-- ITS FALSE NEIGHBOUR: 'it returns false'. Refute it at one input. -/
def hostsFirstRuleDecidesWrong : ChangeSpec := { name := "hostsFirstRuleDecides", fn := fun _ => fun
  | [d1, d2, d3, d4, d5] => { results := [.lit (.bool false)], args := [d1, d2, d3, d4, d5] }
  | _ => none }
def HostsFirstRuleDecidesWrongFalsely : Prop := hostsFirstRuleDecidesRow.holds Tryd.pinned (OpenSpec.ofChange hostsFirstRuleDecidesWrong)

/-- 'posthouselaw5.HostsPrintMatchesSpec': WHATEVER THE INPUT: true; the input reads as it did. -/
def hostsPrintMatchesSpecSpec : ChangeSpec := { name := "hostsPrintMatchesSpec", fn := fun _ => fun
  | [d] => { results := [.lit (.bool true)], args := [d] }
  | _ => none }
def hostsPrintMatchesSpecRow : OpenClaim := { program := "ytegeegibnckkkaadoor", sum := "18d29f338432d2354ee0b36d31aed7d08ff5a15ede3a07aa0d06afc3c771e346", func := "posthouse/posthouselaw5.HostsPrintMatchesSpec", spec := "hostsPrintMatchesSpec", inPlace := ["internal/bytealg.CountString", "internal/bytealg.IndexByteString", "internal/bytealg.IndexString"], unfollowed := true, recurses := true, named := ["unicode/utf8.first", "unicode/utf8.acceptRanges", "internal/bytealg.MaxLen"], apart := false, laid := [("unicode/utf8.acceptRanges", laid_unicode_utf8_acceptRanges), ("unicode/utf8.first", laid_unicode_utf8_first)] }
def HostsPrintMatchesSpecSaid : Prop := hostsPrintMatchesSpecRow.holds Tryd.pinned (OpenSpec.ofChange hostsPrintMatchesSpecSpec)

/-- ITS FALSE NEIGHBOUR: 'it returns false'. Refute it at one input. -/
def hostsPrintMatchesSpecWrong : ChangeSpec := { name := "hostsPrintMatchesSpec", fn := fun _ => fun
  | [d] => { results := [.lit (.bool false)], args := [d] }
  | _ => none }
def HostsPrintMatchesSpecWrongFalsely : Prop := hostsPrintMatchesSpecRow.holds Tryd.pinned (OpenSpec.ofChange hostsPrintMatchesSpecWrong)

/-- 'posthouselaw5.HostsReadWhatIsWritten': WHATEVER THE INPUT: true; the input reads as it did. -/
def hostsReadWhatIsWrittenSpec : ChangeSpec := { name := "hostsReadWhatIsWritten", fn := fun _ => fun
  | [d1, d2] => { results := [.lit (.bool true)], args := [d1, d2] }
  | _ => none }
def hostsReadWhatIsWrittenRow : OpenClaim := { program := "ytegeegibnckkkaadoor", sum := "18d29f338432d2354ee0b36d31aed7d08ff5a15ede3a07aa0d06afc3c771e346", func := "posthouse/posthouselaw5.HostsReadWhatIsWritten", spec := "hostsReadWhatIsWritten", inPlace := ["internal/bytealg.CountString", "internal/bytealg.IndexByteString", "internal/bytealg.IndexString"], unfollowed := true, recurses := true, named := ["unicode/utf8.first", "unicode/utf8.acceptRanges", "internal/bytealg.MaxLen"], apart := false, laid := [("unicode/utf8.acceptRanges", laid_unicode_utf8_acceptRanges), ("unicode/utf8.first", laid_unicode_utf8_first)] }
def HostsReadWhatIsWrittenSaid : Prop := hostsReadWhatIsWrittenRow.holds Tryd.pinned (OpenSpec.ofChange hostsReadWhatIsWrittenSpec)

/-- ITS FALSE NEIGHBOUR: 'it returns false'. Refute it at one input. -/
def hostsReadWhatIsWrittenWrong : ChangeSpec := { name := "hostsReadWhatIsWritten", fn := fun _ => fun
  | [d1, d2] => { results := [.lit (.bool false)], args := [d1, d2] }
  | _ => none }
def HostsReadWhatIsWrittenWrongFalsely : Prop := hostsReadWhatIsWrittenRow.holds Tryd.pinned (OpenSpec.ofChange hostsReadWhatIsWrittenWrong)

/- THE SECOND FORM. 'bulk': how many values and letters a reading holds, each counted each time it is reached (what is shared counts as often as it is met; a slice's spare places count too). A statement '..UptoSaid' is the law's where the arguments, and the package variables that the reading takes, are together of bulk at most 1048576: NARROWER than '..Said'. Prove '..Said' where nothing that the law and all that it calls make is longer than what came in: it says more and counts as full. Else prove '..UptoSaid'. A law counts once. -/
mutual
def uptoBulk {H : Type} : DataW H → Nat
  | .lit (.string bytes) => bytes.length + 1
  | .lit _ => 1
  | .nil => 1
  | .ptr d => uptoBulk d + 1
  | .slice elems spare => uptoBulkAll elems + uptoBulkAll spare + 1
  | .agg parts => uptoBulkAll parts + 1
  | .iface _ d => uptoBulk d + 1
  | .map entries => uptoBulkEntries entries + 1
  | .held _ => 1
def uptoBulkAll {H : Type} : List (DataW H) → Nat
  | [] => 0
  | d :: r => uptoBulk d + uptoBulkAll r
def uptoBulkEntries {H : Type} : List (Lit × DataW H) → Nat
  | [] => 0
  | x :: r => uptoBulkEntry x + uptoBulkEntries r
def uptoBulkEntry {H : Type} : Lit × DataW H → Nat
  | (.string bytes, d) => bytes.length + uptoBulk d + 1
  | (_, d) => uptoBulk d + 1
 end
def uptoSmall : (H : Type) → List (DataW H) → Bool := fun _ ds => decide (uptoBulkAll ds ≤ 1048576)
def OpenSpec.upto (s : _root_.Go.ChangeSpec) : _root_.Go.OpenSpec := { _root_.Go.OpenSpec.ofChange s with cond := some uptoSmall }

/-- 'posthouselaw5.HostsParseMatchesSpec', WHERE WHAT IT READS IS OF BULK AT MOST 1048576: true; the input reads as it did. -/
def hostsParseMatchesSpecUptoRow : OpenClaim := { program := "ytegeegibnckkkaadoor", sum := "18d29f338432d2354ee0b36d31aed7d08ff5a15ede3a07aa0d06afc3c771e346", func := "posthouse/posthouselaw5.HostsParseMatchesSpec", spec := "hostsParseMatchesSpec", inPlace := ["internal/bytealg.CountString", "internal/bytealg.IndexByteString", "internal/bytealg.IndexString"], unfollowed := true, recurses := true, named := ["unicode/utf8.first", "unicode/utf8.acceptRanges", "internal/bytealg.MaxLen"], apart := false, laid := [("unicode/utf8.acceptRanges", laid_unicode_utf8_acceptRanges), ("unicode/utf8.first", laid_unicode_utf8_first)], narrowed := true }
def HostsParseMatchesSpecUptoSaid : Prop := hostsParseMatchesSpecUptoRow.holds Tryd.pinned (OpenSpec.upto hostsParseMatchesSpecSpec)

/-- 'posthouselaw5.HostsCheckMatchesSpec', WHERE WHAT IT READS IS OF BULK AT MOST 1048576: true; the input reads as it did. -/
def hostsCheckMatchesSpecUptoRow : OpenClaim := { program := "ytegeegibnckkkaadoor", sum := "18d29f338432d2354ee0b36d31aed7d08ff5a15ede3a07aa0d06afc3c771e346", func := "posthouse/posthouselaw5.HostsCheckMatchesSpec", spec := "hostsCheckMatchesSpec", inPlace := ["internal/bytealg.CountString", "internal/bytealg.IndexByteString", "internal/bytealg.IndexString"], unfollowed := true, recurses := true, named := ["unicode/utf8.first", "unicode/utf8.acceptRanges", "internal/bytealg.MaxLen"], apart := false, laid := [("unicode/utf8.acceptRanges", laid_unicode_utf8_acceptRanges), ("unicode/utf8.first", laid_unicode_utf8_first)], narrowed := true }
def HostsCheckMatchesSpecUptoSaid : Prop := hostsCheckMatchesSpecUptoRow.holds Tryd.pinned (OpenSpec.upto hostsCheckMatchesSpecSpec)

/-- 'posthouselaw5.HostsLoopsEnd', WHERE WHAT IT READS IS OF BULK AT MOST 1048576: true; the input reads as it did. -/
def hostsLoopsEndUptoRow : OpenClaim := { program := "ytegeegibnckkkaadoor", sum := "18d29f338432d2354ee0b36d31aed7d08ff5a15ede3a07aa0d06afc3c771e346", func := "posthouse/posthouselaw5.HostsLoopsEnd", spec := "hostsLoopsEnd", inPlace := ["internal/bytealg.CountString", "internal/bytealg.IndexByteString", "internal/bytealg.IndexString"], unfollowed := true, recurses := true, named := ["unicode/utf8.first", "unicode/utf8.acceptRanges", "internal/bytealg.MaxLen"], apart := false, laid := [("unicode/utf8.acceptRanges", laid_unicode_utf8_acceptRanges), ("unicode/utf8.first", laid_unicode_utf8_first)], narrowed := true }
def HostsLoopsEndUptoSaid : Prop := hostsLoopsEndUptoRow.holds Tryd.pinned (OpenSpec.upto hostsLoopsEndSpec)

/-- 'posthouselaw5.HostsFirstRuleDecides', WHERE WHAT IT READS IS OF BULK AT MOST 1048576: true; the input reads as it did. -/
def hostsFirstRuleDecidesUptoRow : OpenClaim := { program := "ytegeegibnckkkaadoor", sum := "18d29f338432d2354ee0b36d31aed7d08ff5a15ede3a07aa0d06afc3c771e346", func := "posthouse/posthouselaw5.HostsFirstRuleDecides", spec := "hostsFirstRuleDecides", inPlace := ["internal/bytealg.CountString", "internal/bytealg.IndexByteString", "internal/bytealg.IndexString"], unfollowed := true, recurses := true, named := ["unicode/utf8.first", "unicode/utf8.acceptRanges", "internal/bytealg.MaxLen"], apart := false, laid := [("unicode/utf8.acceptRanges", laid_unicode_utf8_acceptRanges), ("unicode/utf8.first", laid_unicode_utf8_first)], narrowed := true }
def HostsFirstRuleDecidesUptoSaid : Prop := hostsFirstRuleDecidesUptoRow.holds Tryd.pinned (OpenSpec.upto hostsFirstRuleDecidesSpec)

/-- 'posthouselaw5.HostsPrintMatchesSpec', WHERE WHAT IT READS IS OF BULK AT MOST 1048576: true; the input reads as it did. -/
def hostsPrintMatchesSpecUptoRow : OpenClaim := { program := "ytegeegibnckkkaadoor", sum := "18d29f338432d2354ee0b36d31aed7d08ff5a15ede3a07aa0d06afc3c771e346", func := "posthouse/posthouselaw5.HostsPrintMatchesSpec", spec := "hostsPrintMatchesSpec", inPlace := ["internal/bytealg.CountString", "internal/bytealg.IndexByteString", "internal/bytealg.IndexString"], unfollowed := true, recurses := true, named := ["unicode/utf8.first", "unicode/utf8.acceptRanges", "internal/bytealg.MaxLen"], apart := false, laid := [("unicode/utf8.acceptRanges", laid_unicode_utf8_acceptRanges), ("unicode/utf8.first", laid_unicode_utf8_first)], narrowed := true }
def HostsPrintMatchesSpecUptoSaid : Prop := hostsPrintMatchesSpecUptoRow.holds Tryd.pinned (OpenSpec.upto hostsPrintMatchesSpecSpec)

/-- 'posthouselaw5.HostsReadWhatIsWritten', WHERE WHAT IT READS IS OF BULK AT MOST 1048576: true; the input reads as it did. -/
def hostsReadWhatIsWrittenUptoRow : OpenClaim := { program := "ytegeegibnckkkaadoor", sum := "18d29f338432d2354ee0b36d31aed7d08ff5a15ede3a07aa0d06afc3c771e346", func := "posthouse/posthouselaw5.HostsReadWhatIsWritten", spec := "hostsReadWhatIsWritten", inPlace := ["internal/bytealg.CountString", "internal/bytealg.IndexByteString", "internal/bytealg.IndexString"], unfollowed := true, recurses := true, named := ["unicode/utf8.first", "unicode/utf8.acceptRanges", "internal/bytealg.MaxLen"], apart := false, laid := [("unicode/utf8.acceptRanges", laid_unicode_utf8_acceptRanges), ("unicode/utf8.first", laid_unicode_utf8_first)], narrowed := true }
def HostsReadWhatIsWrittenUptoSaid : Prop := hostsReadWhatIsWrittenUptoRow.holds Tryd.pinned (OpenSpec.upto hostsReadWhatIsWrittenSpec)

end Rows
end Go.Proofs.YtegeegibnckkkaaDoor
