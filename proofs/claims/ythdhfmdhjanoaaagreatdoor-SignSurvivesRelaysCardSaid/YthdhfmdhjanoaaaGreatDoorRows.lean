/-
  NARROWER THAN 'FOR EVERY INPUT', by the rows' own cells (each row's printed sentence says how): SignSumMatchesSpec: laid · SignMatchesSpec: laid · SignVerifyMatchesSpec: laid · SignIsVerified: laid · SignSurvivesRelays: laid · SignFindsChanges: laid · CustodySealMatchesSpec: laid · CustodyCheckMatchesSpec: laid · CustodyGrows: laid · CustodyNeedsAllSeals: laid · CustodyIgnoresOtherFields: laid.
  DERIVED. THE GIVEN ROWS OF THIS SEAT. 11 by the template 'for every input the law returns true; each argument reads behind the call as it read before'; 0 by the template 'total and deterministic' (their statements: YthdhfmdhjanoaaaGreatDoorTotals.lean).
  GIVEN WITH THE SEED: the statements are not yours to turn. If you find one false, say at which input.
  Laid BY PROGRAM, IN A SANDBOX (cutbox-rows.mjs): the forced cells as the released guide's own fill.sh prints them over the translation e630ccb5d1809dc9… (all of the seat's roots in one cut). By AI agents, Wed Nov 11 2026. No macro, syntax, notation, axiom, sorry.
-/
import Derived.Test.YthdhfmdhjanoaaaGreatDoorChecked
import GoSem.PinnedTables
import GoSem.Claim
import GoSem.ClaimJoined
import GoSem.ClaimMapViews
import Derived.JoinedTies
import Derived.KernelRfl
namespace Go.Proofs.YthdhfmdhjanoaaaGreatDoor
/- THE CELL 'sum', in the pinned program and in every row, IS THE sha256 OF THE DUMP (.gsa) THAT YthdhfmdhjanoaaaGreatDoorProg.lean LOADS. Nothing in Lean hashes anything: it is a label: what it is worth is what the hold of that sum in a sandbox is worth. -/
noncomputable def Tryz.pinned : Pinned := { name := "ythdhfmdhjanoaaagreatdoor", sum := "e630ccb5d1809dc957f55fce443c096b1deff3b54b6079643d2a875e18bfd97d", checked := Tryz.checked }
namespace Rows
def none {H : Type} : Left H := { results := [], args := [] }

/- WHAT THE LISTED PACKAGE-LEVEL VARIABLES READ AS WHEN THE CALL BEGINS. Each datum BY PROGRAM (the guide's laid-datum.mjs) off the statement by which the dump's own 'gosem.cut.vars' lays the variable. In a bare row this is a premise. The card (YthdhfmdhjanoaaaGreatDoorCards.lean) ties it to the program's text. -/
def laid_unicode_utf8_acceptRanges {H : Type} : DataW H := .agg [.agg [.lit (.int .u8 128), .lit (.int .u8 191)], .agg [.lit (.int .u8 160), .lit (.int .u8 191)], .agg [.lit (.int .u8 128), .lit (.int .u8 159)], .agg [.lit (.int .u8 144), .lit (.int .u8 191)], .agg [.lit (.int .u8 128), .lit (.int .u8 143)], .agg [.lit (.int .u8 0), .lit (.int .u8 0)], .agg [.lit (.int .u8 0), .lit (.int .u8 0)], .agg [.lit (.int .u8 0), .lit (.int .u8 0)], .agg [.lit (.int .u8 0), .lit (.int .u8 0)], .agg [.lit (.int .u8 0), .lit (.int .u8 0)], .agg [.lit (.int .u8 0), .lit (.int .u8 0)], .agg [.lit (.int .u8 0), .lit (.int .u8 0)], .agg [.lit (.int .u8 0), .lit (.int .u8 0)], .agg [.lit (.int .u8 0), .lit (.int .u8 0)], .agg [.lit (.int .u8 0), .lit (.int .u8 0)], .agg [.lit (.int .u8 0), .lit (.int .u8 0)]]
/-- One of Go's own tables, pinned by name: the form's constant. -/
def laid_unicode_utf8_first : DataW Unit := Go.Pinned.utf8First
def laid_math_bits_deBruijn32tab {H : Type} : DataW H := .agg [.lit (.int .u8 0), .lit (.int .u8 1), .lit (.int .u8 28), .lit (.int .u8 2), .lit (.int .u8 29), .lit (.int .u8 14), .lit (.int .u8 24), .lit (.int .u8 3), .lit (.int .u8 30), .lit (.int .u8 22), .lit (.int .u8 20), .lit (.int .u8 15), .lit (.int .u8 25), .lit (.int .u8 17), .lit (.int .u8 4), .lit (.int .u8 8), .lit (.int .u8 31), .lit (.int .u8 27), .lit (.int .u8 13), .lit (.int .u8 23), .lit (.int .u8 21), .lit (.int .u8 19), .lit (.int .u8 16), .lit (.int .u8 7), .lit (.int .u8 26), .lit (.int .u8 12), .lit (.int .u8 18), .lit (.int .u8 6), .lit (.int .u8 11), .lit (.int .u8 5), .lit (.int .u8 10), .lit (.int .u8 9)]
def laid_math_bits_deBruijn64tab {H : Type} : DataW H := .agg [.lit (.int .u8 0), .lit (.int .u8 1), .lit (.int .u8 56), .lit (.int .u8 2), .lit (.int .u8 57), .lit (.int .u8 49), .lit (.int .u8 28), .lit (.int .u8 3), .lit (.int .u8 61), .lit (.int .u8 58), .lit (.int .u8 42), .lit (.int .u8 50), .lit (.int .u8 38), .lit (.int .u8 29), .lit (.int .u8 17), .lit (.int .u8 4), .lit (.int .u8 62), .lit (.int .u8 47), .lit (.int .u8 59), .lit (.int .u8 36), .lit (.int .u8 45), .lit (.int .u8 43), .lit (.int .u8 51), .lit (.int .u8 22), .lit (.int .u8 53), .lit (.int .u8 39), .lit (.int .u8 33), .lit (.int .u8 30), .lit (.int .u8 24), .lit (.int .u8 18), .lit (.int .u8 12), .lit (.int .u8 5), .lit (.int .u8 63), .lit (.int .u8 55), .lit (.int .u8 48), .lit (.int .u8 27), .lit (.int .u8 60), .lit (.int .u8 41), .lit (.int .u8 37), .lit (.int .u8 16), .lit (.int .u8 46), .lit (.int .u8 35), .lit (.int .u8 44), .lit (.int .u8 21), .lit (.int .u8 52), .lit (.int .u8 32), .lit (.int .u8 23), .lit (.int .u8 11), .lit (.int .u8 54), .lit (.int .u8 26), .lit (.int .u8 40), .lit (.int .u8 15), .lit (.int .u8 34), .lit (.int .u8 20), .lit (.int .u8 31), .lit (.int .u8 10), .lit (.int .u8 25), .lit (.int .u8 14), .lit (.int .u8 19), .lit (.int .u8 9), .lit (.int .u8 13), .lit (.int .u8 8), .lit (.int .u8 7), .lit (.int .u8 6)]
def laid_internal_strconv_uint64pow10 {H : Type} : DataW H := .agg [.lit (.int .u64 1), .lit (.int .u64 10), .lit (.int .u64 100), .lit (.int .u64 1000), .lit (.int .u64 10000), .lit (.int .u64 100000), .lit (.int .u64 1000000), .lit (.int .u64 10000000), .lit (.int .u64 100000000), .lit (.int .u64 1000000000), .lit (.int .u64 10000000000), .lit (.int .u64 100000000000), .lit (.int .u64 1000000000000), .lit (.int .u64 10000000000000), .lit (.int .u64 100000000000000), .lit (.int .u64 1000000000000000), .lit (.int .u64 10000000000000000), .lit (.int .u64 100000000000000000), .lit (.int .u64 1000000000000000000), .lit (.int .u64 10000000000000000000)]

/-- 'posthouselaw5.SignSumMatchesSpec': WHATEVER THE INPUT: true; the input reads as it did. -/
def signSumMatchesSpecSpec : ChangeSpec := { name := "signSumMatchesSpec", fn := fun _ => fun
  | [d1, d2] => { results := [.lit (.bool true)], args := [d1, d2] }
  | _ => none }
def signSumMatchesSpecRow : OpenClaim := { program := "ythdhfmdhjanoaaagreatdoor", sum := "e630ccb5d1809dc957f55fce443c096b1deff3b54b6079643d2a875e18bfd97d", func := "posthouse/posthouselaw5.SignSumMatchesSpec", spec := "signSumMatchesSpec", inPlace := ["internal/bytealg.IndexByteString", "internal/bytealg.IndexString", "internal/bytealg.IndexByte", "internal/bytealg.Index", "internal/abi.NoEscape", "internal/bytealg.MakeNoZero", "internal/bytealg.CountString"], unfollowed := true, recurses := true, named := ["unicode/utf8.first", "unicode/utf8.acceptRanges", "internal/bytealg.MaxLen"], apart := false, laid := [("unicode/utf8.acceptRanges", laid_unicode_utf8_acceptRanges), ("unicode/utf8.first", laid_unicode_utf8_first)] }
def SignSumMatchesSpecSaid : Prop := signSumMatchesSpecRow.holds Tryz.pinned (OpenSpec.ofChange signSumMatchesSpecSpec)

/-- ITS FALSE NEIGHBOUR: 'it returns false'. Refute it at one input. -/
def signSumMatchesSpecWrong : ChangeSpec := { name := "signSumMatchesSpec", fn := fun _ => fun
  | [d1, d2] => { results := [.lit (.bool false)], args := [d1, d2] }
  | _ => none }
def SignSumMatchesSpecWrongFalsely : Prop := signSumMatchesSpecRow.holds Tryz.pinned (OpenSpec.ofChange signSumMatchesSpecWrong)

/-- 'posthouselaw5.SignMatchesSpec': WHATEVER THE INPUT: true; the input reads as it did. -/
def signMatchesSpecSpec : ChangeSpec := { name := "signMatchesSpec", fn := fun _ => fun
  | [d1, d2, d3, d4] => { results := [.lit (.bool true)], args := [d1, d2, d3, d4] }
  | _ => none }
def signMatchesSpecRow : OpenClaim := { program := "ythdhfmdhjanoaaagreatdoor", sum := "e630ccb5d1809dc957f55fce443c096b1deff3b54b6079643d2a875e18bfd97d", func := "posthouse/posthouselaw5.SignMatchesSpec", spec := "signMatchesSpec", inPlace := ["internal/bytealg.IndexByteString", "internal/bytealg.IndexString", "internal/bytealg.IndexByte", "internal/bytealg.Index", "internal/abi.NoEscape", "internal/bytealg.MakeNoZero", "internal/bytealg.CountString"], unfollowed := true, recurses := true, named := ["unicode/utf8.first", "unicode/utf8.acceptRanges", "internal/bytealg.MaxLen"], apart := false, laid := [("unicode/utf8.acceptRanges", laid_unicode_utf8_acceptRanges), ("unicode/utf8.first", laid_unicode_utf8_first)] }
def SignMatchesSpecSaid : Prop := signMatchesSpecRow.holds Tryz.pinned (OpenSpec.ofChange signMatchesSpecSpec)

/-- ITS FALSE NEIGHBOUR: 'it returns false'. Refute it at one input. -/
def signMatchesSpecWrong : ChangeSpec := { name := "signMatchesSpec", fn := fun _ => fun
  | [d1, d2, d3, d4] => { results := [.lit (.bool false)], args := [d1, d2, d3, d4] }
  | _ => none }
def SignMatchesSpecWrongFalsely : Prop := signMatchesSpecRow.holds Tryz.pinned (OpenSpec.ofChange signMatchesSpecWrong)

/-- 'posthouselaw5.SignVerifyMatchesSpec': WHATEVER THE INPUT: true; the input reads as it did. -/
def signVerifyMatchesSpecSpec : ChangeSpec := { name := "signVerifyMatchesSpec", fn := fun _ => fun
  | [d1, d2] => { results := [.lit (.bool true)], args := [d1, d2] }
  | _ => none }
def signVerifyMatchesSpecRow : OpenClaim := { program := "ythdhfmdhjanoaaagreatdoor", sum := "e630ccb5d1809dc957f55fce443c096b1deff3b54b6079643d2a875e18bfd97d", func := "posthouse/posthouselaw5.SignVerifyMatchesSpec", spec := "signVerifyMatchesSpec", inPlace := ["internal/bytealg.IndexByteString", "internal/bytealg.IndexString", "internal/bytealg.CountString", "internal/bytealg.IndexByte", "internal/bytealg.Index", "internal/abi.NoEscape", "internal/bytealg.MakeNoZero"], unfollowed := true, recurses := true, named := ["unicode/utf8.first", "unicode/utf8.acceptRanges", "internal/bytealg.MaxLen"], apart := false, laid := [("unicode/utf8.acceptRanges", laid_unicode_utf8_acceptRanges), ("unicode/utf8.first", laid_unicode_utf8_first)] }
def SignVerifyMatchesSpecSaid : Prop := signVerifyMatchesSpecRow.holds Tryz.pinned (OpenSpec.ofChange signVerifyMatchesSpecSpec)

/-- ITS FALSE NEIGHBOUR: 'it returns false'. Refute it at one input. -/
def signVerifyMatchesSpecWrong : ChangeSpec := { name := "signVerifyMatchesSpec", fn := fun _ => fun
  | [d1, d2] => { results := [.lit (.bool false)], args := [d1, d2] }
  | _ => none }
def SignVerifyMatchesSpecWrongFalsely : Prop := signVerifyMatchesSpecRow.holds Tryz.pinned (OpenSpec.ofChange signVerifyMatchesSpecWrong)

/-- 'posthouselaw5.SignIsVerified': WHATEVER THE INPUT: true; the input reads as it did. -/
def signIsVerifiedSpec : ChangeSpec := { name := "signIsVerified", fn := fun _ => fun
  | [d1, d2, d3, d4, d5] => { results := [.lit (.bool true)], args := [d1, d2, d3, d4, d5] }
  | _ => none }
def signIsVerifiedRow : OpenClaim := { program := "ythdhfmdhjanoaaagreatdoor", sum := "e630ccb5d1809dc957f55fce443c096b1deff3b54b6079643d2a875e18bfd97d", func := "posthouse/posthouselaw5.SignIsVerified", spec := "signIsVerified", inPlace := ["internal/bytealg.IndexByteString", "internal/bytealg.IndexString", "internal/bytealg.IndexByte", "internal/bytealg.Index", "internal/abi.NoEscape", "internal/bytealg.MakeNoZero", "internal/bytealg.CountString"], unfollowed := true, recurses := true, named := ["unicode/utf8.first", "unicode/utf8.acceptRanges", "internal/bytealg.MaxLen"], apart := false, laid := [("unicode/utf8.acceptRanges", laid_unicode_utf8_acceptRanges), ("unicode/utf8.first", laid_unicode_utf8_first)] }
def SignIsVerifiedSaid : Prop := signIsVerifiedRow.holds Tryz.pinned (OpenSpec.ofChange signIsVerifiedSpec)

/-- ITS FALSE NEIGHBOUR: 'it returns false'. Refute it at one input. -/
def signIsVerifiedWrong : ChangeSpec := { name := "signIsVerified", fn := fun _ => fun
  | [d1, d2, d3, d4, d5] => { results := [.lit (.bool false)], args := [d1, d2, d3, d4, d5] }
  | _ => none }
def SignIsVerifiedWrongFalsely : Prop := signIsVerifiedRow.holds Tryz.pinned (OpenSpec.ofChange signIsVerifiedWrong)

/-- 'posthouselaw5.SignSurvivesRelays': WHATEVER THE INPUT: true; the input reads as it did. -/
def signSurvivesRelaysSpec : ChangeSpec := { name := "signSurvivesRelays", fn := fun _ => fun
  | [d1, d2, d3, d4] => { results := [.lit (.bool true)], args := [d1, d2, d3, d4] }
  | _ => none }
def signSurvivesRelaysRow : OpenClaim := { program := "ythdhfmdhjanoaaagreatdoor", sum := "e630ccb5d1809dc957f55fce443c096b1deff3b54b6079643d2a875e18bfd97d", func := "posthouse/posthouselaw5.SignSurvivesRelays", spec := "signSurvivesRelays", inPlace := ["internal/bytealg.IndexByteString", "internal/bytealg.IndexString", "internal/bytealg.CountString", "internal/bytealg.IndexByte", "internal/bytealg.Index", "internal/abi.NoEscape", "internal/bytealg.MakeNoZero"], unfollowed := true, recurses := true, named := ["unicode/utf8.first", "unicode/utf8.acceptRanges", "internal/bytealg.MaxLen"], apart := false, laid := [("unicode/utf8.acceptRanges", laid_unicode_utf8_acceptRanges), ("unicode/utf8.first", laid_unicode_utf8_first)] }
def SignSurvivesRelaysSaid : Prop := signSurvivesRelaysRow.holds Tryz.pinned (OpenSpec.ofChange signSurvivesRelaysSpec)

/-- ITS FALSE NEIGHBOUR: 'it returns false'. Refute it at one input. -/
def signSurvivesRelaysWrong : ChangeSpec := { name := "signSurvivesRelays", fn := fun _ => fun
  | [d1, d2, d3, d4] => { results := [.lit (.bool false)], args := [d1, d2, d3, d4] }
  | _ => none }
def SignSurvivesRelaysWrongFalsely : Prop := signSurvivesRelaysRow.holds Tryz.pinned (OpenSpec.ofChange signSurvivesRelaysWrong)

/-- 'posthouselaw5.SignFindsChanges': WHATEVER THE INPUT: true; the input reads as it did. -/
def signFindsChangesSpec : ChangeSpec := { name := "signFindsChanges", fn := fun _ => fun
  | [d1, d2, d3, d4, d5] => { results := [.lit (.bool true)], args := [d1, d2, d3, d4, d5] }
  | _ => none }
def signFindsChangesRow : OpenClaim := { program := "ythdhfmdhjanoaaagreatdoor", sum := "e630ccb5d1809dc957f55fce443c096b1deff3b54b6079643d2a875e18bfd97d", func := "posthouse/posthouselaw5.SignFindsChanges", spec := "signFindsChanges", inPlace := ["internal/bytealg.IndexByteString", "internal/bytealg.IndexString", "internal/bytealg.IndexByte", "internal/bytealg.Index", "internal/abi.NoEscape", "internal/bytealg.MakeNoZero", "internal/bytealg.CountString"], unfollowed := true, recurses := true, named := ["unicode/utf8.first", "unicode/utf8.acceptRanges", "internal/bytealg.MaxLen"], apart := false, laid := [("unicode/utf8.acceptRanges", laid_unicode_utf8_acceptRanges), ("unicode/utf8.first", laid_unicode_utf8_first)] }
def SignFindsChangesSaid : Prop := signFindsChangesRow.holds Tryz.pinned (OpenSpec.ofChange signFindsChangesSpec)

/-- ITS FALSE NEIGHBOUR: 'it returns false'. Refute it at one input. -/
def signFindsChangesWrong : ChangeSpec := { name := "signFindsChanges", fn := fun _ => fun
  | [d1, d2, d3, d4, d5] => { results := [.lit (.bool false)], args := [d1, d2, d3, d4, d5] }
  | _ => none }
def SignFindsChangesWrongFalsely : Prop := signFindsChangesRow.holds Tryz.pinned (OpenSpec.ofChange signFindsChangesWrong)

/-- 'posthouselaw5.CustodySealMatchesSpec': WHATEVER THE INPUT: true; the input reads as it did. -/
def custodySealMatchesSpecSpec : ChangeSpec := { name := "custodySealMatchesSpec", fn := fun _ => fun
  | [d1, d2, d3, d4] => { results := [.lit (.bool true)], args := [d1, d2, d3, d4] }
  | _ => none }
def custodySealMatchesSpecRow : OpenClaim := { program := "ythdhfmdhjanoaaagreatdoor", sum := "e630ccb5d1809dc957f55fce443c096b1deff3b54b6079643d2a875e18bfd97d", func := "posthouse/posthouselaw5.CustodySealMatchesSpec", spec := "custodySealMatchesSpec", inPlace := ["internal/bytealg.IndexByteString", "internal/bytealg.IndexString", "internal/bytealg.IndexByte", "internal/bytealg.Index", "internal/abi.NoEscape", "internal/bytealg.MakeNoZero", "internal/bytealg.CountString"], unfollowed := true, recurses := true, named := ["unicode/utf8.first", "unicode/utf8.acceptRanges", "internal/bytealg.MaxLen", "internal/strconv.uint64pow10", "math/bits.deBruijn32tab", "math/bits.deBruijn64tab"], apart := false, laid := [("math/bits.deBruijn32tab", laid_math_bits_deBruijn32tab), ("math/bits.deBruijn64tab", laid_math_bits_deBruijn64tab), ("internal/strconv.uint64pow10", laid_internal_strconv_uint64pow10), ("unicode/utf8.acceptRanges", laid_unicode_utf8_acceptRanges), ("unicode/utf8.first", laid_unicode_utf8_first)] }
def CustodySealMatchesSpecSaid : Prop := custodySealMatchesSpecRow.holds Tryz.pinned (OpenSpec.ofChange custodySealMatchesSpecSpec)

/-- ITS FALSE NEIGHBOUR: 'it returns false'. Refute it at one input. -/
def custodySealMatchesSpecWrong : ChangeSpec := { name := "custodySealMatchesSpec", fn := fun _ => fun
  | [d1, d2, d3, d4] => { results := [.lit (.bool false)], args := [d1, d2, d3, d4] }
  | _ => none }
def CustodySealMatchesSpecWrongFalsely : Prop := custodySealMatchesSpecRow.holds Tryz.pinned (OpenSpec.ofChange custodySealMatchesSpecWrong)

/-- 'posthouselaw5.CustodyCheckMatchesSpec': WHATEVER THE INPUT: true; the input reads as it did. -/
def custodyCheckMatchesSpecSpec : ChangeSpec := { name := "custodyCheckMatchesSpec", fn := fun _ => fun
  | [d1, d2] => { results := [.lit (.bool true)], args := [d1, d2] }
  | _ => none }
def custodyCheckMatchesSpecRow : OpenClaim := { program := "ythdhfmdhjanoaaagreatdoor", sum := "e630ccb5d1809dc957f55fce443c096b1deff3b54b6079643d2a875e18bfd97d", func := "posthouse/posthouselaw5.CustodyCheckMatchesSpec", spec := "custodyCheckMatchesSpec", inPlace := ["internal/bytealg.IndexByteString", "internal/bytealg.IndexString", "internal/bytealg.IndexByte", "internal/bytealg.Index", "internal/abi.NoEscape", "internal/bytealg.MakeNoZero", "internal/bytealg.CountString"], unfollowed := true, recurses := true, named := ["unicode/utf8.first", "unicode/utf8.acceptRanges", "internal/bytealg.MaxLen", "internal/strconv.uint64pow10", "math/bits.deBruijn32tab", "math/bits.deBruijn64tab"], apart := false, laid := [("math/bits.deBruijn32tab", laid_math_bits_deBruijn32tab), ("math/bits.deBruijn64tab", laid_math_bits_deBruijn64tab), ("internal/strconv.uint64pow10", laid_internal_strconv_uint64pow10), ("unicode/utf8.acceptRanges", laid_unicode_utf8_acceptRanges), ("unicode/utf8.first", laid_unicode_utf8_first)] }
def CustodyCheckMatchesSpecSaid : Prop := custodyCheckMatchesSpecRow.holds Tryz.pinned (OpenSpec.ofChange custodyCheckMatchesSpecSpec)

/-- ITS FALSE NEIGHBOUR: 'it returns false'. Refute it at one input. -/
def custodyCheckMatchesSpecWrong : ChangeSpec := { name := "custodyCheckMatchesSpec", fn := fun _ => fun
  | [d1, d2] => { results := [.lit (.bool false)], args := [d1, d2] }
  | _ => none }
def CustodyCheckMatchesSpecWrongFalsely : Prop := custodyCheckMatchesSpecRow.holds Tryz.pinned (OpenSpec.ofChange custodyCheckMatchesSpecWrong)

/-- 'posthouselaw5.CustodyGrows': WHATEVER THE INPUT: true; the input reads as it did. -/
def custodyGrowsSpec : ChangeSpec := { name := "custodyGrows", fn := fun _ => fun
  | [d1, d2, d3, d4, d5] => { results := [.lit (.bool true)], args := [d1, d2, d3, d4, d5] }
  | _ => none }
def custodyGrowsRow : OpenClaim := { program := "ythdhfmdhjanoaaagreatdoor", sum := "e630ccb5d1809dc957f55fce443c096b1deff3b54b6079643d2a875e18bfd97d", func := "posthouse/posthouselaw5.CustodyGrows", spec := "custodyGrows", inPlace := ["internal/bytealg.IndexByteString", "internal/bytealg.IndexString", "internal/bytealg.IndexByte", "internal/bytealg.Index", "internal/abi.NoEscape", "internal/bytealg.MakeNoZero", "internal/bytealg.CountString"], unfollowed := true, recurses := true, named := ["unicode/utf8.first", "unicode/utf8.acceptRanges", "internal/bytealg.MaxLen", "internal/strconv.uint64pow10", "math/bits.deBruijn32tab", "math/bits.deBruijn64tab"], apart := false, laid := [("math/bits.deBruijn32tab", laid_math_bits_deBruijn32tab), ("math/bits.deBruijn64tab", laid_math_bits_deBruijn64tab), ("internal/strconv.uint64pow10", laid_internal_strconv_uint64pow10), ("unicode/utf8.acceptRanges", laid_unicode_utf8_acceptRanges), ("unicode/utf8.first", laid_unicode_utf8_first)] }
def CustodyGrowsSaid : Prop := custodyGrowsRow.holds Tryz.pinned (OpenSpec.ofChange custodyGrowsSpec)

/-- ITS FALSE NEIGHBOUR: 'it returns false'. Refute it at one input. -/
def custodyGrowsWrong : ChangeSpec := { name := "custodyGrows", fn := fun _ => fun
  | [d1, d2, d3, d4, d5] => { results := [.lit (.bool false)], args := [d1, d2, d3, d4, d5] }
  | _ => none }
def CustodyGrowsWrongFalsely : Prop := custodyGrowsRow.holds Tryz.pinned (OpenSpec.ofChange custodyGrowsWrong)

/-- 'posthouselaw5.CustodyNeedsAllSeals': WHATEVER THE INPUT: true; the input reads as it did. -/
def custodyNeedsAllSealsSpec : ChangeSpec := { name := "custodyNeedsAllSeals", fn := fun _ => fun
  | [d1, d2, d3] => { results := [.lit (.bool true)], args := [d1, d2, d3] }
  | _ => none }
def custodyNeedsAllSealsRow : OpenClaim := { program := "ythdhfmdhjanoaaagreatdoor", sum := "e630ccb5d1809dc957f55fce443c096b1deff3b54b6079643d2a875e18bfd97d", func := "posthouse/posthouselaw5.CustodyNeedsAllSeals", spec := "custodyNeedsAllSeals", inPlace := ["internal/bytealg.IndexByteString", "internal/bytealg.IndexString", "internal/bytealg.IndexByte", "internal/bytealg.Index", "internal/abi.NoEscape", "internal/bytealg.MakeNoZero", "internal/bytealg.CountString"], unfollowed := true, recurses := true, named := ["unicode/utf8.first", "unicode/utf8.acceptRanges", "internal/bytealg.MaxLen", "internal/strconv.uint64pow10", "math/bits.deBruijn32tab", "math/bits.deBruijn64tab"], apart := false, laid := [("math/bits.deBruijn32tab", laid_math_bits_deBruijn32tab), ("math/bits.deBruijn64tab", laid_math_bits_deBruijn64tab), ("internal/strconv.uint64pow10", laid_internal_strconv_uint64pow10), ("unicode/utf8.acceptRanges", laid_unicode_utf8_acceptRanges), ("unicode/utf8.first", laid_unicode_utf8_first)] }
def CustodyNeedsAllSealsSaid : Prop := custodyNeedsAllSealsRow.holds Tryz.pinned (OpenSpec.ofChange custodyNeedsAllSealsSpec)

/-- ITS FALSE NEIGHBOUR: 'it returns false'. Refute it at one input. -/
def custodyNeedsAllSealsWrong : ChangeSpec := { name := "custodyNeedsAllSeals", fn := fun _ => fun
  | [d1, d2, d3] => { results := [.lit (.bool false)], args := [d1, d2, d3] }
  | _ => none }
def CustodyNeedsAllSealsWrongFalsely : Prop := custodyNeedsAllSealsRow.holds Tryz.pinned (OpenSpec.ofChange custodyNeedsAllSealsWrong)

/-- 'posthouselaw5.CustodyIgnoresOtherFields': WHATEVER THE INPUT: true; the input reads as it did. -/
def custodyIgnoresOtherFieldsSpec : ChangeSpec := { name := "custodyIgnoresOtherFields", fn := fun _ => fun
  | [d1, d2] => { results := [.lit (.bool true)], args := [d1, d2] }
  | _ => none }
def custodyIgnoresOtherFieldsRow : OpenClaim := { program := "ythdhfmdhjanoaaagreatdoor", sum := "e630ccb5d1809dc957f55fce443c096b1deff3b54b6079643d2a875e18bfd97d", func := "posthouse/posthouselaw5.CustodyIgnoresOtherFields", spec := "custodyIgnoresOtherFields", inPlace := ["internal/bytealg.IndexByteString", "internal/bytealg.IndexString", "internal/bytealg.IndexByte", "internal/bytealg.Index", "internal/abi.NoEscape", "internal/bytealg.MakeNoZero", "internal/bytealg.CountString"], unfollowed := true, recurses := true, named := ["unicode/utf8.first", "unicode/utf8.acceptRanges", "internal/bytealg.MaxLen", "internal/strconv.uint64pow10", "math/bits.deBruijn32tab", "math/bits.deBruijn64tab"], apart := false, laid := [("math/bits.deBruijn32tab", laid_math_bits_deBruijn32tab), ("math/bits.deBruijn64tab", laid_math_bits_deBruijn64tab), ("internal/strconv.uint64pow10", laid_internal_strconv_uint64pow10), ("unicode/utf8.acceptRanges", laid_unicode_utf8_acceptRanges), ("unicode/utf8.first", laid_unicode_utf8_first)] }
def CustodyIgnoresOtherFieldsSaid : Prop := custodyIgnoresOtherFieldsRow.holds Tryz.pinned (OpenSpec.ofChange custodyIgnoresOtherFieldsSpec)

/-- ITS FALSE NEIGHBOUR: 'it returns false'. Refute it at one input. -/
def custodyIgnoresOtherFieldsWrong : ChangeSpec := { name := "custodyIgnoresOtherFields", fn := fun _ => fun
  | [d1, d2] => { results := [.lit (.bool false)], args := [d1, d2] }
  | _ => none }
def CustodyIgnoresOtherFieldsWrongFalsely : Prop := custodyIgnoresOtherFieldsRow.holds Tryz.pinned (OpenSpec.ofChange custodyIgnoresOtherFieldsWrong)

/- THE SECOND FORM. 'bulk': how many values and letters a reading holds, each counted each time it is reached (what is shared counts as often as it is met; a slice's spare places count too). A statement '..UptoSaid' is the law's where the arguments, and the package variables that the reading takes, are together of bulk at most 1048576: NARROWER than '..Said'. Prove '..Said' where nothing that the law and all that it calls make is longer than what came in: it says more and counts as full. Else prove '..UptoSaid'. A law counts once. -/
mutual
def uptoBulk {H : Type} : DataW H → Nat
  | .lit (.string bytes) => bytes.length + 1
  | .lit _ => 1
  | .nil => 1
  | .ptr d => uptoBulk d + 1
  | .slice elems spare => uptoBulkAll elems + uptoBulkAll spare + 1
  | .agg parts => uptoBulkAll parts + 1
  | .iface _ d => uptoBulk d + 1
  | .map entries => uptoBulkEntries entries + 1
  | .held _ => 1
def uptoBulkAll {H : Type} : List (DataW H) → Nat
  | [] => 0
  | d :: r => uptoBulk d + uptoBulkAll r
def uptoBulkEntries {H : Type} : List (Lit × DataW H) → Nat
  | [] => 0
  | x :: r => uptoBulkEntry x + uptoBulkEntries r
def uptoBulkEntry {H : Type} : Lit × DataW H → Nat
  | (.string bytes, d) => bytes.length + uptoBulk d + 1
  | (_, d) => uptoBulk d + 1
 end
def uptoSmall : (H : Type) → List (DataW H) → Bool := fun _ ds => decide (uptoBulkAll ds ≤ 1048576)
def OpenSpec.upto (s : _root_.Go.ChangeSpec) : _root_.Go.OpenSpec := { _root_.Go.OpenSpec.ofChange s with cond := some uptoSmall }

/-- 'posthouselaw5.SignSumMatchesSpec', WHERE WHAT IT READS IS OF BULK AT MOST 1048576: true; the input reads as it did. -/
def signSumMatchesSpecUptoRow : OpenClaim := { program := "ythdhfmdhjanoaaagreatdoor", sum := "e630ccb5d1809dc957f55fce443c096b1deff3b54b6079643d2a875e18bfd97d", func := "posthouse/posthouselaw5.SignSumMatchesSpec", spec := "signSumMatchesSpec", inPlace := ["internal/bytealg.IndexByteString", "internal/bytealg.IndexString", "internal/bytealg.IndexByte", "internal/bytealg.Index", "internal/abi.NoEscape", "internal/bytealg.MakeNoZero", "internal/bytealg.CountString"], unfollowed := true, recurses := true, named := ["unicode/utf8.first", "unicode/utf8.acceptRanges", "internal/bytealg.MaxLen"], apart := false, laid := [("unicode/utf8.acceptRanges", laid_unicode_utf8_acceptRanges), ("unicode/utf8.first", laid_unicode_utf8_first)], narrowed := true }
def SignSumMatchesSpecUptoSaid : Prop := signSumMatchesSpecUptoRow.holds Tryz.pinned (OpenSpec.upto signSumMatchesSpecSpec)

/-- 'posthouselaw5.SignMatchesSpec', WHERE WHAT IT READS IS OF BULK AT MOST 1048576: true; the input reads as it did. -/
def signMatchesSpecUptoRow : OpenClaim := { program := "ythdhfmdhjanoaaagreatdoor", sum := "e630ccb5d1809dc957f55fce443c096b1deff3b54b6079643d2a875e18bfd97d", func := "posthouse/posthouselaw5.SignMatchesSpec", spec := "signMatchesSpec", inPlace := ["internal/bytealg.IndexByteString", "internal/bytealg.IndexString", "internal/bytealg.IndexByte", "internal/bytealg.Index", "internal/abi.NoEscape", "internal/bytealg.MakeNoZero", "internal/bytealg.CountString"], unfollowed := true, recurses := true, named := ["unicode/utf8.first", "unicode/utf8.acceptRanges", "internal/bytealg.MaxLen"], apart := false, laid := [("unicode/utf8.acceptRanges", laid_unicode_utf8_acceptRanges), ("unicode/utf8.first", laid_unicode_utf8_first)], narrowed := true }
def SignMatchesSpecUptoSaid : Prop := signMatchesSpecUptoRow.holds Tryz.pinned (OpenSpec.upto signMatchesSpecSpec)

/-- 'posthouselaw5.SignVerifyMatchesSpec', WHERE WHAT IT READS IS OF BULK AT MOST 1048576: true; the input reads as it did. -/
def signVerifyMatchesSpecUptoRow : OpenClaim := { program := "ythdhfmdhjanoaaagreatdoor", sum := "e630ccb5d1809dc957f55fce443c096b1deff3b54b6079643d2a875e18bfd97d", func := "posthouse/posthouselaw5.SignVerifyMatchesSpec", spec := "signVerifyMatchesSpec", inPlace := ["internal/bytealg.IndexByteString", "internal/bytealg.IndexString", "internal/bytealg.CountString", "internal/bytealg.IndexByte", "internal/bytealg.Index", "internal/abi.NoEscape", "internal/bytealg.MakeNoZero"], unfollowed := true, recurses := true, named := ["unicode/utf8.first", "unicode/utf8.acceptRanges", "internal/bytealg.MaxLen"], apart := false, laid := [("unicode/utf8.acceptRanges", laid_unicode_utf8_acceptRanges), ("unicode/utf8.first", laid_unicode_utf8_first)], narrowed := true }
def SignVerifyMatchesSpecUptoSaid : Prop := signVerifyMatchesSpecUptoRow.holds Tryz.pinned (OpenSpec.upto signVerifyMatchesSpecSpec)

/-- 'posthouselaw5.SignIsVerified', WHERE WHAT IT READS IS OF BULK AT MOST 1048576: true; the input reads as it did. -/
def signIsVerifiedUptoRow : OpenClaim := { program := "ythdhfmdhjanoaaagreatdoor", sum := "e630ccb5d1809dc957f55fce443c096b1deff3b54b6079643d2a875e18bfd97d", func := "posthouse/posthouselaw5.SignIsVerified", spec := "signIsVerified", inPlace := ["internal/bytealg.IndexByteString", "internal/bytealg.IndexString", "internal/bytealg.IndexByte", "internal/bytealg.Index", "internal/abi.NoEscape", "internal/bytealg.MakeNoZero", "internal/bytealg.CountString"], unfollowed := true, recurses := true, named := ["unicode/utf8.first", "unicode/utf8.acceptRanges", "internal/bytealg.MaxLen"], apart := false, laid := [("unicode/utf8.acceptRanges", laid_unicode_utf8_acceptRanges), ("unicode/utf8.first", laid_unicode_utf8_first)], narrowed := true }
def SignIsVerifiedUptoSaid : Prop := signIsVerifiedUptoRow.holds Tryz.pinned (OpenSpec.upto signIsVerifiedSpec)

/-- 'posthouselaw5.SignSurvivesRelays', WHERE WHAT IT READS IS OF BULK AT MOST 1048576: true; the input reads as it did. -/
def signSurvivesRelaysUptoRow : OpenClaim := { program := "ythdhfmdhjanoaaagreatdoor", sum := "e630ccb5d1809dc957f55fce443c096b1deff3b54b6079643d2a875e18bfd97d", func := "posthouse/posthouselaw5.SignSurvivesRelays", spec := "signSurvivesRelays", inPlace := ["internal/bytealg.IndexByteString", "internal/bytealg.IndexString", "internal/bytealg.CountString", "internal/bytealg.IndexByte", "internal/bytealg.Index", "internal/abi.NoEscape", "internal/bytealg.MakeNoZero"], unfollowed := true, recurses := true, named := ["unicode/utf8.first", "unicode/utf8.acceptRanges", "internal/bytealg.MaxLen"], apart := false, laid := [("unicode/utf8.acceptRanges", laid_unicode_utf8_acceptRanges), ("unicode/utf8.first", laid_unicode_utf8_first)], narrowed := true }
def SignSurvivesRelaysUptoSaid : Prop := signSurvivesRelaysUptoRow.holds Tryz.pinned (OpenSpec.upto signSurvivesRelaysSpec)

/-- 'posthouselaw5.SignFindsChanges', WHERE WHAT IT READS IS OF BULK AT MOST 1048576: true; the input reads as it did. -/
def signFindsChangesUptoRow : OpenClaim := { program := "ythdhfmdhjanoaaagreatdoor", sum := "e630ccb5d1809dc957f55fce443c096b1deff3b54b6079643d2a875e18bfd97d", func := "posthouse/posthouselaw5.SignFindsChanges", spec := "signFindsChanges", inPlace := ["internal/bytealg.IndexByteString", "internal/bytealg.IndexString", "internal/bytealg.IndexByte", "internal/bytealg.Index", "internal/abi.NoEscape", "internal/bytealg.MakeNoZero", "internal/bytealg.CountString"], unfollowed := true, recurses := true, named := ["unicode/utf8.first", "unicode/utf8.acceptRanges", "internal/bytealg.MaxLen"], apart := false, laid := [("unicode/utf8.acceptRanges", laid_unicode_utf8_acceptRanges), ("unicode/utf8.first", laid_unicode_utf8_first)], narrowed := true }
def SignFindsChangesUptoSaid : Prop := signFindsChangesUptoRow.holds Tryz.pinned (OpenSpec.upto signFindsChangesSpec)

/-- 'posthouselaw5.CustodySealMatchesSpec', WHERE WHAT IT READS IS OF BULK AT MOST 1048576: true; the input reads as it did. -/
def custodySealMatchesSpecUptoRow : OpenClaim := { program := "ythdhfmdhjanoaaagreatdoor", sum := "e630ccb5d1809dc957f55fce443c096b1deff3b54b6079643d2a875e18bfd97d", func := "posthouse/posthouselaw5.CustodySealMatchesSpec", spec := "custodySealMatchesSpec", inPlace := ["internal/bytealg.IndexByteString", "internal/bytealg.IndexString", "internal/bytealg.IndexByte", "internal/bytealg.Index", "internal/abi.NoEscape", "internal/bytealg.MakeNoZero", "internal/bytealg.CountString"], unfollowed := true, recurses := true, named := ["unicode/utf8.first", "unicode/utf8.acceptRanges", "internal/bytealg.MaxLen", "internal/strconv.uint64pow10", "math/bits.deBruijn32tab", "math/bits.deBruijn64tab"], apart := false, laid := [("math/bits.deBruijn32tab", laid_math_bits_deBruijn32tab), ("math/bits.deBruijn64tab", laid_math_bits_deBruijn64tab), ("internal/strconv.uint64pow10", laid_internal_strconv_uint64pow10), ("unicode/utf8.acceptRanges", laid_unicode_utf8_acceptRanges), ("unicode/utf8.first", laid_unicode_utf8_first)], narrowed := true }
def CustodySealMatchesSpecUptoSaid : Prop := custodySealMatchesSpecUptoRow.holds Tryz.pinned (OpenSpec.upto custodySealMatchesSpecSpec)

/-- 'posthouselaw5.CustodyCheckMatchesSpec', WHERE WHAT IT READS IS OF BULK AT MOST 1048576: true; the input reads as it did. -/
def custodyCheckMatchesSpecUptoRow : OpenClaim := { program := "ythdhfmdhjanoaaagreatdoor", sum := "e630ccb5d1809dc957f55fce443c096b1deff3b54b6079643d2a875e18bfd97d", func := "posthouse/posthouselaw5.CustodyCheckMatchesSpec", spec := "custodyCheckMatchesSpec", inPlace := ["internal/bytealg.IndexByteString", "internal/bytealg.IndexString", "internal/bytealg.IndexByte", "internal/bytealg.Index", "internal/abi.NoEscape", "internal/bytealg.MakeNoZero", "internal/bytealg.CountString"], unfollowed := true, recurses := true, named := ["unicode/utf8.first", "unicode/utf8.acceptRanges", "internal/bytealg.MaxLen", "internal/strconv.uint64pow10", "math/bits.deBruijn32tab", "math/bits.deBruijn64tab"], apart := false, laid := [("math/bits.deBruijn32tab", laid_math_bits_deBruijn32tab), ("math/bits.deBruijn64tab", laid_math_bits_deBruijn64tab), ("internal/strconv.uint64pow10", laid_internal_strconv_uint64pow10), ("unicode/utf8.acceptRanges", laid_unicode_utf8_acceptRanges), ("unicode/utf8.first", laid_unicode_utf8_first)], narrowed := true }
def CustodyCheckMatchesSpecUptoSaid : Prop := custodyCheckMatchesSpecUptoRow.holds Tryz.pinned (OpenSpec.upto custodyCheckMatchesSpecSpec)

/-- 'posthouselaw5.CustodyGrows', WHERE WHAT IT READS IS OF BULK AT MOST 1048576: true; the input reads as it did. -/
def custodyGrowsUptoRow : OpenClaim := { program := "ythdhfmdhjanoaaagreatdoor", sum := "e630ccb5d1809dc957f55fce443c096b1deff3b54b6079643d2a875e18bfd97d", func := "posthouse/posthouselaw5.CustodyGrows", spec := "custodyGrows", inPlace := ["internal/bytealg.IndexByteString", "internal/bytealg.IndexString", "internal/bytealg.IndexByte", "internal/bytealg.Index", "internal/abi.NoEscape", "internal/bytealg.MakeNoZero", "internal/bytealg.CountString"], unfollowed := true, recurses := true, named := ["unicode/utf8.first", "unicode/utf8.acceptRanges", "internal/bytealg.MaxLen", "internal/strconv.uint64pow10", "math/bits.deBruijn32tab", "math/bits.deBruijn64tab"], apart := false, laid := [("math/bits.deBruijn32tab", laid_math_bits_deBruijn32tab), ("math/bits.deBruijn64tab", laid_math_bits_deBruijn64tab), ("internal/strconv.uint64pow10", laid_internal_strconv_uint64pow10), ("unicode/utf8.acceptRanges", laid_unicode_utf8_acceptRanges), ("unicode/utf8.first", laid_unicode_utf8_first)], narrowed := true }
def CustodyGrowsUptoSaid : Prop := custodyGrowsUptoRow.holds Tryz.pinned (OpenSpec.upto custodyGrowsSpec)

/-- 'posthouselaw5.CustodyNeedsAllSeals', WHERE WHAT IT READS IS OF BULK AT MOST 1048576: true; the input reads as it did. -/
def custodyNeedsAllSealsUptoRow : OpenClaim := { program := "ythdhfmdhjanoaaagreatdoor", sum := "e630ccb5d1809dc957f55fce443c096b1deff3b54b6079643d2a875e18bfd97d", func := "posthouse/posthouselaw5.CustodyNeedsAllSeals", spec := "custodyNeedsAllSeals", inPlace := ["internal/bytealg.IndexByteString", "internal/bytealg.IndexString", "internal/bytealg.IndexByte", "internal/bytealg.Index", "internal/abi.NoEscape", "internal/bytealg.MakeNoZero", "internal/bytealg.CountString"], unfollowed := true, recurses := true, named := ["unicode/utf8.first", "unicode/utf8.acceptRanges", "internal/bytealg.MaxLen", "internal/strconv.uint64pow10", "math/bits.deBruijn32tab", "math/bits.deBruijn64tab"], apart := false, laid := [("math/bits.deBruijn32tab", laid_math_bits_deBruijn32tab), ("math/bits.deBruijn64tab", laid_math_bits_deBruijn64tab), ("internal/strconv.uint64pow10", laid_internal_strconv_uint64pow10), ("unicode/utf8.acceptRanges", laid_unicode_utf8_acceptRanges), ("unicode/utf8.first", laid_unicode_utf8_first)], narrowed := true }
def CustodyNeedsAllSealsUptoSaid : Prop := custodyNeedsAllSealsUptoRow.holds Tryz.pinned (OpenSpec.upto custodyNeedsAllSealsSpec)

/-- 'posthouselaw5.CustodyIgnoresOtherFields', WHERE WHAT IT READS IS OF BULK AT MOST 1048576: true; the input reads as it did. -/
def custodyIgnoresOtherFieldsUptoRow : OpenClaim := { program := "ythdhfmdhjanoaaagreatdoor", sum := "e630ccb5d1809dc957f55fce443c096b1deff3b54b6079643d2a875e18bfd97d", func := "posthouse/posthouselaw5.CustodyIgnoresOtherFields", spec := "custodyIgnoresOtherFields", inPlace := ["internal/bytealg.IndexByteString", "internal/bytealg.IndexString", "internal/bytealg.IndexByte", "internal/bytealg.Index", "internal/abi.NoEscape", "internal/bytealg.MakeNoZero", "internal/bytealg.CountString"], unfollowed := true, recurses := true, named := ["unicode/utf8.first", "unicode/utf8.acceptRanges", "internal/bytealg.MaxLen", "internal/strconv.uint64pow10", "math/bits.deBruijn32tab", "math/bits.deBruijn64tab"], apart := false, laid := [("math/bits.deBruijn32tab", laid_math_bits_deBruijn32tab), ("math/bits.deBruijn64tab", laid_math_bits_deBruijn64tab), ("internal/strconv.uint64pow10", laid_internal_strconv_uint64pow10), ("unicode/utf8.acceptRanges", laid_unicode_utf8_acceptRanges), ("unicode/utf8.first", laid_unicode_utf8_first)], narrowed := true }
def CustodyIgnoresOtherFieldsUptoSaid : Prop := custodyIgnoresOtherFieldsUptoRow.holds Tryz.pinned (OpenSpec.upto custodyIgnoresOtherFieldsSpec)

end Rows
end Go.Proofs.YthdhfmdhjanoaaaGreatDoor
