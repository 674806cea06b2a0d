/-
  No cell of these rows narrows 'for every input' (looked for: loops, veiled, ifaces, maps, wideKeys, modest, calm, conditions, laid).
  DERIVED. THE GIVEN ROWS OF THIS SEAT. 4 by the template 'for every input the law returns true; each argument reads behind the call as it read before'; 0 by the template 'total and deterministic' (their statements: YthacpbjcgmbplaaTotals.lean).
  GIVEN WITH THE SEED: the statements are not yours to turn. If you find one false, say at which input.
  Laid BY PROGRAM, IN A SANDBOX (cutbox-rows.mjs): the forced cells as the released guide's own fill.sh prints them over the translation d93ddb4bbca4c8f9… (all of the seat's roots in one cut). By AI agents, Wed Nov 11 2026. No macro, syntax, notation, axiom, sorry.
-/
import Derived.Test.YthacpbjcgmbplaaChecked
import GoSem.Claim
import GoSem.ClaimJoined
import GoSem.ClaimMapViews
import Derived.JoinedTies
import Derived.KernelRfl
namespace Go.Proofs.Ythacpbjcgmbplaa
/- THE CELL 'sum', in the pinned program and in every row, IS THE sha256 OF THE DUMP (.gsa) THAT YthacpbjcgmbplaaProg.lean LOADS. Nothing in Lean hashes anything: it is a label: what it is worth is what the hold of that sum in a sandbox is worth. -/
noncomputable def Try.pinned : Pinned := { name := "ythacpbjcgmbplaa", sum := "d93ddb4bbca4c8f990a3e720e623c9e481bb17be351d942be0faea238299ce40", checked := Try.checked }
namespace Rows
def none {H : Type} : Left H := { results := [], args := [] }

/-- 'posthouselaw5.RatesMatchesSpec': WHATEVER THE INPUT: true; the input reads as it did. -/
def ratesMatchesSpecSpec : ChangeSpec := { name := "ratesMatchesSpec", fn := fun _ => fun
  | [d1, d2, d3, d4] => { results := [.lit (.bool true)], args := [d1, d2, d3, d4] }
  | _ => none }
def ratesMatchesSpecRow : OpenClaim := { program := "ythacpbjcgmbplaa", sum := "d93ddb4bbca4c8f990a3e720e623c9e481bb17be351d942be0faea238299ce40", func := "posthouse/posthouselaw5.RatesMatchesSpec", spec := "ratesMatchesSpec", inPlace := ["internal/bytealg.abigen_runtime_cmpstring", "slices.overlaps[posthouse/api.RateKey]"], unfollowed := true, recurses := true, apart := false }
def RatesMatchesSpecSaid : Prop := ratesMatchesSpecRow.holds Try.pinned (OpenSpec.ofChange ratesMatchesSpecSpec)

/-- ITS FALSE NEIGHBOUR: 'it returns false'. Refute it at one input. -/
def ratesMatchesSpecWrong : ChangeSpec := { name := "ratesMatchesSpec", fn := fun _ => fun
  | [d1, d2, d3, d4] => { results := [.lit (.bool false)], args := [d1, d2, d3, d4] }
  | _ => none }
def RatesMatchesSpecWrongFalsely : Prop := ratesMatchesSpecRow.holds Try.pinned (OpenSpec.ofChange ratesMatchesSpecWrong)

/-- 'posthouselaw5.RatesKeepTheLimit': WHATEVER THE INPUT: true; the input reads as it did. -/
def ratesKeepTheLimitSpec : ChangeSpec := { name := "ratesKeepTheLimit", fn := fun _ => fun
  | [d1, d2, d3] => { results := [.lit (.bool true)], args := [d1, d2, d3] }
  | _ => none }
def ratesKeepTheLimitRow : OpenClaim := { program := "ythacpbjcgmbplaa", sum := "d93ddb4bbca4c8f990a3e720e623c9e481bb17be351d942be0faea238299ce40", func := "posthouse/posthouselaw5.RatesKeepTheLimit", spec := "ratesKeepTheLimit", inPlace := ["internal/bytealg.abigen_runtime_cmpstring", "slices.overlaps[posthouse/api.RateKey]"], unfollowed := true, recurses := true, apart := false }
def RatesKeepTheLimitSaid : Prop := ratesKeepTheLimitRow.holds Try.pinned (OpenSpec.ofChange ratesKeepTheLimitSpec)

/-- ITS FALSE NEIGHBOUR: 'it returns false'. Refute it at one input. -/
def ratesKeepTheLimitWrong : ChangeSpec := { name := "ratesKeepTheLimit", fn := fun _ => fun
  | [d1, d2, d3] => { results := [.lit (.bool false)], args := [d1, d2, d3] }
  | _ => none }
def RatesKeepTheLimitWrongFalsely : Prop := ratesKeepTheLimitRow.holds Try.pinned (OpenSpec.ofChange ratesKeepTheLimitWrong)

/-- 'posthouselaw5.RatesPermitWhatFits': WHATEVER THE INPUT: true; the input reads as it did. -/
def ratesPermitWhatFitsSpec : ChangeSpec := { name := "ratesPermitWhatFits", fn := fun _ => fun
  | [d1, d2, d3] => { results := [.lit (.bool true)], args := [d1, d2, d3] }
  | _ => none }
def ratesPermitWhatFitsRow : OpenClaim := { program := "ythacpbjcgmbplaa", sum := "d93ddb4bbca4c8f990a3e720e623c9e481bb17be351d942be0faea238299ce40", func := "posthouse/posthouselaw5.RatesPermitWhatFits", spec := "ratesPermitWhatFits", inPlace := ["internal/bytealg.abigen_runtime_cmpstring", "slices.overlaps[posthouse/api.RateKey]"], unfollowed := true, recurses := true, apart := false }
def RatesPermitWhatFitsSaid : Prop := ratesPermitWhatFitsRow.holds Try.pinned (OpenSpec.ofChange ratesPermitWhatFitsSpec)

/-- ITS FALSE NEIGHBOUR: 'it returns false'. Refute it at one input. -/
def ratesPermitWhatFitsWrong : ChangeSpec := { name := "ratesPermitWhatFits", fn := fun _ => fun
  | [d1, d2, d3] => { results := [.lit (.bool false)], args := [d1, d2, d3] }
  | _ => none }
def RatesPermitWhatFitsWrongFalsely : Prop := ratesPermitWhatFitsRow.holds Try.pinned (OpenSpec.ofChange ratesPermitWhatFitsWrong)

/-- 'posthouselaw5.RatesAreApart': WHATEVER THE INPUT: true; the input reads as it did. -/
def ratesAreApartSpec : ChangeSpec := { name := "ratesAreApart", fn := fun _ => fun
  | [d1, d2, d3, d4, d5, d6] => { results := [.lit (.bool true)], args := [d1, d2, d3, d4, d5, d6] }
  | _ => none }
def ratesAreApartRow : OpenClaim := { program := "ythacpbjcgmbplaa", sum := "d93ddb4bbca4c8f990a3e720e623c9e481bb17be351d942be0faea238299ce40", func := "posthouse/posthouselaw5.RatesAreApart", spec := "ratesAreApart", inPlace := ["internal/bytealg.abigen_runtime_cmpstring", "slices.overlaps[posthouse/api.RateKey]"], unfollowed := true, recurses := true, apart := false }
def RatesAreApartSaid : Prop := ratesAreApartRow.holds Try.pinned (OpenSpec.ofChange ratesAreApartSpec)

/-- ITS FALSE NEIGHBOUR: 'it returns false'. Refute it at one input. -/
def ratesAreApartWrong : ChangeSpec := { name := "ratesAreApart", fn := fun _ => fun
  | [d1, d2, d3, d4, d5, d6] => { results := [.lit (.bool false)], args := [d1, d2, d3, d4, d5, d6] }
  | _ => none }
def RatesAreApartWrongFalsely : Prop := ratesAreApartRow.holds Try.pinned (OpenSpec.ofChange ratesAreApartWrong)

/- THE SECOND FORM. 'bulk': how many values and letters a reading holds, each counted each time it is reached (what is shared counts as often as it is met; a slice's spare places count too). A statement '..UptoSaid' is the law's where the arguments, and the package variables that the reading takes, are together of bulk at most 1048576: NARROWER than '..Said'. Prove '..Said' where nothing that the law and all that it calls make is longer than what came in: it says more and counts as full. Else prove '..UptoSaid'. A law counts once. -/
mutual
def uptoBulk {H : Type} : DataW H → Nat
  | .lit (.string bytes) => bytes.length + 1
  | .lit _ => 1
  | .nil => 1
  | .ptr d => uptoBulk d + 1
  | .slice elems spare => uptoBulkAll elems + uptoBulkAll spare + 1
  | .agg parts => uptoBulkAll parts + 1
  | .iface _ d => uptoBulk d + 1
  | .map entries => uptoBulkEntries entries + 1
  | .held _ => 1
def uptoBulkAll {H : Type} : List (DataW H) → Nat
  | [] => 0
  | d :: r => uptoBulk d + uptoBulkAll r
def uptoBulkEntries {H : Type} : List (Lit × DataW H) → Nat
  | [] => 0
  | x :: r => uptoBulkEntry x + uptoBulkEntries r
def uptoBulkEntry {H : Type} : Lit × DataW H → Nat
  | (.string bytes, d) => bytes.length + uptoBulk d + 1
  | (_, d) => uptoBulk d + 1
 end
def uptoSmall : (H : Type) → List (DataW H) → Bool := fun _ ds => decide (uptoBulkAll ds ≤ 1048576)
def OpenSpec.upto (s : _root_.Go.ChangeSpec) : _root_.Go.OpenSpec := { _root_.Go.OpenSpec.ofChange s with cond := some uptoSmall }

/-- 'posthouselaw5.RatesMatchesSpec', WHERE WHAT IT READS IS OF BULK AT MOST 1048576: true; the input reads as it did. -/
def ratesMatchesSpecUptoRow : OpenClaim := { program := "ythacpbjcgmbplaa", sum := "d93ddb4bbca4c8f990a3e720e623c9e481bb17be351d942be0faea238299ce40", func := "posthouse/posthouselaw5.RatesMatchesSpec", spec := "ratesMatchesSpec", inPlace := ["internal/bytealg.abigen_runtime_cmpstring", "slices.overlaps[posthouse/api.RateKey]"], unfollowed := true, recurses := true, apart := false, narrowed := true }
def RatesMatchesSpecUptoSaid : Prop := ratesMatchesSpecUptoRow.holds Try.pinned (OpenSpec.upto ratesMatchesSpecSpec)

/-- 'posthouselaw5.RatesKeepTheLimit', WHERE WHAT IT READS IS OF BULK AT MOST 1048576: true; the input reads as it did. -/
def ratesKeepTheLimitUptoRow : OpenClaim := { program := "ythacpbjcgmbplaa", sum := "d93ddb4bbca4c8f990a3e720e623c9e481bb17be351d942be0faea238299ce40", func := "posthouse/posthouselaw5.RatesKeepTheLimit", spec := "ratesKeepTheLimit", inPlace := ["internal/bytealg.abigen_runtime_cmpstring", "slices.overlaps[posthouse/api.RateKey]"], unfollowed := true, recurses := true, apart := false, narrowed := true }
def RatesKeepTheLimitUptoSaid : Prop := ratesKeepTheLimitUptoRow.holds Try.pinned (OpenSpec.upto ratesKeepTheLimitSpec)

/-- 'posthouselaw5.RatesPermitWhatFits', WHERE WHAT IT READS IS OF BULK AT MOST 1048576: true; the input reads as it did. -/
def ratesPermitWhatFitsUptoRow : OpenClaim := { program := "ythacpbjcgmbplaa", sum := "d93ddb4bbca4c8f990a3e720e623c9e481bb17be351d942be0faea238299ce40", func := "posthouse/posthouselaw5.RatesPermitWhatFits", spec := "ratesPermitWhatFits", inPlace := ["internal/bytealg.abigen_runtime_cmpstring", "slices.overlaps[posthouse/api.RateKey]"], unfollowed := true, recurses := true, apart := false, narrowed := true }
def RatesPermitWhatFitsUptoSaid : Prop := ratesPermitWhatFitsUptoRow.holds Try.pinned (OpenSpec.upto ratesPermitWhatFitsSpec)

/-- 'posthouselaw5.RatesAreApart', WHERE WHAT IT READS IS OF BULK AT MOST 1048576: true; the input reads as it did. -/
def ratesAreApartUptoRow : OpenClaim := { program := "ythacpbjcgmbplaa", sum := "d93ddb4bbca4c8f990a3e720e623c9e481bb17be351d942be0faea238299ce40", func := "posthouse/posthouselaw5.RatesAreApart", spec := "ratesAreApart", inPlace := ["internal/bytealg.abigen_runtime_cmpstring", "slices.overlaps[posthouse/api.RateKey]"], unfollowed := true, recurses := true, apart := false, narrowed := true }
def RatesAreApartUptoSaid : Prop := ratesAreApartUptoRow.holds Try.pinned (OpenSpec.upto ratesAreApartSpec)

end Rows
end Go.Proofs.Ythacpbjcgmbplaa
