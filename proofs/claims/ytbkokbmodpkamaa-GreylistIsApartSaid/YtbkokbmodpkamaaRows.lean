/-
  No cell of these rows narrows 'for every input' (looked for: loops, veiled, ifaces, maps, wideKeys, modest, calm, conditions, laid).
  DERIVED. THE GIVEN ROWS OF THIS SEAT. 4 by the template 'for every input the law returns true; each argument reads behind the call as it read before'; 0 by the template 'total and deterministic' (their statements: YtbkokbmodpkamaaTotals.lean).
  GIVEN WITH THE SEED: the statements are not yours to turn. If you find one false, say at which input.
  Laid BY PROGRAM, IN A SANDBOX (cutbox-rows.mjs): the forced cells as the released guide's own fill.sh prints them over the translation ea4af08a3f0acb78… (all of the seat's roots in one cut). By AI agents, Wed Nov 11 2026. No macro, syntax, notation, axiom, sorry.
-/
import Derived.Test.YtbkokbmodpkamaaChecked
import GoSem.Claim
import GoSem.ClaimJoined
import GoSem.ClaimMapViews
import Derived.JoinedTies
import Derived.KernelRfl
namespace Go.Proofs.Ytbkokbmodpkamaa
/- THE CELL 'sum', in the pinned program and in every row, IS THE sha256 OF THE DUMP (.gsa) THAT YtbkokbmodpkamaaProg.lean LOADS. Nothing in Lean hashes anything: it is a label: what it is worth is what the hold of that sum in a sandbox is worth. -/
noncomputable def Try.pinned : Pinned := { name := "ytbkokbmodpkamaa", sum := "ea4af08a3f0acb78382f820ec33568a867828ced2382e2313db35c28349006e7", checked := Try.checked }
namespace Rows
def none {H : Type} : Left H := { results := [], args := [] }

/-- 'posthouselaw5.GreylistMatchesSpec': WHATEVER THE INPUT: true; the input reads as it did. -/
def greylistMatchesSpecSpec : ChangeSpec := { name := "greylistMatchesSpec", fn := fun _ => fun
  | [d1, d2, d3, d4, d5] => { results := [.lit (.bool true)], args := [d1, d2, d3, d4, d5] }
  | _ => none }
def greylistMatchesSpecRow : OpenClaim := { program := "ytbkokbmodpkamaa", sum := "ea4af08a3f0acb78382f820ec33568a867828ced2382e2313db35c28349006e7", func := "posthouse/posthouselaw5.GreylistMatchesSpec", spec := "greylistMatchesSpec", inPlace := ["internal/bytealg.abigen_runtime_cmpstring", "slices.overlaps[posthouse/api.GreyEntry]"], unfollowed := true, recurses := true, apart := false }
def GreylistMatchesSpecSaid : Prop := greylistMatchesSpecRow.holds Try.pinned (OpenSpec.ofChange greylistMatchesSpecSpec)

/-- ITS FALSE NEIGHBOUR: 'it returns false'. Refute it at one input. -/
def greylistMatchesSpecWrong : ChangeSpec := { name := "greylistMatchesSpec", fn := fun _ => fun
  | [d1, d2, d3, d4, d5] => { results := [.lit (.bool false)], args := [d1, d2, d3, d4, d5] }
  | _ => none }
def GreylistMatchesSpecWrongFalsely : Prop := greylistMatchesSpecRow.holds Try.pinned (OpenSpec.ofChange greylistMatchesSpecWrong)

/-- 'posthouselaw5.GreylistAcceptsInTime': WHATEVER THE INPUT: true; the input reads as it did. -/
def greylistAcceptsInTimeSpec : ChangeSpec := { name := "greylistAcceptsInTime", fn := fun _ => fun
  | [d1, d2, d3, d4, d5, d6] => { results := [.lit (.bool true)], args := [d1, d2, d3, d4, d5, d6] }
  | _ => none }
def greylistAcceptsInTimeRow : OpenClaim := { program := "ytbkokbmodpkamaa", sum := "ea4af08a3f0acb78382f820ec33568a867828ced2382e2313db35c28349006e7", func := "posthouse/posthouselaw5.GreylistAcceptsInTime", spec := "greylistAcceptsInTime", inPlace := ["internal/bytealg.abigen_runtime_cmpstring", "slices.overlaps[posthouse/api.GreyEntry]"], unfollowed := true, recurses := true, apart := false }
def GreylistAcceptsInTimeSaid : Prop := greylistAcceptsInTimeRow.holds Try.pinned (OpenSpec.ofChange greylistAcceptsInTimeSpec)

/-- ITS FALSE NEIGHBOUR: 'it returns false'. Refute it at one input. -/
def greylistAcceptsInTimeWrong : ChangeSpec := { name := "greylistAcceptsInTime", fn := fun _ => fun
  | [d1, d2, d3, d4, d5, d6] => { results := [.lit (.bool false)], args := [d1, d2, d3, d4, d5, d6] }
  | _ => none }
def GreylistAcceptsInTimeWrongFalsely : Prop := greylistAcceptsInTimeRow.holds Try.pinned (OpenSpec.ofChange greylistAcceptsInTimeWrong)

/-- 'posthouselaw5.GreylistKeepsThoseWhoReturn': WHATEVER THE INPUT: true; the input reads as it did. -/
def greylistKeepsThoseWhoReturnSpec : ChangeSpec := { name := "greylistKeepsThoseWhoReturn", fn := fun _ => fun
  | [d1, d2, d3, d4, d5, d6] => { results := [.lit (.bool true)], args := [d1, d2, d3, d4, d5, d6] }
  | _ => none }
def greylistKeepsThoseWhoReturnRow : OpenClaim := { program := "ytbkokbmodpkamaa", sum := "ea4af08a3f0acb78382f820ec33568a867828ced2382e2313db35c28349006e7", func := "posthouse/posthouselaw5.GreylistKeepsThoseWhoReturn", spec := "greylistKeepsThoseWhoReturn", inPlace := ["internal/bytealg.abigen_runtime_cmpstring", "slices.overlaps[posthouse/api.GreyEntry]"], unfollowed := true, recurses := true, apart := false }
def GreylistKeepsThoseWhoReturnSaid : Prop := greylistKeepsThoseWhoReturnRow.holds Try.pinned (OpenSpec.ofChange greylistKeepsThoseWhoReturnSpec)

/-- ITS FALSE NEIGHBOUR: 'it returns false'. Refute it at one input. -/
def greylistKeepsThoseWhoReturnWrong : ChangeSpec := { name := "greylistKeepsThoseWhoReturn", fn := fun _ => fun
  | [d1, d2, d3, d4, d5, d6] => { results := [.lit (.bool false)], args := [d1, d2, d3, d4, d5, d6] }
  | _ => none }
def GreylistKeepsThoseWhoReturnWrongFalsely : Prop := greylistKeepsThoseWhoReturnRow.holds Try.pinned (OpenSpec.ofChange greylistKeepsThoseWhoReturnWrong)

/-- 'posthouselaw5.GreylistIsApart': WHATEVER THE INPUT: true; the input reads as it did. -/
def greylistIsApartSpec : ChangeSpec := { name := "greylistIsApart", fn := fun _ => fun
  | [d1, d2, d3, d4] => { results := [.lit (.bool true)], args := [d1, d2, d3, d4] }
  | _ => none }
def greylistIsApartRow : OpenClaim := { program := "ytbkokbmodpkamaa", sum := "ea4af08a3f0acb78382f820ec33568a867828ced2382e2313db35c28349006e7", func := "posthouse/posthouselaw5.GreylistIsApart", spec := "greylistIsApart", inPlace := ["internal/bytealg.abigen_runtime_cmpstring", "slices.overlaps[posthouse/api.GreyEntry]"], unfollowed := true, recurses := true, apart := false }
def GreylistIsApartSaid : Prop := greylistIsApartRow.holds Try.pinned (OpenSpec.ofChange greylistIsApartSpec)

/-- ITS FALSE NEIGHBOUR: 'it returns false'. Refute it at one input. -/
def greylistIsApartWrong : ChangeSpec := { name := "greylistIsApart", fn := fun _ => fun
  | [d1, d2, d3, d4] => { results := [.lit (.bool false)], args := [d1, d2, d3, d4] }
  | _ => none }
def GreylistIsApartWrongFalsely : Prop := greylistIsApartRow.holds Try.pinned (OpenSpec.ofChange greylistIsApartWrong)

/- THE SECOND FORM. 'bulk': how many values and letters a reading holds, each counted each time it is reached (what is shared counts as often as it is met; a slice's spare places count too). A statement '..UptoSaid' is the law's where the arguments, and the package variables that the reading takes, are together of bulk at most 1048576: NARROWER than '..Said'. Prove '..Said' where nothing that the law and all that it calls make is longer than what came in: it says more and counts as full. Else prove '..UptoSaid'. A law counts once. -/
mutual
def uptoBulk {H : Type} : DataW H → Nat
  | .lit (.string bytes) => bytes.length + 1
  | .lit _ => 1
  | .nil => 1
  | .ptr d => uptoBulk d + 1
  | .slice elems spare => uptoBulkAll elems + uptoBulkAll spare + 1
  | .agg parts => uptoBulkAll parts + 1
  | .iface _ d => uptoBulk d + 1
  | .map entries => uptoBulkEntries entries + 1
  | .held _ => 1
def uptoBulkAll {H : Type} : List (DataW H) → Nat
  | [] => 0
  | d :: r => uptoBulk d + uptoBulkAll r
def uptoBulkEntries {H : Type} : List (Lit × DataW H) → Nat
  | [] => 0
  | x :: r => uptoBulkEntry x + uptoBulkEntries r
def uptoBulkEntry {H : Type} : Lit × DataW H → Nat
  | (.string bytes, d) => bytes.length + uptoBulk d + 1
  | (_, d) => uptoBulk d + 1
 end
def uptoSmall : (H : Type) → List (DataW H) → Bool := fun _ ds => decide (uptoBulkAll ds ≤ 1048576)
def OpenSpec.upto (s : _root_.Go.ChangeSpec) : _root_.Go.OpenSpec := { _root_.Go.OpenSpec.ofChange s with cond := some uptoSmall }

/-- 'posthouselaw5.GreylistMatchesSpec', WHERE WHAT IT READS IS OF BULK AT MOST 1048576: true; the input reads as it did. -/
def greylistMatchesSpecUptoRow : OpenClaim := { program := "ytbkokbmodpkamaa", sum := "ea4af08a3f0acb78382f820ec33568a867828ced2382e2313db35c28349006e7", func := "posthouse/posthouselaw5.GreylistMatchesSpec", spec := "greylistMatchesSpec", inPlace := ["internal/bytealg.abigen_runtime_cmpstring", "slices.overlaps[posthouse/api.GreyEntry]"], unfollowed := true, recurses := true, apart := false, narrowed := true }
def GreylistMatchesSpecUptoSaid : Prop := greylistMatchesSpecUptoRow.holds Try.pinned (OpenSpec.upto greylistMatchesSpecSpec)

/-- 'posthouselaw5.GreylistAcceptsInTime', WHERE WHAT IT READS IS OF BULK AT MOST 1048576: true; the input reads as it did. -/
def greylistAcceptsInTimeUptoRow : OpenClaim := { program := "ytbkokbmodpkamaa", sum := "ea4af08a3f0acb78382f820ec33568a867828ced2382e2313db35c28349006e7", func := "posthouse/posthouselaw5.GreylistAcceptsInTime", spec := "greylistAcceptsInTime", inPlace := ["internal/bytealg.abigen_runtime_cmpstring", "slices.overlaps[posthouse/api.GreyEntry]"], unfollowed := true, recurses := true, apart := false, narrowed := true }
def GreylistAcceptsInTimeUptoSaid : Prop := greylistAcceptsInTimeUptoRow.holds Try.pinned (OpenSpec.upto greylistAcceptsInTimeSpec)

/-- 'posthouselaw5.GreylistKeepsThoseWhoReturn', WHERE WHAT IT READS IS OF BULK AT MOST 1048576: true; the input reads as it did. -/
def greylistKeepsThoseWhoReturnUptoRow : OpenClaim := { program := "ytbkokbmodpkamaa", sum := "ea4af08a3f0acb78382f820ec33568a867828ced2382e2313db35c28349006e7", func := "posthouse/posthouselaw5.GreylistKeepsThoseWhoReturn", spec := "greylistKeepsThoseWhoReturn", inPlace := ["internal/bytealg.abigen_runtime_cmpstring", "slices.overlaps[posthouse/api.GreyEntry]"], unfollowed := true, recurses := true, apart := false, narrowed := true }
def GreylistKeepsThoseWhoReturnUptoSaid : Prop := greylistKeepsThoseWhoReturnUptoRow.holds Try.pinned (OpenSpec.upto greylistKeepsThoseWhoReturnSpec)

/-- 'posthouselaw5.GreylistIsApart', WHERE WHAT IT READS IS OF BULK AT MOST 1048576: true; the input reads as it did. -/
def greylistIsApartUptoRow : OpenClaim := { program := "ytbkokbmodpkamaa", sum := "ea4af08a3f0acb78382f820ec33568a867828ced2382e2313db35c28349006e7", func := "posthouse/posthouselaw5.GreylistIsApart", spec := "greylistIsApart", inPlace := ["internal/bytealg.abigen_runtime_cmpstring", "slices.overlaps[posthouse/api.GreyEntry]"], unfollowed := true, recurses := true, apart := false, narrowed := true }
def GreylistIsApartUptoSaid : Prop := greylistIsApartUptoRow.holds Try.pinned (OpenSpec.upto greylistIsApartSpec)

end Rows
end Go.Proofs.Ytbkokbmodpkamaa
