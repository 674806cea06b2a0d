/-
  No cell of these rows narrows 'for every input' (looked for: loops, veiled, ifaces, maps, wideKeys, modest, calm, conditions, laid).
  DERIVED. THE GIVEN ROWS OF THIS SEAT. 5 by the template 'for every input the law returns true; each argument reads behind the call as it read before'; 0 by the template 'total and deterministic' (their statements: YtpgaobdgohlegaaTotals.lean).
  GIVEN WITH THE SEED: the statements are not yours to turn. If you find one false, say at which input.
  Laid BY PROGRAM, IN A SANDBOX (cutbox-rows.mjs): the forced cells as the released guide's own fill.sh prints them over the translation 1dc9b0a1e70e2aac… (all of the seat's roots in one cut). By AI agents, Wed Nov 11 2026. No macro, syntax, notation, axiom, sorry.
-/
import Derived.Test.YtpgaobdgohlegaaChecked
import GoSem.Claim
import GoSem.ClaimJoined
import GoSem.ClaimMapViews
import Derived.JoinedTies
import Derived.KernelRfl
namespace Go.Proofs.Ytpgaobdgohlegaa
/- THE CELL 'sum', in the pinned program and in every row, IS THE sha256 OF THE DUMP (.gsa) THAT YtpgaobdgohlegaaProg.lean LOADS. Nothing in Lean hashes anything: it is a label: what it is worth is what the hold of that sum in a sandbox is worth. -/
noncomputable def Try.pinned : Pinned := { name := "ytpgaobdgohlegaa", sum := "1dc9b0a1e70e2aac5129dc735e21b5f08314b4dd593216f914c3af62f8930541", checked := Try.checked }
namespace Rows
def none {H : Type} : Left H := { results := [], args := [] }

/-- 'posthouselaw5.ClassifyScoreMatchesSpec': WHATEVER THE INPUT: true; the input reads as it did. -/
def classifyScoreMatchesSpecSpec : ChangeSpec := { name := "classifyScoreMatchesSpec", fn := fun _ => fun
  | [d1, d2] => { results := [.lit (.bool true)], args := [d1, d2] }
  | _ => none }
def classifyScoreMatchesSpecRow : OpenClaim := { program := "ytpgaobdgohlegaa", sum := "1dc9b0a1e70e2aac5129dc735e21b5f08314b4dd593216f914c3af62f8930541", func := "posthouse/posthouselaw5.ClassifyScoreMatchesSpec", spec := "classifyScoreMatchesSpec", inPlace := ["internal/bytealg.abigen_runtime_cmpstring", "slices.overlaps[posthouse/api.Token]"], unfollowed := true, recurses := true, apart := false }
def ClassifyScoreMatchesSpecSaid : Prop := classifyScoreMatchesSpecRow.holds Try.pinned (OpenSpec.ofChange classifyScoreMatchesSpecSpec)

/-- ITS FALSE NEIGHBOUR: 'it returns false'. Refute it at one input. -/
def classifyScoreMatchesSpecWrong : ChangeSpec := { name := "classifyScoreMatchesSpec", fn := fun _ => fun
  | [d1, d2] => { results := [.lit (.bool false)], args := [d1, d2] }
  | _ => none }
def ClassifyScoreMatchesSpecWrongFalsely : Prop := classifyScoreMatchesSpecRow.holds Try.pinned (OpenSpec.ofChange classifyScoreMatchesSpecWrong)

/-- 'posthouselaw5.ClassifyInAnyOrder': WHATEVER THE INPUT: true; the input reads as it did. -/
def classifyInAnyOrderSpec : ChangeSpec := { name := "classifyInAnyOrder", fn := fun _ => fun
  | [d1, d2, d3, d4, d5] => { results := [.lit (.bool true)], args := [d1, d2, d3, d4, d5] }
  | _ => none }
def classifyInAnyOrderRow : OpenClaim := { program := "ytpgaobdgohlegaa", sum := "1dc9b0a1e70e2aac5129dc735e21b5f08314b4dd593216f914c3af62f8930541", func := "posthouse/posthouselaw5.ClassifyInAnyOrder", spec := "classifyInAnyOrder", inPlace := ["internal/bytealg.abigen_runtime_cmpstring", "slices.overlaps[posthouse/api.Token]"], unfollowed := true, recurses := true, apart := false }
def ClassifyInAnyOrderSaid : Prop := classifyInAnyOrderRow.holds Try.pinned (OpenSpec.ofChange classifyInAnyOrderSpec)

/-- ITS FALSE NEIGHBOUR: 'it returns false'. Refute it at one input. -/
def classifyInAnyOrderWrong : ChangeSpec := { name := "classifyInAnyOrder", fn := fun _ => fun
  | [d1, d2, d3, d4, d5] => { results := [.lit (.bool false)], args := [d1, d2, d3, d4, d5] }
  | _ => none }
def ClassifyInAnyOrderWrongFalsely : Prop := classifyInAnyOrderRow.holds Try.pinned (OpenSpec.ofChange classifyInAnyOrderWrong)

/-- 'posthouselaw5.ClassifyLearnsTheSide': WHATEVER THE INPUT: true; the input reads as it did. -/
def classifyLearnsTheSideSpec : ChangeSpec := { name := "classifyLearnsTheSide", fn := fun _ => fun
  | [d1, d2] => { results := [.lit (.bool true)], args := [d1, d2] }
  | _ => none }
def classifyLearnsTheSideRow : OpenClaim := { program := "ytpgaobdgohlegaa", sum := "1dc9b0a1e70e2aac5129dc735e21b5f08314b4dd593216f914c3af62f8930541", func := "posthouse/posthouselaw5.ClassifyLearnsTheSide", spec := "classifyLearnsTheSide", inPlace := ["internal/bytealg.abigen_runtime_cmpstring", "slices.overlaps[posthouse/api.Token]"], unfollowed := true, recurses := true, apart := false }
def ClassifyLearnsTheSideSaid : Prop := classifyLearnsTheSideRow.holds Try.pinned (OpenSpec.ofChange classifyLearnsTheSideSpec)

/-- ITS FALSE NEIGHBOUR: 'it returns false'. Refute it at one input. -/
def classifyLearnsTheSideWrong : ChangeSpec := { name := "classifyLearnsTheSide", fn := fun _ => fun
  | [d1, d2] => { results := [.lit (.bool false)], args := [d1, d2] }
  | _ => none }
def ClassifyLearnsTheSideWrongFalsely : Prop := classifyLearnsTheSideRow.holds Try.pinned (OpenSpec.ofChange classifyLearnsTheSideWrong)

/-- 'posthouselaw5.ClassifyMatchesSpec': WHATEVER THE INPUT: true; the input reads as it did. -/
def classifyMatchesSpecSpec : ChangeSpec := { name := "classifyMatchesSpec", fn := fun _ => fun
  | [d1, d2, d3] => { results := [.lit (.bool true)], args := [d1, d2, d3] }
  | _ => none }
def classifyMatchesSpecRow : OpenClaim := { program := "ytpgaobdgohlegaa", sum := "1dc9b0a1e70e2aac5129dc735e21b5f08314b4dd593216f914c3af62f8930541", func := "posthouse/posthouselaw5.ClassifyMatchesSpec", spec := "classifyMatchesSpec", inPlace := ["internal/bytealg.abigen_runtime_cmpstring", "slices.overlaps[posthouse/api.Token]"], unfollowed := true, recurses := true, apart := false }
def ClassifyMatchesSpecSaid : Prop := classifyMatchesSpecRow.holds Try.pinned (OpenSpec.ofChange classifyMatchesSpecSpec)

/-- ITS FALSE NEIGHBOUR: 'it returns false'. Refute it at one input. -/
def classifyMatchesSpecWrong : ChangeSpec := { name := "classifyMatchesSpec", fn := fun _ => fun
  | [d1, d2, d3] => { results := [.lit (.bool false)], args := [d1, d2, d3] }
  | _ => none }
def ClassifyMatchesSpecWrongFalsely : Prop := classifyMatchesSpecRow.holds Try.pinned (OpenSpec.ofChange classifyMatchesSpecWrong)

/-- 'posthouselaw5.ClassifyForgets': WHATEVER THE INPUT: true; the input reads as it did. -/
def classifyForgetsSpec : ChangeSpec := { name := "classifyForgets", fn := fun _ => fun
  | [d1, d2, d3] => { results := [.lit (.bool true)], args := [d1, d2, d3] }
  | _ => none }
def classifyForgetsRow : OpenClaim := { program := "ytpgaobdgohlegaa", sum := "1dc9b0a1e70e2aac5129dc735e21b5f08314b4dd593216f914c3af62f8930541", func := "posthouse/posthouselaw5.ClassifyForgets", spec := "classifyForgets", inPlace := ["internal/bytealg.abigen_runtime_cmpstring", "slices.overlaps[posthouse/api.Token]"], unfollowed := true, recurses := true, apart := false }
def ClassifyForgetsSaid : Prop := classifyForgetsRow.holds Try.pinned (OpenSpec.ofChange classifyForgetsSpec)

/-- ITS FALSE NEIGHBOUR: 'it returns false'. Refute it at one input. -/
def classifyForgetsWrong : ChangeSpec := { name := "classifyForgets", fn := fun _ => fun
  | [d1, d2, d3] => { results := [.lit (.bool false)], args := [d1, d2, d3] }
  | _ => none }
def ClassifyForgetsWrongFalsely : Prop := classifyForgetsRow.holds Try.pinned (OpenSpec.ofChange classifyForgetsWrong)

/- THE SECOND FORM. 'bulk': how many values and letters a reading holds, each counted each time it is reached (what is shared counts as often as it is met; a slice's spare places count too). A statement '..UptoSaid' is the law's where the arguments, and the package variables that the reading takes, are together of bulk at most 1048576: NARROWER than '..Said'. Prove '..Said' where nothing that the law and all that it calls make is longer than what came in: it says more and counts as full. Else prove '..UptoSaid'. A law counts once. -/
mutual
def uptoBulk {H : Type} : DataW H → Nat
  | .lit (.string bytes) => bytes.length + 1
  | .lit _ => 1
  | .nil => 1
  | .ptr d => uptoBulk d + 1
  | .slice elems spare => uptoBulkAll elems + uptoBulkAll spare + 1
  | .agg parts => uptoBulkAll parts + 1
  | .iface _ d => uptoBulk d + 1
  | .map entries => uptoBulkEntries entries + 1
  | .held _ => 1
def uptoBulkAll {H : Type} : List (DataW H) → Nat
  | [] => 0
  | d :: r => uptoBulk d + uptoBulkAll r
def uptoBulkEntries {H : Type} : List (Lit × DataW H) → Nat
  | [] => 0
  | x :: r => uptoBulkEntry x + uptoBulkEntries r
def uptoBulkEntry {H : Type} : Lit × DataW H → Nat
  | (.string bytes, d) => bytes.length + uptoBulk d + 1
  | (_, d) => uptoBulk d + 1
 end
def uptoSmall : (H : Type) → List (DataW H) → Bool := fun _ ds => decide (uptoBulkAll ds ≤ 1048576)
def OpenSpec.upto (s : _root_.Go.ChangeSpec) : _root_.Go.OpenSpec := { _root_.Go.OpenSpec.ofChange s with cond := some uptoSmall }

/-- 'posthouselaw5.ClassifyScoreMatchesSpec', WHERE WHAT IT READS IS OF BULK AT MOST 1048576: true; the input reads as it did. -/
def classifyScoreMatchesSpecUptoRow : OpenClaim := { program := "ytpgaobdgohlegaa", sum := "1dc9b0a1e70e2aac5129dc735e21b5f08314b4dd593216f914c3af62f8930541", func := "posthouse/posthouselaw5.ClassifyScoreMatchesSpec", spec := "classifyScoreMatchesSpec", inPlace := ["internal/bytealg.abigen_runtime_cmpstring", "slices.overlaps[posthouse/api.Token]"], unfollowed := true, recurses := true, apart := false, narrowed := true }
def ClassifyScoreMatchesSpecUptoSaid : Prop := classifyScoreMatchesSpecUptoRow.holds Try.pinned (OpenSpec.upto classifyScoreMatchesSpecSpec)

/-- 'posthouselaw5.ClassifyInAnyOrder', WHERE WHAT IT READS IS OF BULK AT MOST 1048576: true; the input reads as it did. -/
def classifyInAnyOrderUptoRow : OpenClaim := { program := "ytpgaobdgohlegaa", sum := "1dc9b0a1e70e2aac5129dc735e21b5f08314b4dd593216f914c3af62f8930541", func := "posthouse/posthouselaw5.ClassifyInAnyOrder", spec := "classifyInAnyOrder", inPlace := ["internal/bytealg.abigen_runtime_cmpstring", "slices.overlaps[posthouse/api.Token]"], unfollowed := true, recurses := true, apart := false, narrowed := true }
def ClassifyInAnyOrderUptoSaid : Prop := classifyInAnyOrderUptoRow.holds Try.pinned (OpenSpec.upto classifyInAnyOrderSpec)

/-- 'posthouselaw5.ClassifyLearnsTheSide', WHERE WHAT IT READS IS OF BULK AT MOST 1048576: true; the input reads as it did. -/
def classifyLearnsTheSideUptoRow : OpenClaim := { program := "ytpgaobdgohlegaa", sum := "1dc9b0a1e70e2aac5129dc735e21b5f08314b4dd593216f914c3af62f8930541", func := "posthouse/posthouselaw5.ClassifyLearnsTheSide", spec := "classifyLearnsTheSide", inPlace := ["internal/bytealg.abigen_runtime_cmpstring", "slices.overlaps[posthouse/api.Token]"], unfollowed := true, recurses := true, apart := false, narrowed := true }
def ClassifyLearnsTheSideUptoSaid : Prop := classifyLearnsTheSideUptoRow.holds Try.pinned (OpenSpec.upto classifyLearnsTheSideSpec)

/-- 'posthouselaw5.ClassifyMatchesSpec', WHERE WHAT IT READS IS OF BULK AT MOST 1048576: true; the input reads as it did. -/
def classifyMatchesSpecUptoRow : OpenClaim := { program := "ytpgaobdgohlegaa", sum := "1dc9b0a1e70e2aac5129dc735e21b5f08314b4dd593216f914c3af62f8930541", func := "posthouse/posthouselaw5.ClassifyMatchesSpec", spec := "classifyMatchesSpec", inPlace := ["internal/bytealg.abigen_runtime_cmpstring", "slices.overlaps[posthouse/api.Token]"], unfollowed := true, recurses := true, apart := false, narrowed := true }
def ClassifyMatchesSpecUptoSaid : Prop := classifyMatchesSpecUptoRow.holds Try.pinned (OpenSpec.upto classifyMatchesSpecSpec)

/-- 'posthouselaw5.ClassifyForgets', WHERE WHAT IT READS IS OF BULK AT MOST 1048576: true; the input reads as it did. -/
def classifyForgetsUptoRow : OpenClaim := { program := "ytpgaobdgohlegaa", sum := "1dc9b0a1e70e2aac5129dc735e21b5f08314b4dd593216f914c3af62f8930541", func := "posthouse/posthouselaw5.ClassifyForgets", spec := "classifyForgets", inPlace := ["internal/bytealg.abigen_runtime_cmpstring", "slices.overlaps[posthouse/api.Token]"], unfollowed := true, recurses := true, apart := false, narrowed := true }
def ClassifyForgetsUptoSaid : Prop := classifyForgetsUptoRow.holds Try.pinned (OpenSpec.upto classifyForgetsSpec)

end Rows
end Go.Proofs.Ytpgaobdgohlegaa
