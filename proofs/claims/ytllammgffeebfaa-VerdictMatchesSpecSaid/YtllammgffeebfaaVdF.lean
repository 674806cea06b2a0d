/-
  A mail without blemish is accepted; the law of the reasons.
-/
import Derived.Test.YtllammgffeebfaaVdE
namespace Go.Proofs.Ytllammgffeebfaa
open Go.Ev

noncomputable def G8 : Env := ⟨[(7, F7), (17, F17), (16, F16), (15, evF Try.prog G0 [] Try.f15), (13, F13), (14, evF Try.prog G0 [] Try.f14), (20, evF Try.prog G0 [] Try.f20), (22, evF Try.prog G0 [] Try.f22), (23, evF Try.prog G0 [] Try.f23), (21, F21)], [(18, F18)], false, false⟩
theorem g8 : GOK Try.prog G8 := GOK.also g7 ok7
def F9 : Summ := fun _ avs k => match avs with
  | [] => k (.bool true)
  | _ => none
theorem ok9 : SumOK Try.prog 9 F9 ∧ SNat F9 := by
  refine ⟨sum0 g8 Try.func9 (by kernel_rfl) fun ρ avs k r h => ?_, fun ρ avs k => ?_⟩
  · unfold F9 at h
    split at h
    · refine Eq.trans (b := k (.bool true)) (by kernel_rfl) h
    · cases h
  · unfold F9
    split <;> rfl
noncomputable def G9 : Env := { G8 with pure := (9, F9) :: G8.pure }
theorem g9 : GOK Try.prog G9 := GOK.also g8 ok9
end Go.Proofs.Ytllammgffeebfaa
