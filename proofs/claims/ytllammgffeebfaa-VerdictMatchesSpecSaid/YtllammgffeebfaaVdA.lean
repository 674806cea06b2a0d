/-
  The small functions that the laws of the verdict reach.
-/
import Derived.Test.YtllammgffeebfaaSeat
namespace Go.Proofs.Ytllammgffeebfaa
open Go.Ev

noncomputable def G0 : Env := ⟨[], [], false, false⟩
theorem g0 : GOK Try.prog G0 := GOK.empty

def F21 : Summ := fun _ avs k => match avs with
  | [.int .i64 n, .int .i64 a, .int .i64 b] => k (.bool (decide (a ≤ n) && decide (n ≤ b)))
  | _ => none
theorem ok21 : SumOK Try.prog 21 F21 ∧ SNat F21 := by
  refine ⟨sum0 g0 Try.func21 (by kernel_rfl) fun ρ avs k r h => ?_, fun ρ avs k => ?_⟩
  · unfold F21 at h
    split at h
    · rename_i n a b
      refine Eq.trans (b := bif decide (a ≤ n) then k (.bool (decide (n ≤ b))) else k (.bool false)) (by kernel_rfl) ?_
      generalize decide (a ≤ n) = x at h ⊢
      cases x <;> exact h
    · cases h
  · unfold F21
    split <;> rfl

/-- Faults, and what is In a range. -/
noncomputable def G1 : Env := ⟨[(14, evF Try.prog G0 [] Try.f14), (20, evF Try.prog G0 [] Try.f20), (22, evF Try.prog G0 [] Try.f22), (23, evF Try.prog G0 [] Try.f23), (21, F21)], [], false, false⟩
theorem g1 : GOK Try.prog G1 := GOK.also (GOK.also (GOK.also (GOK.also (GOK.also g0 ok21) (inl g0 Try.func23 (by kernel_rfl))) (inl g0 Try.func22 (by kernel_rfl))) (inl g0 Try.func20 (by kernel_rfl))) (inl g0 Try.func14 (by kernel_rfl))

end Go.Proofs.Ytllammgffeebfaa
