/-
  The law of the specification: for every input the call returns true, and the arguments read as before. No condition.
-/
import Derived.Test.YtllammgffeebfaaVdN
namespace Go.Proofs.Ytllammgffeebfaa
open Go.Ev

noncomputable def G11 : Env := { G10 with pure := (8, F13) :: (10, F10) :: (11, F11) :: G10.pure }
theorem g11 : GOK Try.prog G11 := GOK.also (GOK.also (GOK.also g10 ok11) ok10) ok8
theorem findN_no {p : Nat → Bool} (h : ∀ i, p i = false) (n i : Nat) : findN p n i = none := by
  unfold findN
  exact List.find?_eq_none.2 fun x _ => by rw [h x]; exact Bool.false_ne_true
theorem law3 (h c rp j : Int) (es : List AV) (g t : Bool) (hs : small es.length = true) : evF Try.prog G11 [] Try.f3 AV [.agg (rcs h es c rp j g t)] some = some (.bool true) := by
  refine Eq.trans (b := bif small es.length then (bif small es.length then (bif ((vF h c rp j es).1 != 0) then (bif (vF h c rp j es).1 == (vF h c rp j es).1 && ((vF h c rp j es).2 == (vF h c rp j es).2 && true) then (bif (bif ((vF h c rp j es).1 != 0) then 0 else decN (total h es c rp j) g t) == 0 then (bif ((bif ((vF h c rp j es).1 != 0) then [] else reasons h es c rp j g t).length : Int) == 0 then some (AV.bool true) else some (AV.bool false)) else some (AV.bool false)) else some (AV.bool false))
    else (bif small es.length && (decide (0 ≤ h) && (decide (h ≤ 5) && (decide (-1000 ≤ rp) && (decide (rp ≤ 1000) && (decide (0 ≤ j) && decide (j ≤ 1000)))))) then (bif (vF h c rp j es).1 == 0 then (bif (bif ((vF h c rp j es).1 != 0) then 0 else decN (total h es c rp j) g t) == decN (total h es c rp j) g t then (bif small (bif ((vF h c rp j es).1 != 0) then [] else reasons h es c rp j g t).length && Nat.beq (bif ((vF h c rp j es).1 != 0) then [] else reasons h es c rp j g t).length (reasons h es c rp j g t).length then (bif !(findN (difR (bif ((vF h c rp j es).1 != 0) then [] else reasons h es c rp j g t) (reasons h es c rp j g t)) (bif ((vF h c rp j es).1 != 0) then [] else reasons h es c rp j g t).length 0).isSome then some (AV.bool true) else some (AV.bool false)) else none) else some (AV.bool false)) else some (AV.bool false)) else none)) else none) else none) (by kernel_rfl) ?_
  rw [hs]
  cases hv : (vF h c rp j es).1 != 0
  · have hz : (vF h c rp j es).1 = 0 := by simpa using hv
    obtain ⟨a1, a2, a3, _, a5, a6, a7, a8, a9, a10, _⟩ := vF_ok hz
    have hl : (reasons h es c rp j g t).length ≤ 7 := by
      unfold reasons
      have hfl : ((aspL (hostP h) (sigP es) (chP c) (repP rp) (junkP j)).filter (fun x => !isZ x)).length ≤ 5 := List.length_filter_le _ _
      rw [List.length_append, List.length_append]
      cases t <;> cases g <;> simp <;> omega
    have hp : (true && (decide (0 ≤ h) && (decide (h ≤ 5) && (decide (-1000 ≤ rp) && (decide (rp ≤ 1000) && (decide (0 ≤ j) && decide (j ≤ 1000))))))) = true := and_t rfl (and_t (decide_eq_true a1) (and_t (decide_eq_true a2) (and_t (decide_eq_true a7) (and_t (decide_eq_true a8) (and_t (decide_eq_true a9) (decide_eq_true a10))))))
    have hsm : small (reasons h es c rp j g t).length = true := decide_eq_true (by omega)
    rw [hp, hz]
    simp only [cond_true, cond_false, beq_self_eq_true, hsm, Nat.beq_refl, Bool.and_self, findN_no (difR_self _), Option.isSome_none, Bool.not_false]
  · simp only [cond_true, cond_false, beq_self_eq_true, Bool.and_self, List.length_nil]
    rfl
theorem ok3 : SumOK Try.prog 3 (evF Try.prog G11 [] Try.f3) := sum0 g11 Try.func3 (by kernel_rfl) fun _ _ _ _ h => h

theorem spec3 (H : Type) : ∀ ds : List (DataW H), ds.length = Try.f3.params.size → Rows.verdictMatchesSpecSpec.fn H ds = { results := [.lit (.bool true)], args := ds }
  | [_], _ => rfl

set_option maxRecDepth 100000 in
theorem lifted3 (os : Os) (started : os.Started) (H : Type) (enc : TypeId × Value → H) :
    ReturnsInHanded {} Try.checked os 3 .any (Rows.verdictMatchesSpecSpec.pre6 enc Try.prog Try.f3 Rows.verdictMatchesSpecRow.domain false) (Rows.verdictMatchesSpecSpec.post enc Try.prog Try.f3 false true false false) := by
  refine returnsInHanded_of_change (C := Try.checked) own started (by kernel_rfl) Try.func3
    (ChangeSpec.witness6 (enc := enc) (C := Try.checked) false ⟨#[], #[.agg #[.int .i64 0, .slice none 0 0, .int .i64 0, .int .i64 0, .int .i64 0, .bool false, .bool false]], []⟩ 8 (by kernel_rfl) (by kernel_rfl) (by kernel_rfl) (by kernel_rfl)) ?_
  intro W base args ds gs before hval hW _ _
  refine contract_of (bk H) (n := 12) (tb := 4) (F := evF Try.prog G11 [] Try.f3) (by kernel_rfl) (by kernel_rfl) rfl (by kernel_rfl) (by kernel_rfl) (spec3 H) (ok3) (fun avs hg => ?_) hval hW
  have hh : hasAll [.agg [.int .i64, .slice sV, .int .i64, .int .i64, .int .i64, .bool, .bool]] avs = true := hg.has
  obtain ⟨v0, cs, rfl, h0, hh⟩ := hasAll_cons hh
  obtain rfl := hasAll_nil hh
  obtain ⟨h, es, c, rp, j, g, t, rfl, hs⟩ := open_results h0 (hg.fit _ (by simp))
  exact law3 h c rp j es g t hs

theorem matches_spec : Rows.VerdictMatchesSpecSaid :=
  OpenClaim.holds_of_wide 3 Try.f3 rfl rfl rfl rfl rfl rfl rfl ⟨rfl, rfl, rfl, rfl, rfl⟩ rfl rfl rfl rfl rfl (by kernel_rfl) Try.func3 (by kernel_rfl)
    (of_decide_eq_true (by kernel_rfl)) (by unfold Func.isWrapper; first | (rw [if_pos (by decide +kernel)]; kernel_rfl) | (rw [if_neg (by decide +kernel)]; exact ⟨rfl, rfl⟩))
    (fun os started H enc _ => lifted3 os started H enc)

end Go.Proofs.Ytllammgffeebfaa
