/-
  ReputationScoreMatchesSpec: for every input the call returns true, and the arguments read as before. No condition.
-/
import Derived.Test.YtbbmjifioimlmaaRpE
namespace Go.Proofs.Ytbbmjifioimlmaa
open Go.Ev

theorem law4 (es : List AV) (s : List UInt8) (now : Int) (hs : small es.length = true) : evF Try.prog GL [] Try.f4 AV [.slv sS es, .str s, .int .i64 now] some = some (.bool true) := by
  refine Eq.trans (b := bif small es.length then bif small es.length then bif (findF es s now).fst != (0 : Int) then bif (findF es s now).fst == (findF es s now).fst && ((findF es s now).snd == (findF es s now).snd && true) then bif scoreO es s now == (0 : Int) then some (AV.bool true) else some (AV.bool false) else some (AV.bool false) else bif (findF es s now).fst == (0 : Int) then bif small es.length && (findF es s now).fst == (0 : Int) then bif scoreO es s now == scoreV es s (now / (86400 : Int)) then some (AV.bool true) else some (AV.bool false) else none else some (AV.bool false) else none else none) (by kernel_rfl) ?_
  rw [hs]
  cases hv : (findF es s now).1 != 0
  · have hz : (findF es s now).1 = 0 := by simpa using hv
    unfold scoreO
    rw [hv, findF_z hv]
    simp
  · unfold scoreO
    rw [hv]
    simp
theorem ok4 : SumOK Try.prog 4 (evF Try.prog GL [] Try.f4) := sum0 gl Try.func4 (by kernel_rfl) fun _ _ _ _ h => h

theorem spec4 (H : Type) : ∀ ds : List (DataW H), ds.length = Try.f4.params.size → Rows.reputationScoreMatchesSpecSpec.fn H ds = { results := [.lit (.bool true)], args := ds }
  | [_, _, _], _ => rfl

set_option maxRecDepth 100000 in
theorem lifted4 (os : Os) (started : os.Started) (H : Type) (enc : TypeId × Value → H) :
    ReturnsInHanded {} Try.checked os 4 .any (Rows.reputationScoreMatchesSpecSpec.pre6 enc Try.prog Try.f4 Rows.reputationScoreMatchesSpecRow.domain false) (Rows.reputationScoreMatchesSpecSpec.post enc Try.prog Try.f4 false true false false) := by
  refine returnsInHanded_of_change (C := Try.checked) own started (by kernel_rfl) Try.func4
    (ChangeSpec.witness6 (enc := enc) (C := Try.checked) false ⟨#[], #[.slice none 0 0, .string ⟨#[]⟩, .int .i64 0], []⟩ 8 (by kernel_rfl) (by kernel_rfl) (by kernel_rfl) (by kernel_rfl)) ?_
  intro W base args ds gs before hval hW _ _
  refine contract_of (bk H) (n := 12) (tb := 4) (F := evF Try.prog GL [] Try.f4) (by kernel_rfl) (by kernel_rfl) (by kernel_rfl) rfl (by kernel_rfl) (by kernel_rfl) (spec4 H) (ok4) (fun avs hg => ?_) hval hW
  have hh : hasAll [.slice sS, .str, .int .i64] avs = true := hg.has
  obtain ⟨v0, cs, rfl, h0, hh⟩ := hasAll_cons hh
  obtain ⟨v1, cs, rfl, h1, hh⟩ := hasAll_cons hh
  obtain ⟨v2, cs, rfl, h2, hh⟩ := hasAll_cons hh
  obtain rfl := hasAll_nil hh
  obtain ⟨es, rfl, hs, hcan⟩ := open_senders h0 (hg.fit _ (by simp))
  obtain ⟨s, rfl⟩ := has_str h1
  obtain ⟨now, rfl⟩ := has_int h2
  exact law4 es s now hs

theorem score_matches_spec : Rows.ReputationScoreMatchesSpecSaid :=
  OpenClaim.holds_of_wide 4 Try.f4 rfl rfl rfl rfl rfl rfl rfl ⟨rfl, rfl, rfl, rfl, rfl⟩ rfl rfl rfl rfl rfl (by kernel_rfl) Try.func4 (by kernel_rfl)
    (of_decide_eq_true (by kernel_rfl)) (by unfold Func.isWrapper; first | (rw [if_pos (by decide +kernel)]; kernel_rfl) | (rw [if_neg (by decide +kernel)]; exact ⟨rfl, rfl⟩))
    (fun os started H enc _ => lifted4 os started H enc)

end Go.Proofs.Ytbbmjifioimlmaa
