/-
  ClassifyMatchesSpec: for every input the call returns true, and the arguments read as before. No condition.
-/
import Derived.Test.YtpgaobdgohlegaaClN
namespace Go.Proofs.Ytpgaobdgohlegaa
open Go.Ev

noncomputable def GO : Env := { G1 with pure := (17, ofT F15) :: (16, ofT F16) :: (15, ofT F15) :: (18, ofT F18) :: (19, ofT F18) :: GM.pure }
theorem gO : GOK Try.prog GO := GOK.also (GOK.also (GOK.also (GOK.also (GOK.also gm ok19) ok18) ok15) ok16) ok17
theorem fg_lens {G J : Int} {es ts : List AV} {junk : Bool} (hs : small es.length = true) : small (fgE G J es ts junk).length = true ∧ small (lwE G J es ts junk).length = true := by
  constructor
  · unfold fgE
    cases h : (fgF G J es ts junk).1 != 0
    · have hz : ((commF G J es ts).1 != 0) = false := by
        cases hv : (commF G J es ts).1 != 0
        · rfl
        · unfold fgF at h; rw [hv] at h
          simp only [cond_true, hv] at h
          cases h
      obtain ⟨_, W, T⟩ := comm_ok hz
      have w1 := W.len
      have : (forgE junk es ts).length ≤ es.length := by
        unfold forgE
        rw [← (forgF_len (junk := junk) (ts := ts) (k := 0) W.inE).1]
        exact List.length_filter_le _ _
      rw [cond_false]
      exact small_of (by omega)
    · rfl
  · unfold lwE
    cases h : (lrnF G J es ts junk).1 != 0
    · have hz : ((commF G J es ts).1 != 0) = false := by
        cases hv : (commF G J es ts).1 != 0
        · rfl
        · unfold lrnF at h; rw [hv] at h
          simp only [cond_true, hv] at h
          cases h
      obtain ⟨_, W, T⟩ := comm_ok hz
      have w1 := W.len
      have t1 := T.len
      have := learn_len (es := es) (ts := ts) junk
      rw [cond_false]
      exact small_of (by omega)
    · rfl
theorem law6 (G J : Int) (es ts : List AV) (junk : Bool) (hs : small es.length = true) (ht : small ts.length = true) (hcan : ∀ e ∈ es, hasSh sK e = true) : evF Try.prog GO [] Try.f6 AV [.agg [.int .i64 G, .int .i64 J, .slv sK es], .slv .str ts, .bool junk] some = some (.bool true) := by
  have hca : es.all (hasSh sK) = true := List.all_eq_true.2 hcan
  obtain ⟨s1, s2⟩ := fg_lens (G := G) (J := J) (ts := ts) (junk := junk) hs
  refine Eq.trans (b := bif small es.length && small ts.length then bif small es.length && (small ts.length && es.all (hasSh sK)) then bif small es.length && (small ts.length && es.all (hasSh sK)) then bif small es.length && (small ts.length && es.all (hasSh sK)) then bif small es.length then bif small es.length then bif (wordsF G J es).fst == (wordsF G J es).fst && ((wordsF G J es).snd == (wordsF G J es).snd && true) then bif (lrnF G J es ts junk).fst == (lrnF G J es ts junk).fst && ((lrnF G J es ts junk).snd == (lrnF G J es ts junk).snd && true) then bif (fgF G J es ts junk).fst == (fgF G J es ts junk).fst && ((fgF G J es ts junk).snd == (fgF G J es ts junk).snd && true) then bif small (lwE G J es ts junk).length then bif same (lwG G J es ts junk) (lwJ G J es ts junk) (lwE G J es ts junk) (lwG G J es ts junk) (lwJ G J es ts junk) (lwE G J es ts junk) then bif small (fgE G J es ts junk).length then bif same (fgG G J es ts junk) (fgJ G J es ts junk) (fgE G J es ts junk) (fgG G J es ts junk) (fgJ G J es ts junk) (fgE G J es ts junk) then some (AV.bool true) else some (AV.bool false) else none else some (AV.bool false) else none else some (AV.bool false) else some (AV.bool false) else some (AV.bool false) else none else none else none else none else none else none) (by kernel_rfl) ?_
  rw [hs, ht, hca, s1, s2, same_self, same_self]
  simp
theorem ok6 : SumOK Try.prog 6 (evF Try.prog GO [] Try.f6) := sum0 gO Try.func6 (by kernel_rfl) fun _ _ _ _ h => h

theorem spec6 (H : Type) : ∀ ds : List (DataW H), ds.length = Try.f6.params.size → Rows.classifyMatchesSpecSpec.fn H ds = { results := [.lit (.bool true)], args := ds }
  | [_, _, _], _ => rfl

set_option maxRecDepth 100000 in
theorem lifted6 (os : Os) (started : os.Started) (H : Type) (enc : TypeId × Value → H) :
    ReturnsInHanded {} Try.checked os 6 .any (Rows.classifyMatchesSpecSpec.pre6 enc Try.prog Try.f6 Rows.classifyMatchesSpecRow.domain false) (Rows.classifyMatchesSpecSpec.post enc Try.prog Try.f6 false true false false) := by
  refine returnsInHanded_of_change (C := Try.checked) own started (by kernel_rfl) Try.func6
    (ChangeSpec.witness6 (enc := enc) (C := Try.checked) false ⟨#[], #[.agg #[.int .i64 0, .int .i64 0, .slice none 0 0], .slice none 0 0, .bool false], []⟩ 8 (by kernel_rfl) (by kernel_rfl) (by kernel_rfl) (by kernel_rfl)) ?_
  intro W base args ds gs before hval hW _ _
  refine contract_of (bk H) (n := 12) (tb := 4) (F := evF Try.prog GO [] Try.f6) (by kernel_rfl) (by kernel_rfl) (by kernel_rfl) rfl (by kernel_rfl) (by kernel_rfl) (spec6 H) (ok6) (fun avs hg => ?_) hval hW
  have hh : hasAll [.agg [.int .i64, .int .i64, .slice sK], .slice .str, .bool] avs = true := hg.has
  obtain ⟨v0, cs, rfl, h0, hh⟩ := hasAll_cons hh
  obtain ⟨v1, cs, rfl, h1, hh⟩ := hasAll_cons hh
  obtain ⟨v2, cs, rfl, h2, hh⟩ := hasAll_cons hh
  obtain rfl := hasAll_nil hh
  obtain ⟨G, J, es, rfl, hs, hcan⟩ := open_words h0 (hg.fit _ (by simp))
  obtain ⟨ts, rfl, ht⟩ := open_toks h1 (hg.fit _ (by simp))
  obtain ⟨x, rfl⟩ := has_bool h2
  exact law6 G J es ts x hs ht hcan

theorem matches_spec : Rows.ClassifyMatchesSpecSaid :=
  OpenClaim.holds_of_wide 6 Try.f6 rfl rfl rfl rfl rfl rfl rfl ⟨rfl, rfl, rfl, rfl, rfl⟩ rfl rfl rfl rfl rfl (by kernel_rfl) Try.func6 (by kernel_rfl)
    (of_decide_eq_true (by kernel_rfl)) (by unfold Func.isWrapper; first | (rw [if_pos (by decide +kernel)]; kernel_rfl) | (rw [if_neg (by decide +kernel)]; exact ⟨rfl, rfl⟩))
    (fun os started H enc _ => lifted6 os started H enc)

end Go.Proofs.Ytpgaobdgohlegaa
