/-
  ClassifyForgets: for every input the call returns true, and the arguments read as before. No condition.
-/
import Derived.Test.YtpgaobdgohlegaaClO
namespace Go.Proofs.Ytpgaobdgohlegaa
open Go.Ev

theorem gD_gN (junk : Bool) (G : Int) : gD junk (gN junk G) = G := by
  cases junk
  · exact Int.add_sub_cancel G 1
  · rfl
theorem jD_jN (junk : Bool) (J : Int) : jD junk (jN junk J) = J := by
  cases junk
  · rfl
  · exact Int.add_sub_cancel J 1
theorem gN_gD (junk : Bool) (G : Int) : gN junk (gD junk G) = G := by
  cases junk
  · exact Int.sub_add_cancel G 1
  · rfl
theorem jN_jD (junk : Bool) (J : Int) : jN junk (jD junk J) = J := by
  cases junk
  · rfl
  · exact Int.sub_add_cancel J 1
theorem fg_ok {G J : Int} {es ts : List AV} {junk : Bool} (h : ((fgF G J es ts junk).1 == 0) = true) : Wd G J es ∧ Tk ts ∧ cntW junk G J ≠ 0 ∧ (forgF junk es ts 0).1 = none ∧ Wd (gD junk G) (jD junk J) (forgE junk es ts) ∧ fgG G J es ts junk = gD junk G ∧ fgJ G J es ts junk = jD junk J ∧ fgE G J es ts junk = forgE junk es ts := by
  have h0 : ((fgF G J es ts junk).1 != 0) = false := by rw [bne, h]; rfl
  have e1 : fgG G J es ts junk = gD junk G := by unfold fgG; rw [h0]; rfl
  have e2 : fgJ G J es ts junk = jD junk J := by unfold fgJ; rw [h0]; rfl
  have e3 : fgE G J es ts junk = forgE junk es ts := by unfold fgE; rw [h0]; rfl
  cases hv : (commF G J es ts).1 != 0
  · obtain ⟨_, W, T⟩ := comm_ok hv
    unfold fgF at h
    rw [hv, cond_false] at h
    cases hc : cntW junk G J == 0
    · rw [hc, cond_false] at h
      cases hf : (forgF junk es ts 0).1 with
      | none =>
        rw [hf] at h
        simp only [Option.isSome_none, cond_false] at h
        cases hw : (wordsF (gD junk G) (jD junk J) (forgE junk es ts)).1 != 0
        · exact ⟨W, T, by simpa using hc, rfl, Wd.of (by simpa using hw), e1, e2, e3⟩
        · rw [hw] at h; cases h
      | some q => rw [hf] at h; cases h
    · rw [hc] at h; cases h
  · unfold fgF at h
    rw [hv, cond_true] at h
    rw [bne, h] at hv; cases hv
theorem back1 {G J : Int} {es ts : List AV} {junk : Bool} (W : Wd G J es) (T : Tk ts) (hc : ∀ e ∈ es, hasSh sK e = true) (W1 : Wd (gN junk G) (jN junk J) (learnF junk es ts)) : fgF (gN junk G) (jN junk J) (learnF junk es ts) ts junk = (0, 0) ∧ fgG (gN junk G) (jN junk J) (learnF junk es ts) ts junk = G ∧ fgJ (gN junk G) (jN junk J) (learnF junk es ts) ts junk = J ∧ fgE (gN junk G) (jN junk J) (learnF junk es ts) ts junk = es := by
  obtain ⟨f1, f2⟩ := forg_learn (junk := junk) W T hc
  have hcn : (cntW junk (gN junk G) (jN junk J) == 0) = false := by
    have g0 := W.g0; have j0 := W.j0
    cases junk
    · show (G + 1 == 0) = false
      have : G + 1 ≠ 0 := by omega
      simpa using this
    · show (J + 1 == 0) = false
      have : J + 1 ≠ 0 := by omega
      simpa using this
  have h0 : fgF (gN junk G) (jN junk J) (learnF junk es ts) ts junk = (0, 0) := by
    unfold fgF
    rw [comm_zero W1 T, hcn, f1, gD_gN, jD_jN, f2, W.zero]
    rfl
  refine ⟨h0, ?_, ?_, ?_⟩
  · unfold fgG; rw [h0]; exact gD_gN junk G
  · unfold fgJ; rw [h0]; exact jD_jN junk J
  · unfold fgE; rw [h0]; exact f2
theorem back2 {G J : Int} {es ts : List AV} {junk : Bool} (W : Wd G J es) (T : Tk ts) (hc : ∀ e ∈ es, hasSh sK e = true) (hn : (forgF junk es ts 0).1 = none) (W1 : Wd (gD junk G) (jD junk J) (forgE junk es ts)) : lrnF (gD junk G) (jD junk J) (forgE junk es ts) ts junk = (0, 0) ∧ lwG (gD junk G) (jD junk J) (forgE junk es ts) ts junk = G ∧ lwJ (gD junk G) (jD junk J) (forgE junk es ts) ts junk = J ∧ lwE (gD junk G) (jD junk J) (forgE junk es ts) ts junk = es := by
  have hl := learn_forg W T hc hn
  have w1 := W.len
  have hcn : (cntW junk (gD junk G) (jD junk J) == 1000000) = false := by
    have g1 := W.g1; have j1 := W.j1
    cases junk
    · show (G - 1 == 1000000) = false
      have : G - 1 ≠ 1000000 := by omega
      simpa using this
    · show (J - 1 == 1000000) = false
      have : J - 1 ≠ 1000000 := by omega
      simpa using this
  have h0 : lrnF (gD junk G) (jD junk J) (forgE junk es ts) ts junk = (0, 0) := by
    rw [lrn_of W1 T, hcn, hl, decide_eq_false (by omega : ¬ (es.length : Int) > 2000)]
    rfl
  refine ⟨h0, ?_, ?_, ?_⟩
  · unfold lwG; rw [h0]; exact gN_gD junk G
  · unfold lwJ; rw [h0]; exact jN_jD junk J
  · unfold lwE; rw [h0]; exact hl
theorem law7 (G J : Int) (es ts : List AV) (junk : Bool) (hs : small es.length = true) (ht : small ts.length = true) (hcan : ∀ e ∈ es, hasSh sK e = true) : evF Try.prog GO [] Try.f7 AV [.agg [.int .i64 G, .int .i64 J, .slv sK es], .slv .str ts, .bool junk] some = some (.bool true) := by
  have hca : es.all (hasSh sK) = true := List.all_eq_true.2 hcan
  obtain ⟨s1, s2⟩ := fg_lens (G := G) (J := J) (ts := ts) (junk := junk) hs
  refine Eq.trans (b := bif small es.length && small ts.length then bif (lrnF G J es ts junk).fst == (0 : Int) then bif small (lwE G J es ts junk).length && (small ts.length && (lwE G J es ts junk).all (hasSh sK)) then bif (fgF (lwG G J es ts junk) (lwJ G J es ts junk) (lwE G J es ts junk) ts junk).fst != (0 : Int) then some (AV.bool false) else bif small (fgE (lwG G J es ts junk) (lwJ G J es ts junk) (lwE G J es ts junk) ts junk).length then bif !same (fgG (lwG G J es ts junk) (lwJ G J es ts junk) (lwE G J es ts junk) ts junk) (fgJ (lwG G J es ts junk) (lwJ G J es ts junk) (lwE G J es ts junk) ts junk) (fgE (lwG G J es ts junk) (lwJ G J es ts junk) (lwE G J es ts junk) ts junk) G J es then some (AV.bool false) else bif small es.length && (small ts.length && es.all (hasSh sK)) then bif (fgF G J es ts junk).fst == (0 : Int) then bif small (fgE G J es ts junk).length && small ts.length then bif (lrnF (fgG G J es ts junk) (fgJ G J es ts junk) (fgE G J es ts junk) ts junk).fst != (0 : Int) then some (AV.bool false) else bif small (lwE (fgG G J es ts junk) (fgJ G J es ts junk) (fgE G J es ts junk) ts junk).length then bif !same (lwG (fgG G J es ts junk) (fgJ G J es ts junk) (fgE G J es ts junk) ts junk) (lwJ (fgG G J es ts junk) (fgJ G J es ts junk) (fgE G J es ts junk) ts junk) (lwE (fgG G J es ts junk) (fgJ G J es ts junk) (fgE G J es ts junk) ts junk) G J es then some (AV.bool false) else some (AV.bool true) else none else none else some (AV.bool true) else none else none else none else bif small es.length && (small ts.length && es.all (hasSh sK)) then bif (fgF G J es ts junk).fst == (0 : Int) then bif small (fgE G J es ts junk).length && small ts.length then bif (lrnF (fgG G J es ts junk) (fgJ G J es ts junk) (fgE G J es ts junk) ts junk).fst != (0 : Int) then some (AV.bool false) else bif small (lwE (fgG G J es ts junk) (fgJ G J es ts junk) (fgE G J es ts junk) ts junk).length then bif !same (lwG (fgG G J es ts junk) (fgJ G J es ts junk) (fgE G J es ts junk) ts junk) (lwJ (fgG G J es ts junk) (fgJ G J es ts junk) (fgE G J es ts junk) ts junk) (lwE (fgG G J es ts junk) (fgJ G J es ts junk) (fgE G J es ts junk) ts junk) G J es then some (AV.bool false) else some (AV.bool true) else none else none else some (AV.bool true) else none else none) (by kernel_rfl) ?_
  rw [hs, ht, hca]
  have tail : (bif true && (true && true) then bif (fgF G J es ts junk).1 == 0 then bif small (fgE G J es ts junk).length && true then bif (lrnF (fgG G J es ts junk) (fgJ G J es ts junk) (fgE G J es ts junk) ts junk).1 != 0 then some (AV.bool false) else bif small (lwE (fgG G J es ts junk) (fgJ G J es ts junk) (fgE G J es ts junk) ts junk).length then bif !same (lwG (fgG G J es ts junk) (fgJ G J es ts junk) (fgE G J es ts junk) ts junk) (lwJ (fgG G J es ts junk) (fgJ G J es ts junk) (fgE G J es ts junk) ts junk) (lwE (fgG G J es ts junk) (fgJ G J es ts junk) (fgE G J es ts junk) ts junk) G J es then some (AV.bool false) else some (AV.bool true) else none else none else some (AV.bool true) else none) = some (AV.bool true) := by
    cases hf : (fgF G J es ts junk).1 == 0
    · rfl
    · obtain ⟨W, T, _, hn, W1, e1, e2, e3⟩ := fg_ok hf
      obtain ⟨b0, b1, b2, b3⟩ := back2 W T hcan hn W1
      rw [s1, e1, e2, e3, b0, b1, b2, b3, hs, same_self]
      rfl
  cases hl : (lrnF G J es ts junk).1 == 0
  · exact tail
  · have hl' : ((lrnF G J es ts junk).1 != 0) = false := by rw [bne, hl]; rfl
    obtain ⟨_, W, T, _, _, W1, hsh⟩ := lrn_ok hcan hl'
    have a1 : lwG G J es ts junk = gN junk G := by unfold lwG; rw [hl']; rfl
    have a2 : lwJ G J es ts junk = jN junk J := by unfold lwJ; rw [hl']; rfl
    have a3 : lwE G J es ts junk = learnF junk es ts := by unfold lwE; rw [hl']; rfl
    obtain ⟨b0, b1, b2, b3⟩ := back1 W T hcan W1
    have w1 := W1.len
    rw [a1, a2, a3, b0, b1, b2, b3, hs, same_self, small_of (by omega : (learnF junk es ts).length ≤ 10000), List.all_eq_true.2 hsh]
    exact tail
theorem ok7 : SumOK Try.prog 7 (evF Try.prog GO [] Try.f7) := sum0 gO Try.func7 (by kernel_rfl) fun _ _ _ _ h => h

theorem spec7 (H : Type) : ∀ ds : List (DataW H), ds.length = Try.f7.params.size → Rows.classifyForgetsSpec.fn H ds = { results := [.lit (.bool true)], args := ds }
  | [_, _, _], _ => rfl

set_option maxRecDepth 100000 in
theorem lifted7 (os : Os) (started : os.Started) (H : Type) (enc : TypeId × Value → H) :
    ReturnsInHanded {} Try.checked os 7 .any (Rows.classifyForgetsSpec.pre6 enc Try.prog Try.f7 Rows.classifyForgetsRow.domain false) (Rows.classifyForgetsSpec.post enc Try.prog Try.f7 false true false false) := by
  refine returnsInHanded_of_change (C := Try.checked) own started (by kernel_rfl) Try.func7
    (ChangeSpec.witness6 (enc := enc) (C := Try.checked) false ⟨#[], #[.agg #[.int .i64 0, .int .i64 0, .slice none 0 0], .slice none 0 0, .bool false], []⟩ 8 (by kernel_rfl) (by kernel_rfl) (by kernel_rfl) (by kernel_rfl)) ?_
  intro W base args ds gs before hval hW _ _
  refine contract_of (bk H) (n := 12) (tb := 4) (F := evF Try.prog GO [] Try.f7) (by kernel_rfl) (by kernel_rfl) (by kernel_rfl) rfl (by kernel_rfl) (by kernel_rfl) (spec7 H) (ok7) (fun avs hg => ?_) hval hW
  have hh : hasAll [.agg [.int .i64, .int .i64, .slice sK], .slice .str, .bool] avs = true := hg.has
  obtain ⟨v0, cs, rfl, h0, hh⟩ := hasAll_cons hh
  obtain ⟨v1, cs, rfl, h1, hh⟩ := hasAll_cons hh
  obtain ⟨v2, cs, rfl, h2, hh⟩ := hasAll_cons hh
  obtain rfl := hasAll_nil hh
  obtain ⟨G, J, es, rfl, hs, hcan⟩ := open_words h0 (hg.fit _ (by simp))
  obtain ⟨ts, rfl, ht⟩ := open_toks h1 (hg.fit _ (by simp))
  obtain ⟨x, rfl⟩ := has_bool h2
  exact law7 G J es ts x hs ht hcan

theorem forgets : Rows.ClassifyForgetsSaid :=
  OpenClaim.holds_of_wide 7 Try.f7 rfl rfl rfl rfl rfl rfl rfl ⟨rfl, rfl, rfl, rfl, rfl⟩ rfl rfl rfl rfl rfl (by kernel_rfl) Try.func7 (by kernel_rfl)
    (of_decide_eq_true (by kernel_rfl)) (by unfold Func.isWrapper; first | (rw [if_pos (by decide +kernel)]; kernel_rfl) | (rw [if_neg (by decide +kernel)]; exact ⟨rfl, rfl⟩))
    (fun os started H enc _ => lifted7 os started H enc)

end Go.Proofs.Ytpgaobdgohlegaa
