/-
  ClassifyInAnyOrder: for every input the call returns true, and the arguments read as before. No condition.
-/
import Derived.Test.YtpgaobdgohlegaaClG
namespace Go.Proofs.Ytpgaobdgohlegaa
open Go.Ev

theorem bump_comm {es : List AV} (hs : Srt xOf blt es) (x y : Bool) (s : List UInt8) : bump y (some (bump x (lk xOf s es) s)) s = bump x (some (bump y (lk xOf s es) s)) s := by
  unfold bump
  simp only [Option.getD_some]
  cases x <;> cases y <;> rfl
theorem learn_comm {es ta tb : List AV} (hs : Srt xOf blt es) (ha : Srt xOf blt ta) (hb : Srt xOf blt tb) (x y : Bool) : learnF y (learnF x es ta) tb = learnF x (learnF y es tb) ta := by
  obtain ⟨a1, a2⟩ := learn_spec x hs ha
  obtain ⟨b1, b2⟩ := learn_spec y hs hb
  obtain ⟨c1, c2⟩ := learn_spec y a1 hb
  obtain ⟨d1, d2⟩ := learn_spec x b1 ha
  refine srt_look_ext bltO c1 d1 fun s => ?_
  rw [c2, d2, a2, b2]
  by_cases h1 : s ∈ ta.map xOf <;> by_cases h2 : s ∈ tb.map xOf <;> simp only [h1, h2, if_true, if_false]
  rw [bump_comm hs]
theorem law4 (G J : Int) (es ta tb : List AV) (x y : Bool) (hs : small es.length = true) (ha : small ta.length = true) (hb : small tb.length = true) (hcan : ∀ e ∈ es, hasSh sK e = true) : evF Try.prog GM [] Try.f4 AV [.agg [.int .i64 G, .int .i64 J, .slv sK es], .slv .str ta, .slv .str tb, .bool x, .bool y] some = some (.bool true) := by
  refine Eq.trans (b := bif small es.length && small ta.length then bif small es.length && small tb.length then bif (lrnF G J es ta x).fst != (0 : Int) then some (AV.bool true) else bif (lrnF G J es tb y).fst != (0 : Int) then some (AV.bool true) else bif small (lwE G J es ta x).length && small tb.length then bif small (lwE G J es tb y).length && small ta.length then bif (lrnF (lwG G J es ta x) (lwJ G J es ta x) (lwE G J es ta x) tb y).fst == (lrnF (lwG G J es tb y) (lwJ G J es tb y) (lwE G J es tb y) ta x).fst && ((lrnF (lwG G J es ta x) (lwJ G J es ta x) (lwE G J es ta x) tb y).snd == (lrnF (lwG G J es tb y) (lwJ G J es tb y) (lwE G J es tb y) ta x).snd && true) then bif small (lwE (lwG G J es ta x) (lwJ G J es ta x) (lwE G J es ta x) tb y).length then bif same (lwG (lwG G J es ta x) (lwJ G J es ta x) (lwE G J es ta x) tb y) (lwJ (lwG G J es ta x) (lwJ G J es ta x) (lwE G J es ta x) tb y) (lwE (lwG G J es ta x) (lwJ G J es ta x) (lwE G J es ta x) tb y) (lwG (lwG G J es tb y) (lwJ G J es tb y) (lwE G J es tb y) ta x) (lwJ (lwG G J es tb y) (lwJ G J es tb y) (lwE G J es tb y) ta x) (lwE (lwG G J es tb y) (lwJ G J es tb y) (lwE G J es tb y) ta x) then some (AV.bool true) else some (AV.bool false) else none else some (AV.bool false) else none else none else none else none) (by kernel_rfl) ?_
  rw [hs, ha, hb]
  cases h1 : (lrnF G J es ta x).1 != 0
  · cases h2 : (lrnF G J es tb y).1 != 0
    · obtain ⟨_, W, Ta, cx, _, W1, _⟩ := lrn_ok hcan h1
      obtain ⟨_, _, Tb, cy, _, W2, _⟩ := lrn_ok hcan h2
      have a1 : lwG G J es ta x = gN x G := by unfold lwG; rw [h1]; rfl
      have a2 : lwJ G J es ta x = jN x J := by unfold lwJ; rw [h1]; rfl
      have a3 : lwE G J es ta x = learnF x es ta := by unfold lwE; rw [h1]; rfl
      have b1 : lwG G J es tb y = gN y G := by unfold lwG; rw [h2]; rfl
      have b2 : lwJ G J es tb y = jN y J := by unfold lwJ; rw [h2]; rfl
      have b3 : lwE G J es tb y = learnF y es tb := by unfold lwE; rw [h2]; rfl
      rw [a1, a2, a3, b1, b2, b3]
      have hco := learn_comm W.srt Ta.srt Tb.srt x y
      have hcn : (cntW y (gN x G) (jN x J) == 1000000) = (cntW x (gN y G) (jN y J) == 1000000) := by
        cases x <;> cases y
        · rfl
        · show (J == 1000000) = (G == 1000000)
          have c1 : G ≠ 1000000 := cx
          have c2 : J ≠ 1000000 := cy
          rw [show (J == 1000000) = false from by simpa using c2, show (G == 1000000) = false from by simpa using c1]
        · show (G == 1000000) = (J == 1000000)
          have c1 : J ≠ 1000000 := cx
          have c2 : G ≠ 1000000 := cy
          rw [show (J == 1000000) = false from by simpa using c1, show (G == 1000000) = false from by simpa using c2]
        · rfl
      have hf : lrnF (gN x G) (jN x J) (learnF x es ta) tb y = lrnF (gN y G) (jN y J) (learnF y es tb) ta x := by
        rw [lrn_of W1 Tb, lrn_of W2 Ta, hcn, hco]
      have hg : gN y (gN x G) = gN x (gN y G) := by cases x <;> cases y <;> rfl
      have hj : jN y (jN x J) = jN x (jN y J) := by cases x <;> cases y <;> rfl
      have e1 : lwG (gN x G) (jN x J) (learnF x es ta) tb y = lwG (gN y G) (jN y J) (learnF y es tb) ta x := by unfold lwG; rw [hf, hg]
      have e2 : lwJ (gN x G) (jN x J) (learnF x es ta) tb y = lwJ (gN y G) (jN y J) (learnF y es tb) ta x := by unfold lwJ; rw [hf, hj]
      have e3 : lwE (gN x G) (jN x J) (learnF x es ta) tb y = lwE (gN y G) (jN y J) (learnF y es tb) ta x := by unfold lwE; rw [hf, hco]
      have l0 := W.len
      have l1 := Ta.len
      have l2 := Tb.len
      have l3 := W1.len
      have l4 := W2.len
      have l5 := learn_len (es := learnF y es tb) (ts := ta) x
      have l6 : (lwE (gN y G) (jN y J) (learnF y es tb) ta x).length ≤ 10000 := by
        unfold lwE
        cases (lrnF (gN y G) (jN y J) (learnF y es tb) ta x).1 != 0
        · rw [cond_false]; omega
        · rw [cond_true]; simp
      rw [hf, e1, e2, e3, small_of l6, small_of (by omega : (learnF x es ta).length ≤ 10000), small_of (by omega : (learnF y es tb).length ≤ 10000), same_self]
      simp
    · rfl
  · rfl
theorem ok4 : SumOK Try.prog 4 (evF Try.prog GM [] Try.f4) := sum0 gm Try.func4 (by kernel_rfl) fun _ _ _ _ h => h

theorem spec4 (H : Type) : ∀ ds : List (DataW H), ds.length = Try.f4.params.size → Rows.classifyInAnyOrderSpec.fn H ds = { results := [.lit (.bool true)], args := ds }
  | [_, _, _, _, _], _ => rfl

set_option maxRecDepth 100000 in
theorem lifted4 (os : Os) (started : os.Started) (H : Type) (enc : TypeId × Value → H) :
    ReturnsInHanded {} Try.checked os 4 .any (Rows.classifyInAnyOrderSpec.pre6 enc Try.prog Try.f4 Rows.classifyInAnyOrderRow.domain false) (Rows.classifyInAnyOrderSpec.post enc Try.prog Try.f4 false true false false) := by
  refine returnsInHanded_of_change (C := Try.checked) own started (by kernel_rfl) Try.func4
    (ChangeSpec.witness6 (enc := enc) (C := Try.checked) false ⟨#[], #[.agg #[.int .i64 0, .int .i64 0, .slice none 0 0], .slice none 0 0, .slice none 0 0, .bool false, .bool false], []⟩ 8 (by kernel_rfl) (by kernel_rfl) (by kernel_rfl) (by kernel_rfl)) ?_
  intro W base args ds gs before hval hW _ _
  refine contract_of (bk H) (n := 12) (tb := 4) (F := evF Try.prog GM [] Try.f4) (by kernel_rfl) (by kernel_rfl) (by kernel_rfl) rfl (by kernel_rfl) (by kernel_rfl) (spec4 H) (ok4) (fun avs hg => ?_) hval hW
  have hh : hasAll [.agg [.int .i64, .int .i64, .slice sK], .slice .str, .slice .str, .bool, .bool] avs = true := hg.has
  obtain ⟨v0, cs, rfl, h0, hh⟩ := hasAll_cons hh
  obtain ⟨v1, cs, rfl, h1, hh⟩ := hasAll_cons hh
  obtain ⟨v2, cs, rfl, h2, hh⟩ := hasAll_cons hh
  obtain ⟨v3, cs, rfl, h3, hh⟩ := hasAll_cons hh
  obtain ⟨v4, cs, rfl, h4, hh⟩ := hasAll_cons hh
  obtain rfl := hasAll_nil hh
  obtain ⟨G, J, es, rfl, hs, hcan⟩ := open_words h0 (hg.fit _ (by simp))
  obtain ⟨ta, rfl, ha⟩ := open_toks h1 (hg.fit _ (by simp))
  obtain ⟨tb, rfl, hb⟩ := open_toks h2 (hg.fit _ (by simp))
  obtain ⟨x, rfl⟩ := has_bool h3
  obtain ⟨y, rfl⟩ := has_bool h4
  exact law4 G J es ta tb x y hs ha hb hcan

theorem in_any_order : Rows.ClassifyInAnyOrderSaid :=
  OpenClaim.holds_of_wide 4 Try.f4 rfl rfl rfl rfl rfl rfl rfl ⟨rfl, rfl, rfl, rfl, rfl⟩ rfl rfl rfl rfl rfl (by kernel_rfl) Try.func4 (by kernel_rfl)
    (of_decide_eq_true (by kernel_rfl)) (by unfold Func.isWrapper; first | (rw [if_pos (by decide +kernel)]; kernel_rfl) | (rw [if_neg (by decide +kernel)]; exact ⟨rfl, rfl⟩))
    (fun os started H enc _ => lifted4 os started H enc)

end Go.Proofs.Ytpgaobdgohlegaa
