/-
  The law of further signatures: for every input the call returns true, and the arguments read as before. No condition.
-/
import Derived.Test.YtllammgffeebfaaVdF
import Derived.Test.YtllammgffeebfaaGiven
namespace Go.Proofs.Ytllammgffeebfaa
open Go.Ev

theorem open_results {v : AV} (h : hasSh (.agg [.int .i64, .slice sV, .int .i64, .int .i64, .int .i64, .bool, .bool]) v = true) (hf : Fit v) :
    ∃ h es c rp j g t, v = .agg (rcs h es c rp j g t) ∧ small es.length = true := by
  obtain ⟨cs, rfl, h⟩ := has_agg h
  have hf' := hf.agg_inv
  obtain ⟨c0, cs, rfl, h0, h⟩ := hass_cons h
  obtain ⟨c1, cs, rfl, h1, h⟩ := hass_cons h
  obtain ⟨c2, cs, rfl, h2, h⟩ := hass_cons h
  obtain ⟨c3, cs, rfl, h3, h⟩ := hass_cons h
  obtain ⟨c4, cs, rfl, h4, h⟩ := hass_cons h
  obtain ⟨c5, cs, rfl, h5, h⟩ := hass_cons h
  obtain ⟨c6, cs, rfl, h6, h⟩ := hass_cons h
  obtain rfl := hass_nil h
  obtain ⟨_, rfl⟩ := has_int h0
  obtain ⟨es, rfl, hs, _⟩ := has_slice h1 (hf' _ (by simp))
  obtain ⟨_, rfl⟩ := has_int h2
  obtain ⟨_, rfl⟩ := has_int h3
  obtain ⟨_, rfl⟩ := has_int h4
  obtain ⟨_, rfl⟩ := has_bool h5
  obtain ⟨_, rfl⟩ := has_bool h6
  exact ⟨_, es, _, _, _, _, _, rfl, hs⟩

theorem decN_mono {s s' : Int} (h : s ≤ s') (g t : Bool) : decN s g t ≤ decN s' g t := by
  unfold decN
  have key : ∀ {a b : Bool} (x y : Int), (a = true → b = true) → y ≤ x → (bif a then x else y) ≤ (bif b then x else y) := fun {a b} x y hab hxy => by
    cases a <;> cases b
    · exact Int.le_refl _
    · exact hxy
    · exact absurd (hab rfl) (by simp)
    · exact Int.le_refl _
  cases h80 : decide (s ≥ 80)
  · cases h80' : decide (s' ≥ 80)
    · simp only [cond_false]
      cases hl : (!t || (!g && decide (s > 0)))
      · cases hl' : (!t || (!g && decide (s' > 0)))
        · simp only [cond_false]
          exact key 2 1 (fun h1 => by simp at h1 ⊢; omega) (by decide)
        · simp only [cond_true, cond_false]
          cases decide (s ≥ 40) <;> decide
      · have : (!t || (!g && decide (s' > 0))) = true := by
          cases t <;> cases g <;> simp at hl ⊢ <;> omega
        rw [this]
        exact Int.le_refl _
    · simp only [cond_true, cond_false]
      cases (!t || (!g && decide (s > 0))) <;> cases decide (s ≥ 40) <;> decide
  · have : decide (s' ≥ 80) = true := by simp at h80 ⊢; omega
    rw [this]
    exact Int.le_refl _

theorem vF_more {h c rp j : Int} {es : List AV} (hz : (vF h c rp j es).1 = 0) (hl : es.length < 60) (d : List UInt8) : (vF h c rp j (es ++ [mkR d 1])).1 = 0 := by
  obtain ⟨a1, a2, a3, a4, a5, a6, a7, a8, a9, a10, a11⟩ := vF_ok hz
  have hn : findN (badV (es ++ [mkR d 1])) (es ++ [mkR d 1]).length 0 = none := by
    refine findN_of_none fun q _ hq => ?_
    rw [List.length_append, List.length_singleton] at hq
    by_cases hlt : q < es.length
    · have := findN_none a4 q (Nat.zero_le _) hlt
      unfold badV at this ⊢
      rw [show (es ++ [mkR d 1]).getD q .unk = es.getD q .unk from by simp only [List.getD, List.getElem?_append_left hlt]]
      exact this
    · have : q = es.length := by omega
      subst this
      unfold badV
      rw [show (es ++ [mkR d 1]).getD es.length .unk = mkR d 1 from by simp only [List.getD, List.getElem?_append_right (Nat.le_refl _), Nat.sub_self]; rfl]
      rfl
  have ho : ∀ n a b : Int, a ≤ n → n ≤ b → out n a b = false := fun n a b h1 h2 => by simp [out]; omega
  unfold vF restF
  rw [hn, ho h 0 5 a1 a2, ho c _ _ a5 a6, ho rp _ _ a7 a8, ho j _ _ a9 a10, decide_eq_false (by rw [List.length_append, List.length_singleton]; omega)]
  rfl
theorem sigP_more (es : List AV) (d : List UInt8) : sigP (es ++ [mkR d 1]) ≤ sigP es := by
  have : (es ++ [mkR d 1]).any (isV 1) = true := by
    rw [List.any_append]
    have : [mkR d 1].any (isV 1) = true := rfl
    rw [this, Bool.or_true]
  have h2 := (sigP_bd es).1
  unfold sigP at h2 ⊢
  rw [this]
  exact h2

theorem law6 (h c rp j : Int) (es : List AV) (g t : Bool) (d : List UInt8) (hs : small es.length = true) : evF Try.prog G9 [] Try.f6 AV [.agg (rcs h es c rp j g t), .str d] some = some (.bool true) := by
  refine Eq.trans (b := bif small es.length then (bif (vF h c rp j es).1 != 0 then some (AV.bool true) else bif decide ((es.length : Int) ≥ 60) then some (AV.bool true) else
    bif roomB es.length 24 then (bif roomB (es.length + 1) 24 then (bif small (es ++ [mkR d 1]).length then
      (bif (vF h c rp j (es ++ [mkR d 1])).1 == 0 then (bif decide ((bif (vF h c rp j (es ++ [mkR d 1])).1 != 0 then 0 else decN (total h (es ++ [mkR d 1]) c rp j) g t) ≤ (bif (vF h c rp j es).1 != 0 then 0 else decN (total h es c rp j) g t)) then some (AV.bool true) else some (AV.bool false)) else some (AV.bool false))
      else none) else none) else none) else none) (by kernel_rfl) ?_
  rw [hs]
  cases hv : (vF h c rp j es).1 != 0
  · cases hl : decide ((es.length : Int) ≥ 60)
    · have hz : (vF h c rp j es).1 = 0 := by simpa using hv
      have hl' : es.length < 60 := by simp at hl; omega
      have hm := vF_more hz hl' d
      have hr : ∀ n, n ≤ 100 → roomB n 24 = true := fun n hn => by simp [roomB]; omega
      rw [hr _ (by omega), hr _ (by omega), show small (es ++ [mkR d 1]).length = true from decide_eq_true (by rw [List.length_append, List.length_singleton]; omega), hm]
      have hdec : decN (total h (es ++ [mkR d 1]) c rp j) g t ≤ decN (total h es c rp j) g t := decN_mono (by unfold total; have := sigP_more es d; omega) g t
      exact cond_t (decide_eq_true hdec)
    · rfl
  · rfl

theorem spec6 (H : Type) : ∀ ds : List (DataW H), ds.length = Try.f6.params.size → Rows.verdictSignaturesDoNotHurtSpec.fn H ds = { results := [.lit (.bool true)], args := ds }
  | [_, _], _ => rfl

set_option maxRecDepth 100000 in
theorem lifted6 (os : Os) (started : os.Started) (H : Type) (enc : TypeId × Value → H) :
    ReturnsInHanded {} Try.checked os 6 .any (Rows.verdictSignaturesDoNotHurtSpec.pre6 enc Try.prog Try.f6 Rows.verdictSignaturesDoNotHurtRow.domain false) (Rows.verdictSignaturesDoNotHurtSpec.post enc Try.prog Try.f6 false true false false) := by
  refine returnsInHanded_of_change (C := Try.checked) own started (by kernel_rfl) Try.func6
    (ChangeSpec.witness6 (enc := enc) (C := Try.checked) false ⟨#[], #[.agg #[.int .i64 0, .slice none 0 0, .int .i64 0, .int .i64 0, .int .i64 0, .bool false, .bool false], .string ⟨#[]⟩], []⟩ 8 (by kernel_rfl) (by kernel_rfl) (by kernel_rfl) (by kernel_rfl)) ?_
  intro W base args ds gs before hval hW _ _
  refine contract_of (bk H) (n := 12) (tb := 4) (F := evF Try.prog G9 [] Try.f6) (by kernel_rfl) (by kernel_rfl) rfl (by kernel_rfl) (by kernel_rfl) (spec6 H) (inl g9 Try.func6 (by kernel_rfl)).1 (fun avs hg => ?_) hval hW
  have hh : hasAll [.agg [.int .i64, .slice sV, .int .i64, .int .i64, .int .i64, .bool, .bool], .str] avs = true := hg.has
  obtain ⟨v0, cs, rfl, h0, hh⟩ := hasAll_cons hh
  obtain ⟨v1, cs, rfl, h1, hh⟩ := hasAll_cons hh
  obtain rfl := hasAll_nil hh
  obtain ⟨h, es, c, rp, j, g, t, rfl, hs⟩ := open_results h0 (hg.fit _ (by simp))
  obtain ⟨d, rfl⟩ := has_str h1
  exact law6 h c rp j es g t d hs

theorem signatures_do_not_hurt : Rows.VerdictSignaturesDoNotHurtSaid :=
  OpenClaim.holds_of_wide 6 Try.f6 rfl rfl rfl rfl rfl rfl rfl ⟨rfl, rfl, rfl, rfl, rfl⟩ rfl rfl rfl rfl rfl (by kernel_rfl) Try.func6 (by kernel_rfl)
    (of_decide_eq_true (by kernel_rfl)) (by unfold Func.isWrapper; first | (rw [if_pos (by decide +kernel)]; kernel_rfl) | (rw [if_neg (by decide +kernel)]; exact ⟨rfl, rfl⟩))
    (fun os started H enc _ => lifted6 os started H enc)

end Go.Proofs.Ytllammgffeebfaa
