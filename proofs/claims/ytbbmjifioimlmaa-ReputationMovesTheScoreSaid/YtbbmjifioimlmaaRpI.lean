/-
  ReputationMovesTheScore: for every input the call returns true, and the arguments read as before. No condition.
-/
import Derived.Test.YtbbmjifioimlmaaRpE
namespace Go.Proofs.Ytbbmjifioimlmaa
open Go.Ev

theorem law6 (es : List AV) (s o : List UInt8) (junk : Bool) (now : Int) (hs : small es.length = true) (hcan : ∀ e ∈ es, eS e = e) : evF Try.prog GL [] Try.f6 AV [.slv sS es, .str s, .str o, .bool junk, .int .i64 now] some = some (.bool true) := by
  refine Eq.trans (b := bif small es.length then bif small es.length then bif small es.length then bif (noteF es s now).fst != (0 : Int) then some (AV.bool true) else bif (findF es s now).fst != (0 : Int) then some (AV.bool true) else bif (findF es o now).fst != (0 : Int) then some (AV.bool true) else bif small (noteO es s junk now).length then bif small (noteO es s junk now).length then bif (findF (noteO es s junk now) s now).fst != (0 : Int) then some (AV.bool false) else bif (findF (noteO es s junk now) o now).fst != (0 : Int) then some (AV.bool false) else bif junk then bif decide (scoreO (noteO es s junk now) s now > scoreO es s now) then some (AV.bool false) else bif !junk then bif decide (scoreO (noteO es s junk now) s now < scoreO es s now) then some (AV.bool false) else bif o == s then some (AV.bool true) else bif scoreO (noteO es s junk now) o now == scoreO es o now then some (AV.bool true) else some (AV.bool false) else bif o == s then some (AV.bool true) else bif scoreO (noteO es s junk now) o now == scoreO es o now then some (AV.bool true) else some (AV.bool false) else bif !junk then bif decide (scoreO (noteO es s junk now) s now < scoreO es s now) then some (AV.bool false) else bif o == s then some (AV.bool true) else bif scoreO (noteO es s junk now) o now == scoreO es o now then some (AV.bool true) else some (AV.bool false) else bif o == s then some (AV.bool true) else bif scoreO (noteO es s junk now) o now == scoreO es o now then some (AV.bool true) else some (AV.bool false) else none else none else none else none else none) (by kernel_rfl) ?_
  rw [hs]
  cases ha : (noteF es s now).1 != 0
  · cases hb : (findF es s now).1 != 0
    · cases hc : (findF es o now).1 != 0
      · obtain ⟨p1, p2, p3, p4⟩ := note_gd hcan junk ha
        obtain ⟨G, a1, t1, a2⟩ := findF_gd hcan hb
        obtain ⟨_, b1, _, b2⟩ := findF_gd hcan hc
        have lp := lk_note hcan (junk := junk) ha
        have f1 : findF (noteO es s junk now) s now = (0, 0) := find0 p2 a1 t1 fun e he => by
          rw [lp, if_pos rfl] at he
          injection he with he; rw [← he, newV_d]; exact Int.le_refl _
        have f2 : findF (noteO es s junk now) o now = (0, 0) := find0 p2 b1 t1 fun e he => by
          rw [lp] at he
          by_cases hab : o = s
          · rw [if_pos hab] at he; injection he with he; rw [← he, newV_d]; exact Int.le_refl _
          · rw [if_neg hab] at he; exact b2 e he
        have s1 : scoreO (noteO es s junk now) s now = sc (addW junk (gV (lk nmOf s es) (now / 86400)) (bV (lk nmOf s es) (now / 86400))).1 (addW junk (gV (lk nmOf s es) (now / 86400)) (bV (lk nmOf s es) (now / 86400))).2 := by
          unfold scoreO
          rw [f1]
          show scoreV (noteO es s junk now) s (now / 86400) = _
          rw [sc_look, lp, if_pos rfl, scV_eq, newV_eq, gV_some, bV_some]
        have s2 : scoreO es s now = sc (gV (lk nmOf s es) (now / 86400)) (bV (lk nmOf s es) (now / 86400)) := by
          unfold scoreO
          rw [hb, cond_false, sc_look, scV_eq]
        have s3 : o ≠ s → scoreO (noteO es s junk now) o now = scoreO es o now := fun hne => by
          unfold scoreO
          rw [f2, hc]
          show scoreV (noteO es s junk now) o (now / 86400) = scoreV es o (now / 86400)
          rw [sc_look, sc_look, lp, if_neg hne]
        obtain ⟨g0, g1, b0, b1⟩ := gV_bd (o := lk nmOf s es) (fun e he => G.all e (look_mem he).1) (now / 86400)
        have last : (bif o == s then some (AV.bool true) else bif scoreO (noteO es s junk now) o now == scoreO es o now then some (AV.bool true) else some (AV.bool false)) = some (AV.bool true) := by
          cases hos : o == s
          · rw [s3 (by simpa using hos)]; simp
          · rfl
        rw [p2.small, f1, f2, s1, s2]
        generalize gV (lk nmOf s es) (now / 86400) = g at *
        generalize bV (lk nmOf s es) (now / 86400) = b at *
        cases junk
        · have : ¬ (sc (addW false g b).1 (addW false g b).2 < sc g b) := by
            have := sc_mono (g := g) (g' := min (g + 1000) 1000000) (b := b) g0 b0 (by omega)
            show ¬ (sc (min (g + 1000) 1000000) b < sc g b)
            omega
          rw [decide_eq_false this]
          exact last
        · have : ¬ (sc (addW true g b).1 (addW true g b).2 > sc g b) := by
            have := sc_anti (g := g) (b := b) (b' := min (b + 1000) 1000000) g0 b0 (by omega)
            show ¬ (sc g (min (b + 1000) 1000000) > sc g b)
            omega
          rw [decide_eq_false this]
          exact last
      · rfl
    · rfl
  · rfl
theorem ok6 : SumOK Try.prog 6 (evF Try.prog GL [] Try.f6) := sum0 gl Try.func6 (by kernel_rfl) fun _ _ _ _ h => h

theorem spec6 (H : Type) : ∀ ds : List (DataW H), ds.length = Try.f6.params.size → Rows.reputationMovesTheScoreSpec.fn H ds = { results := [.lit (.bool true)], args := ds }
  | [_, _, _, _, _], _ => rfl

set_option maxRecDepth 100000 in
theorem lifted6 (os : Os) (started : os.Started) (H : Type) (enc : TypeId × Value → H) :
    ReturnsInHanded {} Try.checked os 6 .any (Rows.reputationMovesTheScoreSpec.pre6 enc Try.prog Try.f6 Rows.reputationMovesTheScoreRow.domain false) (Rows.reputationMovesTheScoreSpec.post enc Try.prog Try.f6 false true false false) := by
  refine returnsInHanded_of_change (C := Try.checked) own started (by kernel_rfl) Try.func6
    (ChangeSpec.witness6 (enc := enc) (C := Try.checked) false ⟨#[], #[.slice none 0 0, .string ⟨#[]⟩, .string ⟨#[]⟩, .bool false, .int .i64 0], []⟩ 8 (by kernel_rfl) (by kernel_rfl) (by kernel_rfl) (by kernel_rfl)) ?_
  intro W base args ds gs before hval hW _ _
  refine contract_of (bk H) (n := 12) (tb := 4) (F := evF Try.prog GL [] Try.f6) (by kernel_rfl) (by kernel_rfl) (by kernel_rfl) rfl (by kernel_rfl) (by kernel_rfl) (spec6 H) (ok6) (fun avs hg => ?_) hval hW
  have hh : hasAll [.slice sS, .str, .str, .bool, .int .i64] avs = true := hg.has
  obtain ⟨v0, cs, rfl, h0, hh⟩ := hasAll_cons hh
  obtain ⟨v1, cs, rfl, h1, hh⟩ := hasAll_cons hh
  obtain ⟨v2, cs, rfl, h2, hh⟩ := hasAll_cons hh
  obtain ⟨v3, cs, rfl, h3, hh⟩ := hasAll_cons hh
  obtain ⟨v4, cs, rfl, h4, hh⟩ := hasAll_cons hh
  obtain rfl := hasAll_nil hh
  obtain ⟨es, rfl, hs, hcan⟩ := open_senders h0 (hg.fit _ (by simp))
  obtain ⟨s, rfl⟩ := has_str h1
  obtain ⟨o, rfl⟩ := has_str h2
  obtain ⟨junk, rfl⟩ := has_bool h3
  obtain ⟨now, rfl⟩ := has_int h4
  exact law6 es s o junk now hs hcan

theorem moves_the_score : Rows.ReputationMovesTheScoreSaid :=
  OpenClaim.holds_of_wide 6 Try.f6 rfl rfl rfl rfl rfl rfl rfl ⟨rfl, rfl, rfl, rfl, rfl⟩ rfl rfl rfl rfl rfl (by kernel_rfl) Try.func6 (by kernel_rfl)
    (of_decide_eq_true (by kernel_rfl)) (by unfold Func.isWrapper; first | (rw [if_pos (by decide +kernel)]; kernel_rfl) | (rw [if_neg (by decide +kernel)]; exact ⟨rfl, rfl⟩))
    (fun os started H enc _ => lifted6 os started H enc)

end Go.Proofs.Ytbbmjifioimlmaa
