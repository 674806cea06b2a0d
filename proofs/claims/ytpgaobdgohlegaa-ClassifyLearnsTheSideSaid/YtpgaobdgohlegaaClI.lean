/-
  ClassifyLearnsTheSide: for every input the call returns true, and the arguments read as before. No condition.
-/
import Derived.Test.YtpgaobdgohlegaaClG
namespace Go.Proofs.Ytpgaobdgohlegaa
open Go.Ev

theorem rat_cmp {a b c d : Int} (ha : 0 ≤ a) (hb : 0 ≤ b) (hc : 0 ≤ c) (hd : 0 ≤ d) (hab : 0 < a + b) (hcd : 0 < c + d) (h : c * b ≤ a * d) : 1000 * c / (c + d) ≤ 1000 * a / (a + b) := by
  rw [Int.le_ediv_iff_mul_le hab]
  have h1 : 1000 * c / (c + d) * (c + d) ≤ 1000 * c := Int.ediv_mul_le _ (by omega)
  generalize 1000 * c / (c + d) = m at h1
  have h2 : m * (c + d) * (a + b) ≤ 1000 * c * (a + b) := Int.mul_le_mul_of_nonneg_right h1 (by omega)
  have h3 : 1000 * c * (a + b) ≤ 1000 * a * (c + d) := by
    rw [Int.mul_assoc, Int.mul_assoc, Int.mul_add c a b, Int.mul_add a c d, Int.mul_comm a c]
    omega
  have h4 : m * (a + b) * (c + d) ≤ 1000 * a * (c + d) := by
    rw [Int.mul_right_comm]
    omega
  exact Int.le_of_mul_le_mul_right h4 hcd
theorem side_cmp {g j G J : Int} (g0 : 0 ≤ g) (g1 : g ≤ G) (j0 : 0 ≤ j) (j1 : j ≤ J) : j * (G + 1 + 1) * (g * (J + 1 + 1)) ≤ (j + 1) * (G + 1) * ((g + 1) * (J + 1)) := by
  have h1 : j * (J + 1 + 1) ≤ (j + 1) * (J + 1) := by
    rw [Int.mul_add j (J + 1) 1, Int.add_mul]
    omega
  have h2 : g * (G + 1 + 1) ≤ (g + 1) * (G + 1) := by
    rw [Int.mul_add g (G + 1) 1, Int.add_mul]
    omega
  have h3 := Int.mul_le_mul h1 h2 (Int.mul_nonneg g0 (by omega)) (Int.mul_nonneg (by omega) (by omega))
  have e1 : j * (G + 1 + 1) * (g * (J + 1 + 1)) = j * (J + 1 + 1) * (g * (G + 1 + 1)) := by ac_rfl
  have e2 : (j + 1) * (G + 1) * ((g + 1) * (J + 1)) = (j + 1) * (J + 1) * ((g + 1) * (G + 1)) := by ac_rfl
  rw [e1, e2]
  exact h3
theorem score1 {G J : Int} {es : List AV} {t : AV} {junk : Bool} (W : Wd (gN junk G) (jN junk J) (learnF junk es [t])) (T : Tk [t]) (hs : Srt xOf blt es) :
    ratL (gN junk G) (jN junk J) (learnF junk es [t]) [t] = [.int .i64 (rat (gN junk G) (jN junk J) (bump junk (lk xOf (xOf t) es) (xOf t)))] ∧
    scoreO (gN junk G) (jN junk J) (learnF junk es [t]) [t] = rat (gN junk G) (jN junk J) (bump junk (lk xOf (xOf t) es) (xOf t)) ∧ okT (gN junk G) (jN junk J) (bump junk (lk xOf (xOf t) es) (xOf t)) := by
  obtain ⟨i1, i2⟩ := learn_spec junk hs T.srt
  have hl := i2 (xOf t)
  rw [if_pos (by simp)] at hl
  have hok := W.all _ (look_mem hl).1
  have hr : ratL (gN junk G) (jN junk J) (learnF junk es [t]) [t] = [.int .i64 (rat (gN junk G) (jN junk J) (bump junk (lk xOf (xOf t) es) (xOf t)))] := by
    rcases isK_spec i1 (xOf t) with ⟨k1, k2, k3⟩ | ⟨k1, k2⟩
    · rw [hl] at k3
      injection k3 with k3
      rw [ratL_cons, k1, ← k3, (rat_ok W.g0 W.g1 W.j0 W.j1 hok).2.1]
      rfl
    · rw [hl] at k2; cases k2
  refine ⟨hr, ?_, hok⟩
  unfold scoreO
  rw [comm_zero W T, hr]
  rfl
theorem law5 (G J : Int) (es ts : List AV) (hs : small es.length = true) (ht : small ts.length = true) (hcan : ∀ e ∈ es, hasSh sK e = true) : evF Try.prog GM [] Try.f5 AV [.agg [.int .i64 G, .int .i64 J, .slv sK es], .slv .str ts] some = some (.bool true) := by
  refine Eq.trans (b := bif small es.length && small ts.length then bif small es.length && small ts.length then bif (lrnF G J es ts true).fst != (0 : Int) then some (AV.bool true) else bif (lrnF G J es ts false).fst != (0 : Int) then some (AV.bool true) else bif (↑ts.length : Int) != (1 : Int) then some (AV.bool true) else bif small (lwE G J es ts true).length && (small ts.length && decide ((ratL (lwG G J es ts true) (lwJ G J es ts true) (lwE G J es ts true) ts).length ≤ (1 : Nat))) then bif small (lwE G J es ts false).length && (small ts.length && decide ((ratL (lwG G J es ts false) (lwJ G J es ts false) (lwE G J es ts false) ts).length ≤ (1 : Nat))) then bif (commF (lwG G J es ts true) (lwJ G J es ts true) (lwE G J es ts true) ts).fst == (0 : Int) then bif (commF (lwG G J es ts false) (lwJ G J es ts false) (lwE G J es ts false) ts).fst == (0 : Int) then bif inR (scoreO (lwG G J es ts true) (lwJ G J es ts true) (lwE G J es ts true) ts) (0 : Int) (1000 : Int) then bif inR (scoreO (lwG G J es ts false) (lwJ G J es ts false) (lwE G J es ts false) ts) (0 : Int) (1000 : Int) then bif decide (scoreO (lwG G J es ts true) (lwJ G J es ts true) (lwE G J es ts true) ts ≥ scoreO (lwG G J es ts false) (lwJ G J es ts false) (lwE G J es ts false) ts) then some (AV.bool true) else some (AV.bool false) else some (AV.bool false) else some (AV.bool false) else some (AV.bool false) else some (AV.bool false) else none else none else none else none) (by kernel_rfl) ?_
  rw [hs, ht]
  cases ha : (lrnF G J es ts true).1 != 0
  · cases hb : (lrnF G J es ts false).1 != 0
    · obtain ⟨_, W, T, _, _, Wa, _⟩ := lrn_ok hcan ha
      obtain ⟨_, _, _, _, _, Wb, _⟩ := lrn_ok hcan hb
      have a1 : lwG G J es ts true = gN true G := by unfold lwG; rw [ha]; rfl
      have a2 : lwJ G J es ts true = jN true J := by unfold lwJ; rw [ha]; rfl
      have a3 : lwE G J es ts true = learnF true es ts := by unfold lwE; rw [ha]; rfl
      have b1 : lwG G J es ts false = gN false G := by unfold lwG; rw [hb]; rfl
      have b2 : lwJ G J es ts false = jN false J := by unfold lwJ; rw [hb]; rfl
      have b3 : lwE G J es ts false = learnF false es ts := by unfold lwE; rw [hb]; rfl
      rw [a1, a2, a3, b1, b2, b3]
      cases h1 : (ts.length : Int) != 1
      · have h1' : ts.length = 1 := by
          have : (ts.length : Int) = 1 := by simpa using h1
          omega
        obtain ⟨t, rfl⟩ : ∃ t, ts = [t] := by
          match ts, h1' with
          | [t], _ => exact ⟨t, rfl⟩
        obtain ⟨p1, p2, p3⟩ := score1 Wa T W.srt
        obtain ⟨q1, q2, q3⟩ := score1 Wb T W.srt
        obtain ⟨_, _, p4, p5⟩ := rat_ok Wa.g0 Wa.g1 Wa.j0 Wa.j1 p3
        obtain ⟨_, _, q4, q5⟩ := rat_ok Wb.g0 Wb.g1 Wb.j0 Wb.j1 q3
        have la := Wa.len
        have lb := Wb.len
        rw [p1, q1, p2, q2, comm_zero Wa T, comm_zero Wb T, small_of (by omega : (learnF true es [t]).length ≤ 10000), small_of (by omega : (learnF false es [t]).length ≤ 10000), inR_of p4 p5, inR_of q4 q5]
        have hp := rat_pos Wa.g0 Wa.j0 p3
        have hq := rat_pos Wb.g0 Wb.j0 q3
        have hge : rat (gN true G) (jN true J) (bump true (lk xOf (xOf t) es) (xOf t)) ≥ rat (gN false G) (jN false J) (bump false (lk xOf (xOf t) es) (xOf t)) := by
          have g0 := W.g0
          have j0 := W.j0
          have he : (0 ≤ gOf ((lk xOf (xOf t) es).getD (tk (xOf t) 0 0)) ∧ gOf ((lk xOf (xOf t) es).getD (tk (xOf t) 0 0)) ≤ G) ∧ 0 ≤ jOf ((lk xOf (xOf t) es).getD (tk (xOf t) 0 0)) ∧ jOf ((lk xOf (xOf t) es).getD (tk (xOf t) 0 0)) ≤ J := by
            cases hk : lk xOf (xOf t) es with
            | none => exact ⟨⟨Int.le_refl _, g0⟩, Int.le_refl _, j0⟩
            | some y => obtain ⟨_, y2, y3, _⟩ := W.all y (look_mem hk).1; exact ⟨y2, y3⟩
          unfold bump at hp hq ⊢
          generalize (lk xOf (xOf t) es).getD (tk (xOf t) 0 0) = e at he hp hq
          obtain ⟨⟨e1, e2⟩, e3, e4⟩ := he
          exact rat_cmp (Int.mul_nonneg (by show 0 ≤ jOf e + 1; omega) (by show 0 ≤ G + 1; omega)) (Int.mul_nonneg e1 (by show 0 ≤ J + 1 + 1; omega)) (Int.mul_nonneg e3 (by show 0 ≤ G + 1 + 1; omega)) (Int.mul_nonneg (by show 0 ≤ gOf e + 1; omega) (by show 0 ≤ J + 1; omega)) hp hq (side_cmp e1 e2 e3 e4)
        rw [decide_eq_true hge]
        rfl
      · rfl
    · rfl
  · rfl
theorem ok5 : SumOK Try.prog 5 (evF Try.prog GM [] Try.f5) := sum0 gm Try.func5 (by kernel_rfl) fun _ _ _ _ h => h

theorem spec5 (H : Type) : ∀ ds : List (DataW H), ds.length = Try.f5.params.size → Rows.classifyLearnsTheSideSpec.fn H ds = { results := [.lit (.bool true)], args := ds }
  | [_, _], _ => rfl

set_option maxRecDepth 100000 in
theorem lifted5 (os : Os) (started : os.Started) (H : Type) (enc : TypeId × Value → H) :
    ReturnsInHanded {} Try.checked os 5 .any (Rows.classifyLearnsTheSideSpec.pre6 enc Try.prog Try.f5 Rows.classifyLearnsTheSideRow.domain false) (Rows.classifyLearnsTheSideSpec.post enc Try.prog Try.f5 false true false false) := by
  refine returnsInHanded_of_change (C := Try.checked) own started (by kernel_rfl) Try.func5
    (ChangeSpec.witness6 (enc := enc) (C := Try.checked) false ⟨#[], #[.agg #[.int .i64 0, .int .i64 0, .slice none 0 0], .slice none 0 0], []⟩ 8 (by kernel_rfl) (by kernel_rfl) (by kernel_rfl) (by kernel_rfl)) ?_
  intro W base args ds gs before hval hW _ _
  refine contract_of (bk H) (n := 12) (tb := 4) (F := evF Try.prog GM [] Try.f5) (by kernel_rfl) (by kernel_rfl) (by kernel_rfl) rfl (by kernel_rfl) (by kernel_rfl) (spec5 H) (ok5) (fun avs hg => ?_) hval hW
  have hh : hasAll [.agg [.int .i64, .int .i64, .slice sK], .slice .str] avs = true := hg.has
  obtain ⟨v0, cs, rfl, h0, hh⟩ := hasAll_cons hh
  obtain ⟨v1, cs, rfl, h1, hh⟩ := hasAll_cons hh
  obtain rfl := hasAll_nil hh
  obtain ⟨G, J, es, rfl, hs, hcan⟩ := open_words h0 (hg.fit _ (by simp))
  obtain ⟨ts, rfl, ht⟩ := open_toks h1 (hg.fit _ (by simp))
  exact law5 G J es ts hs ht hcan

theorem learns_the_side : Rows.ClassifyLearnsTheSideSaid :=
  OpenClaim.holds_of_wide 5 Try.f5 rfl rfl rfl rfl rfl rfl rfl ⟨rfl, rfl, rfl, rfl, rfl⟩ rfl rfl rfl rfl rfl (by kernel_rfl) Try.func5 (by kernel_rfl)
    (of_decide_eq_true (by kernel_rfl)) (by unfold Func.isWrapper; first | (rw [if_pos (by decide +kernel)]; kernel_rfl) | (rw [if_neg (by decide +kernel)]; exact ⟨rfl, rfl⟩))
    (fun os started H enc _ => lifted5 os started H enc)

end Go.Proofs.Ytpgaobdgohlegaa
