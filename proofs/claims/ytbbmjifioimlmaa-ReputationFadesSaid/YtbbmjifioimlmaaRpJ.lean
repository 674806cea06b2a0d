/-
  ReputationFades: for every input the call returns true, and the arguments read as before. No condition.
-/
import Derived.Test.YtbbmjifioimlmaaRpE
namespace Go.Proofs.Ytbbmjifioimlmaa
open Go.Ev

theorem law7 (es : List AV) (s : List UInt8) (now days : Int) (hs : small es.length = true) (hcan : ∀ e ∈ es, eS e = e) : evF Try.prog GL [] Try.f7 AV [.slv sS es, .str s, .int .i64 now, .int .i64 days] some = some (.bool true) := by
  refine Eq.trans (b := bif small es.length then bif (findF es s now).fst != (0 : Int) then some (AV.bool true) else bif !inR days (0 : Int) (100 : Int) then some (AV.bool true) else bif small es.length then bif (findF es s (IntKind.i64.wrap (now + IntKind.i64.wrap ((86400 : Int) * days)))).fst != (0 : Int) then bif (findF es s (IntKind.i64.wrap (now + IntKind.i64.wrap ((86400 : Int) * days)))).fst == (3 : Int) && ((findF es s (IntKind.i64.wrap (now + IntKind.i64.wrap ((86400 : Int) * days)))).snd == (-2 : Int) && true) then some (AV.bool true) else some (AV.bool false) else bif decide (days ≥ (30 : Int)) then bif scoreO es s (IntKind.i64.wrap (now + IntKind.i64.wrap ((86400 : Int) * days))) != (0 : Int) then some (AV.bool false) else bif decide (scoreO es s now ≤ (0 : Int)) then bif decide (scoreO es s now ≥ (0 : Int)) then some (AV.bool true) else bif decide (scoreO es s (IntKind.i64.wrap (now + IntKind.i64.wrap ((86400 : Int) * days))) ≤ (0 : Int)) then some (AV.bool true) else some (AV.bool false) else bif decide (scoreO es s (IntKind.i64.wrap (now + IntKind.i64.wrap ((86400 : Int) * days))) ≥ (0 : Int)) then bif decide (scoreO es s now ≥ (0 : Int)) then some (AV.bool true) else bif decide (scoreO es s (IntKind.i64.wrap (now + IntKind.i64.wrap ((86400 : Int) * days))) ≤ (0 : Int)) then some (AV.bool true) else some (AV.bool false) else some (AV.bool false) else bif decide (scoreO es s now ≤ (0 : Int)) then bif decide (scoreO es s now ≥ (0 : Int)) then some (AV.bool true) else bif decide (scoreO es s (IntKind.i64.wrap (now + IntKind.i64.wrap ((86400 : Int) * days))) ≤ (0 : Int)) then some (AV.bool true) else some (AV.bool false) else bif decide (scoreO es s (IntKind.i64.wrap (now + IntKind.i64.wrap ((86400 : Int) * days))) ≥ (0 : Int)) then bif decide (scoreO es s now ≥ (0 : Int)) then some (AV.bool true) else bif decide (scoreO es s (IntKind.i64.wrap (now + IntKind.i64.wrap ((86400 : Int) * days))) ≤ (0 : Int)) then some (AV.bool true) else some (AV.bool false) else some (AV.bool false) else none else none) (by kernel_rfl) ?_
  rw [hs]
  cases ha : (findF es s now).1 != 0
  · cases hb : inR days 0 100
    · rfl
    · obtain ⟨d0, d1⟩ := inR_spec hb
      obtain ⟨G, a1, t1, a2⟩ := findF_gd hcan ha
      rw [tm_next t1 d0 d1]
      cases t2 : tmB (now + 86400 * days)
      · have : findF es s (now + 86400 * days) = (3, -2) := by rw [G.findF, a1, t2]; rfl
        rw [this]
        rfl
      · have hday : (now + 86400 * days) / 86400 = now / 86400 + days := by omega
        have f2 : findF es s (now + 86400 * days) = (0, 0) := find0 G a1 t2 fun e he => by
          have := a2 e he
          omega
        have s1 : scoreO es s now = sc (gV (lk nmOf s es) (now / 86400)) (bV (lk nmOf s es) (now / 86400)) := by
          unfold scoreO
          rw [ha, cond_false, sc_look, scV_eq]
        have s2 : scoreO es s (now + 86400 * days) = sc (halve (gV (lk nmOf s es) (now / 86400)) days) (halve (bV (lk nmOf s es) (now / 86400)) days) := by
          unfold scoreO
          rw [f2]
          show scoreV es s ((now + 86400 * days) / 86400) = _
          rw [sc_look, hday, scV_eq]
          cases hk : lk nmOf s es with
          | none =>
            show sc 0 0 = sc (halve 0 days) (halve 0 days)
            rw [halve0]
          | some e =>
            have := a2 e hk
            show sc (halve (gOf e) (now / 86400 + days - dOf e)) (halve (bOf e) (now / 86400 + days - dOf e)) = sc (halve (halve (gOf e) (now / 86400 - dOf e)) days) (halve (halve (bOf e) (now / 86400 - dOf e)) days)
            rw [← halve_add _ _ _ (by omega) d0, ← halve_add _ _ _ (by omega) d0, show now / 86400 + days - dOf e = now / 86400 - dOf e + days from by omega]
        obtain ⟨g0, g1, b0, b1⟩ := gV_bd (o := lk nmOf s es) (fun e he => G.all e (look_mem he).1) (now / 86400)
        rw [f2, s1, s2]
        generalize gV (lk nmOf s es) (now / 86400) = g at *
        generalize bV (lk nmOf s es) (now / 86400) = b at *
        obtain ⟨u0, u1⟩ := halve_bd (d := days) g0 g1
        obtain ⟨v0, v1⟩ := halve_bd (d := days) b0 b1
        have k1 : sc g b ≤ 0 ∨ 0 ≤ sc (halve g days) (halve b days) := by
          by_cases h : g ≤ b
          · exact .inl (sc_nonpos g0 h)
          · exact .inr (sc_nonneg v0 (halve_mono (by omega) days))
        have k2 : 0 ≤ sc g b ∨ sc (halve g days) (halve b days) ≤ 0 := by
          by_cases h : b ≤ g
          · exact .inl (sc_nonneg b0 h)
          · exact .inr (sc_nonpos u0 (halve_mono (by omega) days))
        have k3 : days ≥ 30 → sc (halve g days) (halve b days) = 0 := fun h => by
          rw [halve_30 g0 g1 h, halve_30 b0 b1 h]; rfl
        generalize sc (halve g days) (halve b days) = q at *
        generalize sc g b = p at *
        have e3 : decide (days ≥ 30) = true → (q != 0) = false := fun h => by rw [k3 (of_decide_eq_true h)]; rfl
        simp only [bne_self_eq_false, cond_false, cond_true, Bool.not_true]
        by_cases c1 : p ≤ 0 <;> by_cases c2 : p ≥ 0 <;> by_cases c3 : q ≤ 0 <;> by_cases c4 : q ≥ 0 <;> cases c5 : decide (days ≥ 30) <;> first | (exfalso; omega) | (simp only [c1, c2, c3, c4, c5, decide_true, decide_false, cond_true, cond_false]; try (rw [e3 c5]; rfl))
  · rfl
theorem ok7 : SumOK Try.prog 7 (evF Try.prog GL [] Try.f7) := sum0 gl Try.func7 (by kernel_rfl) fun _ _ _ _ h => h

theorem spec7 (H : Type) : ∀ ds : List (DataW H), ds.length = Try.f7.params.size → Rows.reputationFadesSpec.fn H ds = { results := [.lit (.bool true)], args := ds }
  | [_, _, _, _], _ => rfl

set_option maxRecDepth 100000 in
theorem lifted7 (os : Os) (started : os.Started) (H : Type) (enc : TypeId × Value → H) :
    ReturnsInHanded {} Try.checked os 7 .any (Rows.reputationFadesSpec.pre6 enc Try.prog Try.f7 Rows.reputationFadesRow.domain false) (Rows.reputationFadesSpec.post enc Try.prog Try.f7 false true false false) := by
  refine returnsInHanded_of_change (C := Try.checked) own started (by kernel_rfl) Try.func7
    (ChangeSpec.witness6 (enc := enc) (C := Try.checked) false ⟨#[], #[.slice none 0 0, .string ⟨#[]⟩, .int .i64 0, .int .i64 0], []⟩ 8 (by kernel_rfl) (by kernel_rfl) (by kernel_rfl) (by kernel_rfl)) ?_
  intro W base args ds gs before hval hW _ _
  refine contract_of (bk H) (n := 12) (tb := 4) (F := evF Try.prog GL [] Try.f7) (by kernel_rfl) (by kernel_rfl) (by kernel_rfl) rfl (by kernel_rfl) (by kernel_rfl) (spec7 H) (ok7) (fun avs hg => ?_) hval hW
  have hh : hasAll [.slice sS, .str, .int .i64, .int .i64] avs = true := hg.has
  obtain ⟨v0, cs, rfl, h0, hh⟩ := hasAll_cons hh
  obtain ⟨v1, cs, rfl, h1, hh⟩ := hasAll_cons hh
  obtain ⟨v2, cs, rfl, h2, hh⟩ := hasAll_cons hh
  obtain ⟨v3, cs, rfl, h3, hh⟩ := hasAll_cons hh
  obtain rfl := hasAll_nil hh
  obtain ⟨es, rfl, hs, hcan⟩ := open_senders h0 (hg.fit _ (by simp))
  obtain ⟨s, rfl⟩ := has_str h1
  obtain ⟨now, rfl⟩ := has_int h2
  obtain ⟨days, rfl⟩ := has_int h3
  exact law7 es s now days hs hcan

theorem fades : Rows.ReputationFadesSaid :=
  OpenClaim.holds_of_wide 7 Try.f7 rfl rfl rfl rfl rfl rfl rfl ⟨rfl, rfl, rfl, rfl, rfl⟩ rfl rfl rfl rfl rfl (by kernel_rfl) Try.func7 (by kernel_rfl)
    (of_decide_eq_true (by kernel_rfl)) (by unfold Func.isWrapper; first | (rw [if_pos (by decide +kernel)]; kernel_rfl) | (rw [if_neg (by decide +kernel)]; exact ⟨rfl, rfl⟩))
    (fun os started H enc _ => lifted7 os started H enc)

end Go.Proofs.Ytbbmjifioimlmaa
