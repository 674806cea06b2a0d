/-
  ReputationNoteMatchesSpec: for every input the call returns true, and the arguments read as before. No condition.
-/
import Derived.Test.YtbbmjifioimlmaaRpE
namespace Go.Proofs.Ytbbmjifioimlmaa
open Go.Ev

theorem law3 (es : List AV) (s : List UInt8) (junk : Bool) (now : Int) (hs : small es.length = true) (hcan : ∀ e ∈ es, eS e = e) : evF Try.prog GL [] Try.f3 AV [.slv sS es, .str s, .bool junk, .int .i64 now] some = some (.bool true) := by
  refine Eq.trans (b := bif small es.length then bif small es.length then bif small es.length then bif !((sendF es).fst == (sendF es).fst && ((sendF es).snd == (sendF es).snd && true)) then some (AV.bool false) else bif small es.length then bif (findF es s now).fst == (0 : Int) then bif small es.length then bif decide (idxZ (findS s es) < (0 : Int)) then bif (↑es.length : Int) == (300 : Int) then bif (noteF es s now).fst == (2 : Int) && ((noteF es s now).snd == (-1 : Int) && true) then bif (↑(noteO es s junk now).length : Int) == (0 : Int) then some (AV.bool true) else some (AV.bool false) else some (AV.bool false) else bif (findF es s now).fst != (0 : Int) then bif (noteF es s now).fst == (findF es s now).fst && ((noteF es s now).snd == (findF es s now).snd && true) then bif (↑(noteO es s junk now).length : Int) == (0 : Int) then some (AV.bool true) else some (AV.bool false) else some (AV.bool false) else bif (noteF es s now).fst == (0 : Int) then bif tmB now && (decide (es.length ≤ (1000 : Nat)) && okFor es s (now / (86400 : Int))) then bif small (noteO es s junk now).length then bif same (noteO es s junk now) (insA es s (newS es s junk (now / (86400 : Int)))) then some (AV.bool true) else some (AV.bool false) else none else none else some (AV.bool false) else bif (findF es s now).fst != (0 : Int) then bif (noteF es s now).fst == (findF es s now).fst && ((noteF es s now).snd == (findF es s now).snd && true) then bif (↑(noteO es s junk now).length : Int) == (0 : Int) then some (AV.bool true) else some (AV.bool false) else some (AV.bool false) else bif (noteF es s now).fst == (0 : Int) then bif tmB now && (decide (es.length ≤ (1000 : Nat)) && okFor es s (now / (86400 : Int))) then bif small (noteO es s junk now).length then bif same (noteO es s junk now) (insA es s (newS es s junk (now / (86400 : Int)))) then some (AV.bool true) else some (AV.bool false) else none else none else some (AV.bool false) else none else bif (findF es s now).fst != (0 : Int) then bif (noteF es s now).fst == (findF es s now).fst && ((noteF es s now).snd == (findF es s now).snd && true) then bif (↑(noteO es s junk now).length : Int) == (0 : Int) then some (AV.bool true) else some (AV.bool false) else some (AV.bool false) else bif (noteF es s now).fst == (0 : Int) then bif tmB now && (decide (es.length ≤ (1000 : Nat)) && okFor es s (now / (86400 : Int))) then bif small (noteO es s junk now).length then bif same (noteO es s junk now) (insA es s (newS es s junk (now / (86400 : Int)))) then some (AV.bool true) else some (AV.bool false) else none else none else some (AV.bool false) else none else none else none else none) (by kernel_rfl) ?_
  rw [hs]
  have e1 : ((sendF es).1 == (sendF es).1 && ((sendF es).2 == (sendF es).2 && true)) = true := by simp
  rw [e1]
  cases hv : (findF es s now).1 != 0
  · have hz := findF_z hv
    obtain ⟨G, h1, h2, h3⟩ := findF_gd hcan hv
    have hl := G.len
    have ho : okFor es s (now / 86400) = true := by
      unfold okFor
      cases hq : findS s es with
      | none => rfl
      | some q =>
        obtain ⟨_, q2, _⟩ := find_pos G.ok hq
        have hd := h3 (es.getD q .unk) (by rw [find_look, hq]; rfl)
        obtain ⟨g0, g1⟩ := G.ok.g q q2
        obtain ⟨b0, b1⟩ := G.ok.b q q2
        obtain ⟨d0, d1⟩ := G.ok.d q q2
        exact decide_eq_true ⟨g0, g1, b0, b1, hd, by omega⟩
    have hn := noteF0 hz
    have hk : decide (idxZ (findS s es) < 0) = (lk nmOf s es).isNone := by
      rw [find_look]
      cases findS s es with
      | none => rfl
      | some q => exact decide_eq_false (by show ¬ ((q : Int) < 0); omega)
    have key : ((noteF es s now).1 != 0) = false → (bif small (noteO es s junk now).length then bif same (noteO es s junk now) (insA es s (newS es s junk (now / 86400))) then some (AV.bool true) else some (AV.bool false) else none) = some (AV.bool true) := fun hz => by
      obtain ⟨e1, e2, _⟩ := note_gd hcan junk hz
      have e3 := Gd.insA G.srt hcan (newV (lk nmOf s es) s junk (now / 86400))
      rw [newV_nm] at e3
      rw [e2.small, new_look, e3, e1, same_self]
      rfl
    rw [hk, hz, h2, ho, decide_eq_true (by omega : es.length ≤ 1000)]
    cases h4 : (lk nmOf s es).isNone && ((es.length : Int) == 300)
    · rw [h4] at hn
      have hz0 : ((noteF es s now).1 != 0) = false := by rw [hn]; rfl
      have kk := key hz0
      rw [hn]
      cases h5 : (lk nmOf s es).isNone
      · exact kk
      · rw [h5, Bool.true_and] at h4
        rw [h4]
        exact kk
    · rw [h4] at hn
      simp only [Bool.and_eq_true] at h4
      rw [h4.1, h4.2, hn]
      have : noteO es s junk now = [] := by unfold noteO; rw [hn]; rfl
      rw [this]
      rfl
  · have hn : noteF es s now = findF es s now := by unfold noteF; rw [hv]; rfl
    have ho : noteO es s junk now = [] := by unfold noteO; rw [hn, hv]; rfl
    have hb : ((findF es s now).1 == 0) = false := by simpa [bne] using hv
    rw [hb, hn, ho]
    simp
theorem ok3 : SumOK Try.prog 3 (evF Try.prog GL [] Try.f3) := sum0 gl Try.func3 (by kernel_rfl) fun _ _ _ _ h => h

theorem spec3 (H : Type) : ∀ ds : List (DataW H), ds.length = Try.f3.params.size → Rows.reputationNoteMatchesSpecSpec.fn H ds = { results := [.lit (.bool true)], args := ds }
  | [_, _, _, _], _ => rfl

set_option maxRecDepth 100000 in
theorem lifted3 (os : Os) (started : os.Started) (H : Type) (enc : TypeId × Value → H) :
    ReturnsInHanded {} Try.checked os 3 .any (Rows.reputationNoteMatchesSpecSpec.pre6 enc Try.prog Try.f3 Rows.reputationNoteMatchesSpecRow.domain false) (Rows.reputationNoteMatchesSpecSpec.post enc Try.prog Try.f3 false true false false) := by
  refine returnsInHanded_of_change (C := Try.checked) own started (by kernel_rfl) Try.func3
    (ChangeSpec.witness6 (enc := enc) (C := Try.checked) false ⟨#[], #[.slice none 0 0, .string ⟨#[]⟩, .bool false, .int .i64 0], []⟩ 8 (by kernel_rfl) (by kernel_rfl) (by kernel_rfl) (by kernel_rfl)) ?_
  intro W base args ds gs before hval hW _ _
  refine contract_of (bk H) (n := 12) (tb := 4) (F := evF Try.prog GL [] Try.f3) (by kernel_rfl) (by kernel_rfl) (by kernel_rfl) rfl (by kernel_rfl) (by kernel_rfl) (spec3 H) (ok3) (fun avs hg => ?_) hval hW
  have hh : hasAll [.slice sS, .str, .bool, .int .i64] avs = true := hg.has
  obtain ⟨v0, cs, rfl, h0, hh⟩ := hasAll_cons hh
  obtain ⟨v1, cs, rfl, h1, hh⟩ := hasAll_cons hh
  obtain ⟨v2, cs, rfl, h2, hh⟩ := hasAll_cons hh
  obtain ⟨v3, cs, rfl, h3, hh⟩ := hasAll_cons hh
  obtain rfl := hasAll_nil hh
  obtain ⟨es, rfl, hs, hcan⟩ := open_senders h0 (hg.fit _ (by simp))
  obtain ⟨s, rfl⟩ := has_str h1
  obtain ⟨junk, rfl⟩ := has_bool h2
  obtain ⟨now, rfl⟩ := has_int h3
  exact law3 es s junk now hs hcan

theorem note_matches_spec : Rows.ReputationNoteMatchesSpecSaid :=
  OpenClaim.holds_of_wide 3 Try.f3 rfl rfl rfl rfl rfl rfl rfl ⟨rfl, rfl, rfl, rfl, rfl⟩ rfl rfl rfl rfl rfl (by kernel_rfl) Try.func3 (by kernel_rfl)
    (of_decide_eq_true (by kernel_rfl)) (by unfold Func.isWrapper; first | (rw [if_pos (by decide +kernel)]; kernel_rfl) | (rw [if_neg (by decide +kernel)]; exact ⟨rfl, rfl⟩))
    (fun os started H enc _ => lifted3 os started H enc)

end Go.Proofs.Ytbbmjifioimlmaa
