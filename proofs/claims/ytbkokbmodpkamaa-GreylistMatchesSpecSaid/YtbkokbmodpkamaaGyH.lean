/-
  GreylistMatchesSpec: for every input the call returns true, and the arguments read as before. No condition.
-/
import Derived.Test.YtbkokbmodpkamaaGyG
namespace Go.Proofs.Ytbkokbmodpkamaa
open Go.Ev

theorem law3 (es : List AV) (hh f t : List UInt8) (now : Int) (hs : small es.length = true) (hcan : ∀ e ∈ es, hasSh sE e = true) : evF Try.prog GL [] Try.f3 AV [.slv sE es, .str hh, .str f, .str t, .int .i64 now] some = some (.bool true) := by
  refine Eq.trans (b := bif small es.length && es.all (hasSh sE) then bif small es.length && es.all (hasSh sE) then bif small es.length then bif small es.length then bif (listF es).fst == (listF es).fst && ((listF es).snd == (listF es).snd && true) then bif (tryR es (hh, f, t) now).snd.snd.fst == (tryR es (hh, f, t) now).snd.snd.fst && ((tryR es (hh, f, t) now).snd.snd.snd == (tryR es (hh, f, t) now).snd.snd.snd && true) then bif (tryR es (hh, f, t) now).snd.fst == (tryR es (hh, f, t) now).snd.fst then bif small (tryR es (hh, f, t) now).fst.length then bif same (tryR es (hh, f, t) now).fst (tryR es (hh, f, t) now).fst then some (AV.bool true) else some (AV.bool false) else none else some (AV.bool false) else some (AV.bool false) else some (AV.bool false) else none else none else none else none) (by kernel_rfl) ?_
  rw [hs, all_can hcan]
  have hl := (try_list hcan (hh, f, t) now).small
  rw [hl, same_self]
  simp
theorem ok3 : SumOK Try.prog 3 (evF Try.prog GL [] Try.f3) := sum0 gl Try.func3 (by kernel_rfl) fun _ _ _ _ h => h

theorem spec3 (H : Type) : ∀ ds : List (DataW H), ds.length = Try.f3.params.size → Rows.greylistMatchesSpecSpec.fn H ds = { results := [.lit (.bool true)], args := ds }
  | [_, _, _, _, _], _ => rfl

set_option maxRecDepth 100000 in
theorem lifted3 (os : Os) (started : os.Started) (H : Type) (enc : TypeId × Value → H) :
    ReturnsInHanded {} Try.checked os 3 .any (Rows.greylistMatchesSpecSpec.pre6 enc Try.prog Try.f3 Rows.greylistMatchesSpecRow.domain false) (Rows.greylistMatchesSpecSpec.post enc Try.prog Try.f3 false true false false) := by
  refine returnsInHanded_of_change (C := Try.checked) own started (by kernel_rfl) Try.func3
    (ChangeSpec.witness6 (enc := enc) (C := Try.checked) false ⟨#[], #[.slice none 0 0, .string ⟨#[]⟩, .string ⟨#[]⟩, .string ⟨#[]⟩, .int .i64 0], []⟩ 8 (by kernel_rfl) (by kernel_rfl) (by kernel_rfl) (by kernel_rfl)) ?_
  intro W base args ds gs before hval hW _ _
  refine contract_of (bk H) (n := 12) (tb := 4) (F := evF Try.prog GL [] Try.f3) (by kernel_rfl) (by kernel_rfl) (by kernel_rfl) rfl (by kernel_rfl) (by kernel_rfl) (spec3 H) (ok3) (fun avs hg => ?_) hval hW
  have hh : hasAll [.slice sE, .str, .str, .str, .int .i64] avs = true := hg.has
  obtain ⟨v0, cs, rfl, h0, hh⟩ := hasAll_cons hh
  obtain ⟨v1, cs, rfl, h1, hh⟩ := hasAll_cons hh
  obtain ⟨v2, cs, rfl, h2, hh⟩ := hasAll_cons hh
  obtain ⟨v3, cs, rfl, h3, hh⟩ := hasAll_cons hh
  obtain ⟨v4, cs, rfl, h4, hh⟩ := hasAll_cons hh
  obtain rfl := hasAll_nil hh
  obtain ⟨es, rfl, hs, hcan⟩ := open_grey h0 (hg.fit _ (by simp))
  obtain ⟨ho, rfl⟩ := has_str h1
  obtain ⟨f, rfl⟩ := has_str h2
  obtain ⟨t, rfl⟩ := has_str h3
  obtain ⟨now, rfl⟩ := has_int h4
  exact law3 es ho f t now hs hcan

theorem matches_spec : Rows.GreylistMatchesSpecSaid :=
  OpenClaim.holds_of_wide 3 Try.f3 rfl rfl rfl rfl rfl rfl rfl ⟨rfl, rfl, rfl, rfl, rfl⟩ rfl rfl rfl rfl rfl (by kernel_rfl) Try.func3 (by kernel_rfl)
    (of_decide_eq_true (by kernel_rfl)) (by unfold Func.isWrapper; first | (rw [if_pos (by decide +kernel)]; kernel_rfl) | (rw [if_neg (by decide +kernel)]; exact ⟨rfl, rfl⟩))
    (fun os started H enc _ => lifted3 os started H enc)

end Go.Proofs.Ytbkokbmodpkamaa
