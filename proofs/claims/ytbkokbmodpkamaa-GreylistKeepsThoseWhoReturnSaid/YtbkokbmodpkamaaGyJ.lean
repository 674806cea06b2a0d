/-
  GreylistKeepsThoseWhoReturn: for every input the call returns true, and the arguments read as before. No condition.
-/
import Derived.Test.YtbkokbmodpkamaaGyG
namespace Go.Proofs.Ytbkokbmodpkamaa
open Go.Ev

theorem second5 {A : List AV} (G : Gd A) {x : K3} {now w : Int} {e : AV} (h1 : nm3 x.1 x.2.1 x.2.2 = true) (h2 : tmB now = true) (hw : inR w 0 4000000 = true) (hk : lk kOf x A = some e) (hl : lOf e = now) (hn : knOf e = true) :
    (bif small A.length && A.all (hasSh sE) then bif (tryR A x (IntKind.i64.wrap (now + w))).2.2.1 != 0 then bif (tryR A x (IntKind.i64.wrap (now + w))).2.2.1 == 3 then some (AV.bool true) else bif (tryR A x (IntKind.i64.wrap (now + w))).2.2.1 == 2 then some (AV.bool true) else some (AV.bool false)
      else bif (tryR A x (IntKind.i64.wrap (now + w))).2.1 == decide (w ≤ 3110400) then some (AV.bool true) else some (AV.bool false) else none) = some (AV.bool true) := by
  obtain ⟨w0, w1⟩ := inR_spec hw
  rw [tm_next h2 w0 (by omega), G.small, all_can G.can]
  cases ht : tmB (now + w)
  · rw [try_late G h1 ht]; rfl
  · obtain ⟨s1, s2⟩ := try_some G h1 ht hk (by omega)
    have hold : oldE (now + w) e = decide (w > 3110400) := by
      unfold oldE oldP
      rw [hn, hl, cond_true, wrap_mid (now + w - now) (by omega) (by omega)]
      exact decide_eq_decide.2 (by omega)
    cases ho : oldE (now + w) e
    · rw [s1 ho]
      rw [hold] at ho
      have hb : knOf (upE e (now + w)) = true := by
        show (knOf e || decide (now + w - aOf e ≥ 300)) = _
        rw [hn]; rfl
      rw [hb, decide_eq_true (by have := of_decide_eq_false ho; omega : w ≤ 3110400)]
      rfl
    · rw [s2 ho]
      rw [hold] at ho
      obtain ⟨b, c | c⟩ := newR_code (es := A) (x := x) (now := now + w)
      · rw [b, c, decide_eq_false (by have := of_decide_eq_true ho; omega : ¬ w ≤ 3110400)]
        rfl
      · rw [c]; rfl
theorem law5 (es : List AV) (hh f t : List UInt8) (now w : Int) (hs : small es.length = true) (hcan : ∀ e ∈ es, hasSh sE e = true) : evF Try.prog GL [] Try.f5 AV [.slv sE es, .str hh, .str f, .str t, .int .i64 now, .int .i64 w] some = some (.bool true) := by
  refine Eq.trans (b := bif small es.length && es.all (hasSh sE) then bif (tryR es (hh, f, t) now).snd.snd.fst != (0 : Int) then some (AV.bool true) else bif !(tryR es (hh, f, t) now).snd.fst then some (AV.bool true) else bif !inR w (0 : Int) (4000000 : Int) then some (AV.bool true) else bif small (tryR es (hh, f, t) now).fst.length && (tryR es (hh, f, t) now).fst.all (hasSh sE) then bif (tryR (tryR es (hh, f, t) now).fst (hh, f, t) (IntKind.i64.wrap (now + w))).snd.snd.fst != (0 : Int) then bif (tryR (tryR es (hh, f, t) now).fst (hh, f, t) (IntKind.i64.wrap (now + w))).snd.snd.fst == (3 : Int) then some (AV.bool true) else bif (tryR (tryR es (hh, f, t) now).fst (hh, f, t) (IntKind.i64.wrap (now + w))).snd.snd.fst == (2 : Int) then some (AV.bool true) else some (AV.bool false) else bif (tryR (tryR es (hh, f, t) now).fst (hh, f, t) (IntKind.i64.wrap (now + w))).snd.fst == decide (w ≤ (3110400 : Int)) then some (AV.bool true) else some (AV.bool false) else none else none) (by kernel_rfl) ?_
  rw [hs, all_can hcan]
  rcases try_cases hcan (hh, f, t) now with ⟨h, _⟩ | ⟨G, h1, h2, ⟨e, k1, k2, k3, k4⟩ | ⟨k1, k2, k3⟩⟩
  · rw [h]; rfl
  · rw [k4]
    cases hb : knOf (upE e now)
    · rfl
    · cases hw : inR w 0 4000000
      · rfl
      · obtain ⟨G', hlk⟩ := after_keep G h2 k1 k2
        exact second5 G' h1 h2 hw (e := upE e now) (by rw [hlk, if_pos rfl]) rfl hb
  · rw [k3]; rfl
theorem ok5 : SumOK Try.prog 5 (evF Try.prog GL [] Try.f5) := sum0 gl Try.func5 (by kernel_rfl) fun _ _ _ _ h => h

theorem spec5 (H : Type) : ∀ ds : List (DataW H), ds.length = Try.f5.params.size → Rows.greylistKeepsThoseWhoReturnSpec.fn H ds = { results := [.lit (.bool true)], args := ds }
  | [_, _, _, _, _, _], _ => rfl

set_option maxRecDepth 100000 in
theorem lifted5 (os : Os) (started : os.Started) (H : Type) (enc : TypeId × Value → H) :
    ReturnsInHanded {} Try.checked os 5 .any (Rows.greylistKeepsThoseWhoReturnSpec.pre6 enc Try.prog Try.f5 Rows.greylistKeepsThoseWhoReturnRow.domain false) (Rows.greylistKeepsThoseWhoReturnSpec.post enc Try.prog Try.f5 false true false false) := by
  refine returnsInHanded_of_change (C := Try.checked) own started (by kernel_rfl) Try.func5
    (ChangeSpec.witness6 (enc := enc) (C := Try.checked) false ⟨#[], #[.slice none 0 0, .string ⟨#[]⟩, .string ⟨#[]⟩, .string ⟨#[]⟩, .int .i64 0, .int .i64 0], []⟩ 8 (by kernel_rfl) (by kernel_rfl) (by kernel_rfl) (by kernel_rfl)) ?_
  intro W base args ds gs before hval hW _ _
  refine contract_of (bk H) (n := 12) (tb := 4) (F := evF Try.prog GL [] Try.f5) (by kernel_rfl) (by kernel_rfl) (by kernel_rfl) rfl (by kernel_rfl) (by kernel_rfl) (spec5 H) (ok5) (fun avs hg => ?_) hval hW
  have hh : hasAll [.slice sE, .str, .str, .str, .int .i64, .int .i64] avs = true := hg.has
  obtain ⟨v0, cs, rfl, h0, hh⟩ := hasAll_cons hh
  obtain ⟨v1, cs, rfl, h1, hh⟩ := hasAll_cons hh
  obtain ⟨v2, cs, rfl, h2, hh⟩ := hasAll_cons hh
  obtain ⟨v3, cs, rfl, h3, hh⟩ := hasAll_cons hh
  obtain ⟨v4, cs, rfl, h4, hh⟩ := hasAll_cons hh
  obtain ⟨v5, cs, rfl, h5, hh⟩ := hasAll_cons hh
  obtain rfl := hasAll_nil hh
  obtain ⟨es, rfl, hs, hcan⟩ := open_grey h0 (hg.fit _ (by simp))
  obtain ⟨ho, rfl⟩ := has_str h1
  obtain ⟨f, rfl⟩ := has_str h2
  obtain ⟨t, rfl⟩ := has_str h3
  obtain ⟨now, rfl⟩ := has_int h4
  obtain ⟨w, rfl⟩ := has_int h5
  exact law5 es ho f t now w hs hcan

theorem keeps_those_who_return : Rows.GreylistKeepsThoseWhoReturnSaid :=
  OpenClaim.holds_of_wide 5 Try.f5 rfl rfl rfl rfl rfl rfl rfl ⟨rfl, rfl, rfl, rfl, rfl⟩ rfl rfl rfl rfl rfl (by kernel_rfl) Try.func5 (by kernel_rfl)
    (of_decide_eq_true (by kernel_rfl)) (by unfold Func.isWrapper; first | (rw [if_pos (by decide +kernel)]; kernel_rfl) | (rw [if_neg (by decide +kernel)]; exact ⟨rfl, rfl⟩))
    (fun os started H enc _ => lifted5 os started H enc)

end Go.Proofs.Ytbkokbmodpkamaa
