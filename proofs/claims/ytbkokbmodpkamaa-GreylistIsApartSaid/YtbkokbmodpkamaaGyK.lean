/-
  GreylistIsApart: for every input the call returns true, and the arguments read as before. No condition.
-/
import Derived.Test.YtbkokbmodpkamaaGyG
namespace Go.Proofs.Ytbkokbmodpkamaa
open Go.Ev

theorem third6 {A : List AV} (G : Gd A) {x : K3} {now : Int} (h1 : nm3 x.1 x.2.1 x.2.2 = true) (h2 : tmB now = true) (b : Bool) (hl : ∀ e, lk kOf x A = some e → lOf e ≤ now) (hb : ∀ e, lk kOf x A = some e → oldE now e = false → b = knOf (upE e now)) (hb2 : (∀ e, lk kOf x A = some e → oldE now e = true) → b = false) :
    (bif small A.length && A.all (hasSh sE) then bif (tryR A x now).2.2.1 == 2 then some (AV.bool true) else bif (tryR A x now).2.2.1 == 0 then bif (tryR A x now).2.1 == b then some (AV.bool true) else some (AV.bool false) else some (AV.bool false) else none) = some (AV.bool true) := by
  rw [G.small, all_can G.can]
  have hnew : tryR A x now = newR A x now → b = false → (bif true && true then bif (tryR A x now).2.2.1 == 2 then some (AV.bool true) else bif (tryR A x now).2.2.1 == 0 then bif (tryR A x now).2.1 == b then some (AV.bool true) else some (AV.bool false) else some (AV.bool false) else none) = some (AV.bool true) := fun h hb => by
    rw [h, hb]
    obtain ⟨d, c | c⟩ := newR_code (es := A) (x := x) (now := now)
    · rw [c, d]; rfl
    · rw [c]; rfl
  cases hk : lk kOf x A with
  | none => exact hnew (try_none G h1 h2 hk) (hb2 fun e he => by rw [hk] at he; cases he)
  | some e =>
    obtain ⟨s1, s2⟩ := try_some G h1 h2 hk (hl e hk)
    cases ho : oldE now e
    · rw [s1 ho, hb e hk ho]; simp
    · exact hnew (s2 ho) (hb2 fun e' he => by rw [hk] at he; injection he with he; rw [← he]; exact ho)
theorem law6 (es : List AV) (hh f t : List UInt8) (a l : Int) (kn : Bool) (hh' f' t' : List UInt8) (a' l' : Int) (kn' : Bool) (now : Int) (hs : small es.length = true) (hcan : ∀ e ∈ es, hasSh sE e = true) : evF Try.prog GL [] Try.f6 AV [.slv sE es, .agg [.str hh, .str f, .str t, .int .i64 a, .int .i64 l, .bool kn], .agg [.str hh', .str f', .str t', .int .i64 a', .int .i64 l', .bool kn'], .int .i64 now] some = some (.bool true) := by
  refine Eq.trans (b := bif k3eq (hh, f, t) (hh', f', t') then some (AV.bool true) else bif small es.length && es.all (hasSh sE) then bif small es.length && es.all (hasSh sE) then bif (tryR es (hh, f, t) now).snd.snd.fst != (0 : Int) then some (AV.bool true) else bif (tryR es (hh', f', t') now).snd.snd.fst != (0 : Int) then some (AV.bool true) else bif small (tryR es (hh', f', t') now).fst.length && (tryR es (hh', f', t') now).fst.all (hasSh sE) then bif (tryR (tryR es (hh', f', t') now).fst (hh, f, t) now).snd.snd.fst == (2 : Int) then some (AV.bool true) else bif (tryR (tryR es (hh', f', t') now).fst (hh, f, t) now).snd.snd.fst == (0 : Int) then bif (tryR (tryR es (hh', f', t') now).fst (hh, f, t) now).snd.fst == (tryR es (hh, f, t) now).snd.fst then some (AV.bool true) else some (AV.bool false) else some (AV.bool false) else none else none else none) (by kernel_rfl) ?_
  rw [hs, all_can hcan]
  cases hab : k3eq (hh, f, t) (hh', f', t')
  · have hne : (hh, f, t) ≠ (hh', f', t') := fun h => by rw [k3eq_iff.2 h] at hab; cases hab
    have first : ∀ b, (tryR es (hh, f, t) now).2.1 = b → (tryR es (hh, f, t) now).2.2.1 = 0 → Gd es → nm3 hh f t = true → tmB now = true → (∀ e, lk kOf (hh, f, t) es = some e → lOf e ≤ now) ∧ (∀ e, lk kOf (hh, f, t) es = some e → oldE now e = false → b = knOf (upE e now)) ∧ ((∀ e, lk kOf (hh, f, t) es = some e → oldE now e = true) → b = false) := fun b hb hz G h1 h2 => by
      have h3 := (try_ok hcan (x := (hh, f, t)) (now := now) (by rw [hz]; rfl)).2.2.2
      refine ⟨h3, fun e he ho => ?_, fun ho => ?_⟩
      · rw [← hb, (try_some G h1 h2 he (h3 e he)).1 ho]
      · rw [← hb]
        cases hk : lk kOf (hh, f, t) es with
        | none => rw [try_none G h1 h2 hk]; exact newR_code.1
        | some e => rw [(try_some G h1 h2 hk (h3 e hk)).2 (ho e hk)]; exact newR_code.1
    cases hc : (tryR es (hh, f, t) now).2.2.1 != 0
    · have hz : (tryR es (hh, f, t) now).2.2.1 = 0 := by simpa using hc
      obtain ⟨G, h1, h2, _⟩ := try_ok hcan hc
      obtain ⟨f1, f2, f3⟩ := first _ rfl hz G h1 h2
      generalize (tryR es (hh, f, t) now).2.1 = b at *
      rcases try_cases hcan (hh', f', t') now with ⟨h, _⟩ | ⟨_, h1', _, ⟨e, k1, k2, k3, k4⟩ | ⟨k1, k2, k3⟩⟩
      · rw [h]; rfl
      · rw [k4]
        obtain ⟨G', hlk⟩ := after_keep G h2 k1 k2
        have hx := hlk (hh, f, t)
        rw [if_neg hne] at hx
        exact third6 G' h1 h2 b (fun e he => f1 e (hx ▸ he)) (fun e he ho => f2 e (hx ▸ he) ho) (fun ho => f3 fun e he => ho e (hx ▸ he))
      · rw [k3]
        obtain ⟨G', hlk⟩ := after_new G h1' h2 k2 k1
        have hx := hlk (hh, f, t)
        rw [if_neg hne] at hx
        have hx2 : ∀ e, lk kOf (hh, f, t) (ins kOf k3lt (fresh now es) (newE (hh', f', t') now)) = some e → lk kOf (hh, f, t) es = some e ∧ oldE now e = false := fun e he => by
          rw [hx] at he
          cases hk : lk kOf (hh, f, t) es with
          | none => rw [hk] at he; cases he
          | some e' =>
            rw [hk] at he
            dsimp only at he
            cases ho : oldE now e'
            · rw [ho] at he; injection he with he; subst he; exact ⟨rfl, ho⟩
            · rw [ho] at he; cases he
        refine third6 G' h1 h2 b (fun e he => f1 e (hx2 e he).1) (fun e he ho => f2 e (hx2 e he).1 ho) (fun ho => f3 fun e he => ?_)
        cases h4 : oldE now e
        · have : lk kOf (hh, f, t) (ins kOf k3lt (fresh now es) (newE (hh', f', t') now)) = some e := by rw [hx, he]; dsimp only; rw [h4]; rfl
          have := ho e this
          rw [h4] at this; cases this
        · rfl
    · rfl
  · rfl
theorem ok6 : SumOK Try.prog 6 (evF Try.prog GL [] Try.f6) := sum0 gl Try.func6 (by kernel_rfl) fun _ _ _ _ h => h
theorem open_entry {v : AV} (h : hasSh sE v = true) : ∃ hh f t a l kn, v = .agg [.str hh, .str f, .str t, .int .i64 a, .int .i64 l, .bool kn] := ⟨hOf v, fOf v, tOf v, aOf v, lOf v, knOf v, (can_of h).symm⟩

theorem spec6 (H : Type) : ∀ ds : List (DataW H), ds.length = Try.f6.params.size → Rows.greylistIsApartSpec.fn H ds = { results := [.lit (.bool true)], args := ds }
  | [_, _, _, _], _ => rfl

set_option maxRecDepth 100000 in
theorem lifted6 (os : Os) (started : os.Started) (H : Type) (enc : TypeId × Value → H) :
    ReturnsInHanded {} Try.checked os 6 .any (Rows.greylistIsApartSpec.pre6 enc Try.prog Try.f6 Rows.greylistIsApartRow.domain false) (Rows.greylistIsApartSpec.post enc Try.prog Try.f6 false true false false) := by
  refine returnsInHanded_of_change (C := Try.checked) own started (by kernel_rfl) Try.func6
    (ChangeSpec.witness6 (enc := enc) (C := Try.checked) false ⟨#[], #[.slice none 0 0, .agg #[.string ⟨#[]⟩, .string ⟨#[]⟩, .string ⟨#[]⟩, .int .i64 0, .int .i64 0, .bool false], .agg #[.string ⟨#[]⟩, .string ⟨#[]⟩, .string ⟨#[]⟩, .int .i64 0, .int .i64 0, .bool false], .int .i64 0], []⟩ 8 (by kernel_rfl) (by kernel_rfl) (by kernel_rfl) (by kernel_rfl)) ?_
  intro W base args ds gs before hval hW _ _
  refine contract_of (bk H) (n := 12) (tb := 4) (F := evF Try.prog GL [] Try.f6) (by kernel_rfl) (by kernel_rfl) (by kernel_rfl) rfl (by kernel_rfl) (by kernel_rfl) (spec6 H) (ok6) (fun avs hg => ?_) hval hW
  have hh : hasAll [.slice sE, sE, sE, .int .i64] avs = true := hg.has
  obtain ⟨v0, cs, rfl, h0, hh⟩ := hasAll_cons hh
  obtain ⟨v1, cs, rfl, h1, hh⟩ := hasAll_cons hh
  obtain ⟨v2, cs, rfl, h2, hh⟩ := hasAll_cons hh
  obtain ⟨v3, cs, rfl, h3, hh⟩ := hasAll_cons hh
  obtain rfl := hasAll_nil hh
  obtain ⟨es, rfl, hs, hcan⟩ := open_grey h0 (hg.fit _ (by simp))
  obtain ⟨ho, f, t, a, l, kn, rfl⟩ := open_entry h1
  obtain ⟨hh', f', t', a', l', kn', rfl⟩ := open_entry h2
  obtain ⟨now, rfl⟩ := has_int h3
  exact law6 es ho f t a l kn hh' f' t' a' l' kn' now hs hcan

theorem is_apart : Rows.GreylistIsApartSaid :=
  OpenClaim.holds_of_wide 6 Try.f6 rfl rfl rfl rfl rfl rfl rfl ⟨rfl, rfl, rfl, rfl, rfl⟩ rfl rfl rfl rfl rfl (by kernel_rfl) Try.func6 (by kernel_rfl)
    (of_decide_eq_true (by kernel_rfl)) (by unfold Func.isWrapper; first | (rw [if_pos (by decide +kernel)]; kernel_rfl) | (rw [if_neg (by decide +kernel)]; exact ⟨rfl, rfl⟩))
    (fun os started H enc _ => lifted6 os started H enc)

end Go.Proofs.Ytbkokbmodpkamaa
