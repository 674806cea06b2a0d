/-
  ClassifyScoreMatchesSpec: for every input the call returns true, and the arguments read as before. No condition.
-/
import Derived.Test.YtpgaobdgohlegaaClX
namespace Go.Proofs.Ytpgaobdgohlegaa
open Go.Ev

theorem srt_filter_one {es : List AV} (h : Srt xOf blt es) (s : List UInt8) : es.filter (fun e => xOf e == s) = (lk xOf s es).toList := by
  cases hk : lk xOf s es with
  | none =>
    refine List.filter_eq_nil_iff.2 fun x hx => ?_
    have := look_none.1 hk x hx
    simpa using this
  | some e =>
    obtain ⟨m1, m2⟩ := look_mem hk
    refine srt_ext bltO (List.Pairwise.filter _ h) (List.pairwise_singleton _ _) fun x => ?_
    constructor
    · intro hx
      obtain ⟨x1, x2⟩ := List.mem_filter.1 hx
      have := srt_inj bltO h x1 m1 ((by simpa using x2 : xOf x = s).trans m2.symm)
      rw [this]; exact List.mem_singleton.2 rfl
    · intro hx
      rw [List.mem_singleton.1 hx]
      exact List.mem_filter.2 ⟨m1, by simpa using m2⟩
theorem flat_rat {G J : Int} {es : List AV} (W : Wd G J es) : ∀ ts, (ts.flatMap fun t => rowT G J es (xOf t)) = ratL G J es ts
  | [] => rfl
  | t :: r => by
    rw [List.flatMap_cons, flat_rat W r, ratL_cons]
    unfold rowT
    rw [srt_filter_one W.srt]
    rcases isK_spec W.srt (xOf t) with ⟨k1, k2, k3⟩ | ⟨k1, k2⟩
    · rw [k1, k3]; rfl
    · rw [k1, k2]; rfl
noncomputable def G10s : Env := { G1 with pure := (8, ofT FS8) :: (12, ofT F12) :: (13, ofT F13) :: G1.pure }
theorem g10s : GOK Try.prog G10s := GOK.also (GOK.also (GOK.also g1 ok13) ok12) okS8
def F10s : List AV → Tr AV
  | [] => .leaf (.bool true)
  | _ => .no
theorem dst_one : ratL 0 1 [tk [108, 117, 110, 99, 104] 0 1] [.str [108, 117, 110, 99, 104]] = [.int .i64 1000] := by kernel_rfl
theorem ok10s : SumOK Try.prog 10 (ofT F10s) ∧ SNat (ofT F10s) := by
  refine fn0 g10s Try.func10 (by kernel_rfl) fun ρ avs k r h => ?_
  unfold F10s at h
  split at h
  · have hk := h
    refine Eq.trans (b := k (.bool true)) (by kernel_rfl) hk
  · cases h
noncomputable def GY : Env := { G1 with pure := (10, ofT F10s) :: (8, ofT FS8) :: (9, ofT F20) :: (11, ofT FS11) :: G1.pure }
theorem gY' : GOK Try.prog GY := GOK.also (GOK.also (GOK.also (GOK.also g1 okS11) ok9) okS8) ok10s
theorem law3 (G J : Int) (es ts : List AV) (hs : small es.length = true) (ht : small ts.length = true) (hcan : ∀ e ∈ es, hasSh sK e = true) : evF Try.prog GY [] Try.f3 AV [.agg [.int .i64 G, .int .i64 J, .slv sK es], .slv .str ts] some = some (.bool true) := by
  refine Eq.trans (b := bif small es.length && small ts.length then bif small es.length && small ts.length then bif (commF G J es ts).fst != (0 : Int) then bif (commF G J es ts).fst == (commF G J es ts).fst && ((commF G J es ts).snd == (commF G J es ts).snd && true) then bif scoreS G J es ts == (0 : Int) then some (AV.bool true) else some (AV.bool false) else some (AV.bool false) else bif (commF G J es ts).fst == (0 : Int) then bif decide (es.length ≤ (2000 : Nat) ∧ ts.length ≤ (1000 : Nat)) && (nzD G J es && (decide ((List.flatMap (fun t => rowT G J es (xOf t)) ts).length ≤ (1000 : Nat)) && okL (List.flatMap (fun t => rowT G J es (xOf t)) ts))) then bif scoreS G J es ts == avgL (List.flatMap (fun t => rowT G J es (xOf t)) ts) then some (AV.bool true) else some (AV.bool false) else none else some (AV.bool false) else none else none) (by kernel_rfl) ?_
  rw [hs, ht]
  cases hv : (commF G J es ts).1 != 0
  · obtain ⟨hz, W, T⟩ := comm_ok hv
    obtain ⟨r1, r2⟩ := ratL_ok W ts
    have w1 := W.len
    have t1 := T.len
    have hsc : scoreS G J es ts = avgL (ratL G J es ts) := by unfold scoreS; rw [hv]; rfl
    rw [hsc, flat_rat W, hz, nzD_ok W, r1, decide_eq_true (by omega : (ratL G J es ts).length ≤ 1000), decide_eq_true ⟨w1, t1⟩]
    simp
  · have hsc : scoreS G J es ts = 0 := by unfold scoreS; rw [hv]; rfl
    rw [hsc]
    simp
theorem ok3 : SumOK Try.prog 3 (evF Try.prog GY [] Try.f3) := sum0 gY' Try.func3 (by kernel_rfl) fun _ _ _ _ h => h

theorem spec3 (H : Type) : ∀ ds : List (DataW H), ds.length = Try.f3.params.size → Rows.classifyScoreMatchesSpecSpec.fn H ds = { results := [.lit (.bool true)], args := ds }
  | [_, _], _ => rfl

set_option maxRecDepth 100000 in
theorem lifted3 (os : Os) (started : os.Started) (H : Type) (enc : TypeId × Value → H) :
    ReturnsInHanded {} Try.checked os 3 .any (Rows.classifyScoreMatchesSpecSpec.pre6 enc Try.prog Try.f3 Rows.classifyScoreMatchesSpecRow.domain false) (Rows.classifyScoreMatchesSpecSpec.post enc Try.prog Try.f3 false true false false) := by
  refine returnsInHanded_of_change (C := Try.checked) own started (by kernel_rfl) Try.func3
    (ChangeSpec.witness6 (enc := enc) (C := Try.checked) false ⟨#[], #[.agg #[.int .i64 0, .int .i64 0, .slice none 0 0], .slice none 0 0], []⟩ 8 (by kernel_rfl) (by kernel_rfl) (by kernel_rfl) (by kernel_rfl)) ?_
  intro W base args ds gs before hval hW _ _
  refine contract_of (bk H) (n := 12) (tb := 4) (F := evF Try.prog GY [] Try.f3) (by kernel_rfl) (by kernel_rfl) (by kernel_rfl) rfl (by kernel_rfl) (by kernel_rfl) (spec3 H) (ok3) (fun avs hg => ?_) hval hW
  have hh : hasAll [.agg [.int .i64, .int .i64, .slice sK], .slice .str] avs = true := hg.has
  obtain ⟨v0, cs, rfl, h0, hh⟩ := hasAll_cons hh
  obtain ⟨v1, cs, rfl, h1, hh⟩ := hasAll_cons hh
  obtain rfl := hasAll_nil hh
  obtain ⟨G, J, es, rfl, hs, hcan⟩ := open_words h0 (hg.fit _ (by simp))
  obtain ⟨ts, rfl, ht⟩ := open_toks h1 (hg.fit _ (by simp))
  exact law3 G J es ts hs ht hcan

theorem score_matches_spec : Rows.ClassifyScoreMatchesSpecSaid :=
  OpenClaim.holds_of_wide 3 Try.f3 rfl rfl rfl rfl rfl rfl rfl ⟨rfl, rfl, rfl, rfl, rfl⟩ rfl rfl rfl rfl rfl (by kernel_rfl) Try.func3 (by kernel_rfl)
    (of_decide_eq_true (by kernel_rfl)) (by unfold Func.isWrapper; first | (rw [if_pos (by decide +kernel)]; kernel_rfl) | (rw [if_neg (by decide +kernel)]; exact ⟨rfl, rfl⟩))
    (fun os started H enc _ => lifted3 os started H enc)

end Go.Proofs.Ytpgaobdgohlegaa
