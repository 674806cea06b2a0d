/-
  The law of monotony: for every input the call returns true, and the arguments read as before. No condition.
-/
import Derived.Test.YtllammgffeebfaaVdI
namespace Go.Proofs.Ytllammgffeebfaa
open Go.Ev

def valI (e : AV) : Int := (e.cells.headD .unk).toInt
def badP (ps qs : List AV) (i : Nat) : Bool := decide (valI (qs.getD i .unk) < valI (ps.getD i .unk))
noncomputable def b4 : Code := ((Try.f4.body.map loopsOf).getD []).headD .skip
def L4 : LSumm := fun _ vs rs k => match vs, rs with
  | [.bool z, .int .i64 m, .int .i64 n, .slv (.int .i64) ps, .slv (.int .i64) qs, .int .i64 i], [] =>
    bif cnt 5 i 5 && (Nat.beq ps.length 5 && Nat.beq qs.length 5) then sF (badP ps qs) 5 (fun q => k .ret [.bool true, .int .i64 m, .int .i64 n, .slv (.int .i64) ps, .slv (.int .i64) qs, .int .i64 (q : Nat)] []) (k (.exit 0) [.bool z, .int .i64 m, .int .i64 n, .slv (.int .i64) ps, .slv (.int .i64) qs, .int .i64 5] []) i.toNat else none
  | _, _ => none
def l4 : Ev.Loop := ⟨{ len := 77, slots := [4, 5, 8, 11, 12, 13] }, L4⟩
def μ4 (vs : List AV) (_ : List (Option Row)) : Nat := match vs with
  | [_, _, _, _, _, .int _ i] => (5 - i).toNat
  | _ => 0
theorem loop4 : LoopOK Try.prog G10 [(7, l4)] b4 l4 := by
  refine loopOK_of g10.natOK (KOK.nil (by kernel_rfl)) μ4 (fun ρ vs rs k r h => ?_) (fun ρ vs rs k => ?_)
  · change L4 ρ vs rs k = some r at h
    unfold L4 at h
    split at h
    · rename_i z m n ps qs i
      obtain ⟨hc, hk⟩ := bif_some h
      clear h
      simp only [Bool.and_eq_true] at hc
      obtain ⟨hc, hp, hq⟩ := hc
      have hp' : ps.length = 5 := Nat.eq_of_beq_eq_true hp
      have hq' : qs.length = 5 := Nat.eq_of_beq_eq_true hq
      obtain ⟨_, hs, j, rfl, hj⟩ := cnt_spec hc
      rw [Int.toNat_natCast] at hk
      refine Eq.trans (b := bif decide ((j : Int) < (5 : Nat)) then (bif inb j qs.length then (bif inb j ps.length then (bif decide (valI (qs.getD (j : Int).toNat .unk) < valI (ps.getD (j : Int).toNat .unk)) then k .ret [.bool true, .int .i64 m, .int .i64 n, .slv (.int .i64) ps, .slv (.int .i64) qs, .int .i64 j] []
          else (bif decide ((5 - IntKind.i64.wrap ((j : Int) + 1)).toNat < (5 - (j : Int)).toNat) then L4 ρ [.bool z, .int .i64 m, .int .i64 n, .slv (.int .i64) ps, .slv (.int .i64) qs, .int .i64 (IntKind.i64.wrap (j + 1))] [] k else none)) else none) else none)
        else k (.exit 0) [.bool z, .int .i64 m, .int .i64 n, .slv (.int .i64) ps, .slv (.int .i64) qs, .int .i64 j] []) (by kernel_rfl) ?_
      by_cases he : j = 5
      · subst he
        exact sF_ok hk (Nat.le_refl _) (fun hlt => absurd hlt (Nat.lt_irrefl _))
      · have hlt : j < 5 := by omega
        rw [sF_step _ _ _ _ _ hlt] at hk
        refine Eq.trans (cond_t (decide_eq_true (by omega))) (Eq.trans (cond_t (inb_true (by omega) (by omega))) (Eq.trans (cond_t (inb_true (by omega) (by omega))) ?_))
        have hd : decide ((5 - IntKind.i64.wrap ((j : Int) + 1)).toNat < (5 - (j : Int)).toNat) = true := cnt_dec hlt hs
        rw [← hk, hd, Int.toNat_natCast, show badP ps qs j = decide (valI (qs.getD j .unk) < valI (ps.getD j .unk)) from rfl]
        have hL : L4 ρ [.bool z, .int .i64 m, .int .i64 n, .slv (.int .i64) ps, .slv (.int .i64) qs, .int .i64 (IntKind.i64.wrap (j + 1))] [] k = sF (badP ps qs) 5 (fun q => k .ret [.bool true, .int .i64 m, .int .i64 n, .slv (.int .i64) ps, .slv (.int .i64) qs, .int .i64 (q : Nat)] []) (k (.exit 0) [.bool z, .int .i64 m, .int .i64 n, .slv (.int .i64) ps, .slv (.int .i64) qs, .int .i64 5] []) (j + 1) := by
          refine Eq.trans (cond_t (and_t (cnt_next hlt hs).1 (and_t hp hq))) ?_
          rw [(cnt_next hlt hs).2]
        rw [hL]
        cases decide (valI (qs.getD j .unk) < valI (ps.getD j .unk)) <;> rfl
    · cases h
  · change L4 ρ vs rs k = (L4 (Ex × List AV × List (Option Row)) vs rs fun e v x => some (e, v, x)).bind fun q => k q.1 q.2.1 q.2.2
    unfold L4 sF
    split
    · rename_i z m n ps qs i
      generalize (cnt 5 i 5 && (Nat.beq ps.length 5 && Nat.beq qs.length 5)) = c
      cases c
      · rfl
      · cases (findN (badP ps qs) 5 i.toNat).isSome <;> rfl
    · rfl

theorem dec_le {s s' : Int} {g t g' t' : Bool} (h : s ≤ s') (hg : g' = true → g = true) (ht : t' = true → t = true) : decN s g t ≤ decN s' g' t' := by
  refine Int.le_trans (decN_mono h g t) ?_
  unfold decN
  cases decide (s' ≥ 80)
  · cases decide (s' > 0) <;> cases decide (s' ≥ 40) <;> cases g <;> cases t <;> cases g' <;> cases t' <;> first | decide | exact Bool.noConfusion (hg rfl) | exact Bool.noConfusion (ht rfl)
  · exact Int.le_refl _
theorem law4 (h c rp j : Int) (es : List AV) (g t : Bool) (h' c' rp' j' : Int) (es' : List AV) (g' t' : Bool) (hs : small es.length = true) (hs' : small es'.length = true) : evF Try.prog G10 [(7, l4)] Try.f4 AV [.agg (rcs h es c rp j g t), .agg (rcs h' es' c' rp' j' g' t')] some = some (.bool true) := by
  refine Eq.trans (b := bif small es.length then (bif small es'.length then (bif (vF h c rp j es).1 != 0 then some (AV.bool true) else bif (vF h' c' rp' j' es').1 != 0 then some (AV.bool true) else
    bif g' then (bif !g then some (AV.bool true) else bif t' then (bif !t then some (AV.bool true) else bif small es.length && (decide (0 ≤ h) && (decide (h ≤ 5) && (decide (-1000 ≤ rp) && (decide (rp ≤ 1000) && (decide (0 ≤ j) && decide (j ≤ 1000)))))) then (bif small es'.length && (decide (0 ≤ h') && (decide (h' ≤ 5) && (decide (-1000 ≤ rp') && (decide (rp' ≤ 1000) && (decide (0 ≤ j') && decide (j' ≤ 1000)))))) then (bif cnt 5 0 5 then sF (badP (ptL h es c rp j) (ptL h' es' c' rp' j')) 5 (fun _ => some (AV.bool true)) (bif decide ((bif (vF h c rp j es).1 != 0 then 0 else decN (total h es c rp j) g t) ≤ (bif (vF h' c' rp' j' es').1 != 0 then 0 else decN (total h' es' c' rp' j') g' t')) then some (AV.bool true) else some (AV.bool false)) (0 : Int).toNat else none) else none) else none) else bif small es.length && (decide (0 ≤ h) && (decide (h ≤ 5) && (decide (-1000 ≤ rp) && (decide (rp ≤ 1000) && (decide (0 ≤ j) && decide (j ≤ 1000)))))) then (bif small es'.length && (decide (0 ≤ h') && (decide (h' ≤ 5) && (decide (-1000 ≤ rp') && (decide (rp' ≤ 1000) && (decide (0 ≤ j') && decide (j' ≤ 1000)))))) then (bif cnt 5 0 5 then sF (badP (ptL h es c rp j) (ptL h' es' c' rp' j')) 5 (fun _ => some (AV.bool true)) (bif decide ((bif (vF h c rp j es).1 != 0 then 0 else decN (total h es c rp j) g t) ≤ (bif (vF h' c' rp' j' es').1 != 0 then 0 else decN (total h' es' c' rp' j') g' t')) then some (AV.bool true) else some (AV.bool false)) (0 : Int).toNat else none) else none) else none) else bif t' then (bif !t then some (AV.bool true) else bif small es.length && (decide (0 ≤ h) && (decide (h ≤ 5) && (decide (-1000 ≤ rp) && (decide (rp ≤ 1000) && (decide (0 ≤ j) && decide (j ≤ 1000)))))) then (bif small es'.length && (decide (0 ≤ h') && (decide (h' ≤ 5) && (decide (-1000 ≤ rp') && (decide (rp' ≤ 1000) && (decide (0 ≤ j') && decide (j' ≤ 1000)))))) then (bif cnt 5 0 5 then sF (badP (ptL h es c rp j) (ptL h' es' c' rp' j')) 5 (fun _ => some (AV.bool true)) (bif decide ((bif (vF h c rp j es).1 != 0 then 0 else decN (total h es c rp j) g t) ≤ (bif (vF h' c' rp' j' es').1 != 0 then 0 else decN (total h' es' c' rp' j') g' t')) then some (AV.bool true) else some (AV.bool false)) (0 : Int).toNat else none) else none) else none) else bif small es.length && (decide (0 ≤ h) && (decide (h ≤ 5) && (decide (-1000 ≤ rp) && (decide (rp ≤ 1000) && (decide (0 ≤ j) && decide (j ≤ 1000)))))) then (bif small es'.length && (decide (0 ≤ h') && (decide (h' ≤ 5) && (decide (-1000 ≤ rp') && (decide (rp' ≤ 1000) && (decide (0 ≤ j') && decide (j' ≤ 1000)))))) then (bif cnt 5 0 5 then sF (badP (ptL h es c rp j) (ptL h' es' c' rp' j')) 5 (fun _ => some (AV.bool true)) (bif decide ((bif (vF h c rp j es).1 != 0 then 0 else decN (total h es c rp j) g t) ≤ (bif (vF h' c' rp' j' es').1 != 0 then 0 else decN (total h' es' c' rp' j') g' t')) then some (AV.bool true) else some (AV.bool false)) (0 : Int).toNat else none) else none) else none) else none) else none) (by kernel_rfl) ?_
  rw [hs, hs']
  cases hv : (vF h c rp j es).1 != 0
  · cases hv' : (vF h' c' rp' j' es').1 != 0
    · obtain ⟨a1, a2, a3, _, a5, a6, a7, a8, a9, a10, _⟩ := vF_ok (by simpa using hv : (vF h c rp j es).1 = 0)
      obtain ⟨b1, b2, b3, _, b5, b6, b7, b8, b9, b10, _⟩ := vF_ok (by simpa using hv' : (vF h' c' rp' j' es').1 = 0)
      have hp : (true && (decide (0 ≤ h) && (decide (h ≤ 5) && (decide (-1000 ≤ rp) && (decide (rp ≤ 1000) && (decide (0 ≤ j) && decide (j ≤ 1000))))))) = true := and_t rfl (and_t (decide_eq_true a1) (and_t (decide_eq_true a2) (and_t (decide_eq_true a7) (and_t (decide_eq_true a8) (and_t (decide_eq_true a9) (decide_eq_true a10))))))
      have hp' : (true && (decide (0 ≤ h') && (decide (h' ≤ 5) && (decide (-1000 ≤ rp') && (decide (rp' ≤ 1000) && (decide (0 ≤ j') && decide (j' ≤ 1000))))))) = true := and_t rfl (and_t (decide_eq_true b1) (and_t (decide_eq_true b2) (and_t (decide_eq_true b7) (and_t (decide_eq_true b8) (and_t (decide_eq_true b9) (decide_eq_true b10))))))
      rw [hp, hp']
      have hco : (g' = true → g = true) → (t' = true → t = true) → sF (badP (ptL h es c rp j) (ptL h' es' c' rp' j')) 5 (fun _ => some (AV.bool true)) (bif decide (decN (total h es c rp j) g t ≤ decN (total h' es' c' rp' j') g' t') then some (AV.bool true) else some (AV.bool false)) 0 = some (AV.bool true) := fun hg ht => by
        unfold sF
        cases hf : findN (badP (ptL h es c rp j) (ptL h' es' c' rp' j')) 5 0 with
        | some q => rfl
        | none =>
          have hn := findN_none hf
          have e0 : hostP h ≤ hostP h' := Int.not_lt.1 (of_decide_eq_false (hn 0 (Nat.zero_le _) (by omega)))
          have e1 : sigP es ≤ sigP es' := Int.not_lt.1 (of_decide_eq_false (hn 1 (Nat.zero_le _) (by omega)))
          have e2 : chP c ≤ chP c' := Int.not_lt.1 (of_decide_eq_false (hn 2 (Nat.zero_le _) (by omega)))
          have e3 : repP rp ≤ repP rp' := Int.not_lt.1 (of_decide_eq_false (hn 3 (Nat.zero_le _) (by omega)))
          have e4 : junkP j ≤ junkP j' := Int.not_lt.1 (of_decide_eq_false (hn 4 (Nat.zero_le _) (by omega)))
          have hdec := dec_le (s := total h es c rp j) (s' := total h' es' c' rp' j') (by unfold total; omega) hg ht
          rw [decide_eq_true hdec]
          rfl
      have hc5 : cnt 5 0 5 = true := rfl
      cases g' <;> cases t' <;> cases g <;> cases t <;> first | rfl | exact hco (fun _ => rfl) (fun _ => rfl) | exact hco (fun h => by cases h) (fun _ => rfl) | exact hco (fun _ => rfl) (fun h => by cases h) | exact hco (fun h => by cases h) (fun h => by cases h)
    · rfl
  · rfl
theorem ok4 : SumOK Try.prog 4 (evF Try.prog G10 [(7, l4)] Try.f4) := sum1 (K := [(7, l4)]) (b := b4) (l := l4) g10 Try.func4 (by kernel_rfl) (by kernel_rfl) loop4 fun _ _ _ _ h => h

theorem spec4 (H : Type) : ∀ ds : List (DataW H), ds.length = Try.f4.params.size → Rows.verdictIsMonotoneSpec.fn H ds = { results := [.lit (.bool true)], args := ds }
  | [_, _], _ => rfl

set_option maxRecDepth 100000 in
theorem lifted4 (os : Os) (started : os.Started) (H : Type) (enc : TypeId × Value → H) :
    ReturnsInHanded {} Try.checked os 4 .any (Rows.verdictIsMonotoneSpec.pre6 enc Try.prog Try.f4 Rows.verdictIsMonotoneRow.domain false) (Rows.verdictIsMonotoneSpec.post enc Try.prog Try.f4 false true false false) := by
  refine returnsInHanded_of_change (C := Try.checked) own started (by kernel_rfl) Try.func4
    (ChangeSpec.witness6 (enc := enc) (C := Try.checked) false ⟨#[], #[.agg #[.int .i64 0, .slice none 0 0, .int .i64 0, .int .i64 0, .int .i64 0, .bool false, .bool false], .agg #[.int .i64 0, .slice none 0 0, .int .i64 0, .int .i64 0, .int .i64 0, .bool false, .bool false]], []⟩ 8 (by kernel_rfl) (by kernel_rfl) (by kernel_rfl) (by kernel_rfl)) ?_
  intro W base args ds gs before hval hW _ _
  refine contract_of (bk H) (n := 12) (tb := 4) (F := evF Try.prog G10 [(7, l4)] Try.f4) (by kernel_rfl) (by kernel_rfl) rfl (by kernel_rfl) (by kernel_rfl) (spec4 H) (ok4) (fun avs hg => ?_) hval hW
  have hh : hasAll [.agg [.int .i64, .slice sV, .int .i64, .int .i64, .int .i64, .bool, .bool], .agg [.int .i64, .slice sV, .int .i64, .int .i64, .int .i64, .bool, .bool]] avs = true := hg.has
  obtain ⟨v0, cs, rfl, h0, hh⟩ := hasAll_cons hh
  obtain ⟨v1, cs, rfl, h1, hh⟩ := hasAll_cons hh
  obtain rfl := hasAll_nil hh
  obtain ⟨h, es, c, rp, j, g, t, rfl, hs⟩ := open_results h0 (hg.fit _ (by simp))
  obtain ⟨h', es', c', rp', j', g', t', rfl, hs'⟩ := open_results h1 (hg.fit _ (by simp))
  exact law4 h c rp j es g t h' c' rp' j' es' g' t' hs hs'

theorem is_monotone : Rows.VerdictIsMonotoneSaid :=
  OpenClaim.holds_of_wide 4 Try.f4 rfl rfl rfl rfl rfl rfl rfl ⟨rfl, rfl, rfl, rfl, rfl⟩ rfl rfl rfl rfl rfl (by kernel_rfl) Try.func4 (by kernel_rfl)
    (of_decide_eq_true (by kernel_rfl)) (by unfold Func.isWrapper; first | (rw [if_pos (by decide +kernel)]; kernel_rfl) | (rw [if_neg (by decide +kernel)]; exact ⟨rfl, rfl⟩))
    (fun os started H enc _ => lifted4 os started H enc)

end Go.Proofs.Ytllammgffeebfaa
