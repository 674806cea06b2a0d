/-
  The law of the reasons' points: for every input the call returns true, and the arguments read as before. No condition.
-/
import Derived.Test.YtllammgffeebfaaVdG
namespace Go.Proofs.Ytllammgffeebfaa
open Go.Ev

noncomputable def b5 : Code := ((Try.f5.body.map loopsOf).getD []).headD .skip
def L5 : LSumm := fun _ vs rs k => match vs, rs with
  | [.int .i64 d, .slv (.agg [.str, .int .i64]) es, .int .i64 s, .int .i64 i], [] =>
    bif cnt es.length i es.length then k (.exit 0) [.int .i64 d, .slv sR es, .int .i64 (sumN (es.length - i.toNat) es i.toNat s), .int .i64 es.length] [] else none
  | _, _ => none
def l5 : Ev.Loop := ⟨{ len := 55, slots := [3, 4, 6, 7] }, L5⟩
def μ5 (vs : List AV) (_ : List (Option Row)) : Nat := match vs with
  | [_, .slv _ es, _, .int _ i] => ((es.length : Int) - i).toNat
  | _ => 0
theorem loop5 : LoopOK Try.prog G9 [(6, l5)] b5 l5 := by
  refine loopOK_of g9.natOK (KOK.nil (by kernel_rfl)) μ5 (fun ρ vs rs k r h => ?_) (fun ρ vs rs k => ?_)
  · change L5 ρ vs rs k = some r at h
    unfold L5 at h
    split at h
    · rename_i d es s i
      obtain ⟨hc, hk⟩ := bif_some h
      clear h
      obtain ⟨_, hs, j, rfl, hj⟩ := cnt_spec hc
      rw [Int.toNat_natCast] at hk
      refine Eq.trans (b := bif decide ((j : Int) < es.length) then (bif inb j es.length then
          (bif decide (((es.length : Int) - IntKind.i64.wrap (j + 1)).toNat < ((es.length : Int) - j).toNat) then
              L5 ρ [.int .i64 d, .slv sR es, .int .i64 (IntKind.i64.wrap (s + resOf (es.getD (j : Int).toNat .unk))), .int .i64 (IntKind.i64.wrap (j + 1))] [] k else none) else none)
        else k (.exit 0) [.int .i64 d, .slv sR es, .int .i64 s, .int .i64 j] []) (by kernel_rfl) ?_
      by_cases hlt : j < es.length
      · rw [Int.toNat_natCast, decide_eq_true (by omega : (j : Int) < es.length), inb_true (by omega) (by omega), cnt_dec hlt hs]
        rw [show es.length - j = (es.length - (j + 1)) + 1 from by omega] at hk
        simp only [cond_true]
        refine Eq.trans (cond_t (cnt_next hlt hs).1) ?_
        rw [(cnt_next hlt hs).2]
        exact hk
      · have hje : j = es.length := by omega
        subst hje
        rw [decide_eq_false (by omega : ¬ ((es.length : Int) < es.length))]
        rw [show es.length - es.length = 0 from by omega] at hk
        exact hk
    · cases h
  · change L5 ρ vs rs k = (L5 (Ex × List AV × List (Option Row)) vs rs fun e v x => some (e, v, x)).bind fun q => k q.1 q.2.1 q.2.2
    unfold L5
    split
    · rename_i d es s i
      cases cnt es.length i es.length <;> rfl
    · rfl

/-! ### Sums -/
def sumR (es : List AV) : Int := (es.map resOf).sum
theorem sumN_eq : ∀ (n : Nat) (es : List AV) (i : Nat) (s : Int), i + n = es.length → (∀ e ∈ es, -1000 ≤ resOf e ∧ resOf e ≤ 1000) → es.length ≤ 1000 → -1000 * (i : Int) ≤ s → s ≤ 1000 * (i : Int) → sumN n es i s = s + sumR (es.drop i)
  | 0, es, i, s, h, _, _, _, _ => by
    unfold sumN sumR
    rw [List.drop_of_length_le (by omega)]
    simp
  | n + 1, es, i, s, h, hb, hl, h1, h2 => by
    have hi : i < es.length := by omega
    have hg : es.getD i .unk = es[i] := by simp [List.getD, hi]
    have hbi := hb _ (List.getElem_mem hi)
    unfold sumN
    rw [hg, wrap_mid _ (by omega) (by omega), sumN_eq n es (i + 1) _ (by omega) hb hl (by omega) (by omega)]
    unfold sumR
    rw [List.drop_eq_getElem_cons hi, List.map_cons, List.sum_cons]
    omega
theorem sumR_filter (es : List AV) : sumR (es.filter fun x => !isZ x) = sumR es := by
  unfold sumR
  induction es with
  | nil => rfl
  | cons e es ih =>
    rw [List.filter_cons, List.map_cons, List.sum_cons]
    cases hz : isZ e
    · simp only [Bool.not_false, if_true, List.map_cons, List.sum_cons, ih]
    · have : resOf e = 0 := by simpa [isZ] using hz
      simp only [Bool.not_true, Bool.false_eq_true, if_false, ih, this]
      omega
theorem sumR_append (a b : List AV) : sumR (a ++ b) = sumR a + sumR b := by simp [sumR]
theorem reasons_sum (h : Int) (es : List AV) (c rp j : Int) (g t : Bool) : sumR (reasons h es c rp j g t) = total h es c rp j := by
  unfold reasons
  rw [sumR_append, sumR_append, sumR_filter]
  have e1 : sumR (bif t then [] else [rateR]) = 0 := by cases t <;> rfl
  have e2 : sumR (bif g then [] else [greyR]) = 0 := by cases g <;> rfl
  rw [e1, e2]
  show (hostP h + (sigP es + (chP c + (repP rp + (junkP j + 0))))) + (0 + 0) = _
  unfold total
  omega
theorem reasons_bd {h : Int} {es : List AV} {c rp j : Int} (hz : (vF h c rp j es).1 = 0) (g t : Bool) : (∀ e ∈ reasons h es c rp j g t, -1000 ≤ resOf e ∧ resOf e ≤ 1000) ∧ (reasons h es c rp j g t).length ≤ 7 := by
  obtain ⟨a1, a2, a3, _, a5, a6, a7, a8, a9, a10, _⟩ := vF_ok hz
  have b1 := repP_bd rp a7 a8
  have b2 := junkP_bd j a9 a10
  have b3 := hostP_bd h
  have b4 := sigP_bd es
  have b5 := chP_bd c
  constructor
  · intro e he
    unfold reasons at he
    simp only [List.mem_append] at he
    rcases he with he | he | he
    · have he' := (List.mem_filter.1 he).1
      simp only [aspL, List.mem_cons, List.not_mem_nil, or_false] at he'
      have key : ∀ (a : List UInt8) (n : Int), resOf (mkR a n) = n := fun _ _ => rfl
      rcases he' with rfl | rfl | rfl | rfl | rfl <;> rw [key] <;> omega
    · cases t <;> simp at he
      subst he
      decide
    · cases g <;> simp at he
      subst he
      decide
  · unfold reasons
    simp only [List.length_append]
    have h1 : ((aspL (hostP h) (sigP es) (chP c) (repP rp) (junkP j)).filter (fun x => !isZ x)).length ≤ 5 := List.length_filter_le _ _
    have h2 : (bif t then [] else [rateR]).length ≤ 1 := by cases t <;> simp
    have h3 : (bif g then [] else [greyR]).length ≤ 1 := by cases g <;> simp
    omega

/-- The last test of the law. -/
def fin5 (d s : Int) : Bool := ((d == 4) == decide (s ≥ 80)) && ((d != 1 || decide (s < 40)) && (d != 2 || decide (s ≥ 40)))
theorem fin5_true (s : Int) (g t : Bool) : fin5 (decN s g t) s = true := by
  unfold fin5 decN
  cases h1 : decide (s ≥ 80)
  · cases h2 : (!t || (!g && decide (s > 0)))
    · cases h3 : decide (s ≥ 40)
      · have : decide (s < 40) = true := by simp at h3 ⊢; omega
        rw [this]; rfl
      · rfl
    · rfl
  · rfl
theorem law5 (h c rp j : Int) (es : List AV) (g t : Bool) (hs : small es.length = true) : evF Try.prog G9 [(6, l5)] Try.f5 AV [.agg (rcs h es c rp j g t)] some = some (.bool true) := by
  refine Eq.trans (b := bif small es.length then (bif (vF h c rp j es).1 != 0 then some (AV.bool true) else (bif cnt (bif (vF h c rp j es).1 != 0 then [] else reasons h es c rp j g t).length 0 (bif (vF h c rp j es).1 != 0 then [] else reasons h es c rp j g t).length then
    (fun (d s : Int) => bif (d == 4) == decide (s ≥ 80) then (bif d != 1 then (bif d != 2 then some (AV.bool true) else bif decide (s ≥ 40) then some (AV.bool true) else some (AV.bool false)) else
      (bif decide (s < 40) then (bif d != 2 then some (AV.bool true) else bif decide (s ≥ 40) then some (AV.bool true) else some (AV.bool false)) else some (AV.bool false))) else some (AV.bool false)) (bif (vF h c rp j es).1 != 0 then 0 else decN (total h es c rp j) g t) (sumN ((bif (vF h c rp j es).1 != 0 then [] else reasons h es c rp j g t).length - (0 : Int).toNat) (bif (vF h c rp j es).1 != 0 then [] else reasons h es c rp j g t) (0 : Int).toNat 0) else none)) else none) (by kernel_rfl) ?_
  rw [hs]
  cases hv : (vF h c rp j es).1 != 0
  · have hz : (vF h c rp j es).1 = 0 := by simpa using hv
    obtain ⟨hb, hl⟩ := reasons_bd hz g t
    have hsum := sumN_eq (reasons h es c rp j g t).length (reasons h es c rp j g t) 0 0 (by omega) hb (by omega) (by omega) (by omega)
    rw [List.drop_zero, reasons_sum, Int.zero_add] at hsum
    simp only [cond_true, cond_false, Int.toNat_zero, Nat.sub_zero, hsum]
    rw [cnt_zero (decide_eq_true (by omega))]
    have hf := fin5_true (total h es c rp j) g t
    unfold fin5 at hf
    simp only [cond_true]
    generalize decN (total h es c rp j) g t = d at hf ⊢
    generalize ((d == 4) == decide (total h es c rp j ≥ 80)) = x1 at hf ⊢
    generalize (d != 1) = x2 at hf ⊢
    generalize (d != 2) = x3 at hf ⊢
    generalize decide (total h es c rp j < 40) = x4 at hf ⊢
    generalize decide (total h es c rp j ≥ 40) = x5 at hf ⊢
    cases x1 <;> cases x2 <;> cases x3 <;> cases x4 <;> cases x5 <;> first | rfl | exact absurd hf (by decide)
  · rfl

theorem ok5 : SumOK Try.prog 5 (evF Try.prog G9 [(6, l5)] Try.f5) := sum1 (K := [(6, l5)]) (b := b5) (l := l5) g9 Try.func5 (by kernel_rfl) (by kernel_rfl) loop5 fun _ _ _ _ h => h

theorem spec5 (H : Type) : ∀ ds : List (DataW H), ds.length = Try.f5.params.size → Rows.verdictReasonsAddUpSpec.fn H ds = { results := [.lit (.bool true)], args := ds }
  | [_], _ => rfl

set_option maxRecDepth 100000 in
theorem lifted5 (os : Os) (started : os.Started) (H : Type) (enc : TypeId × Value → H) :
    ReturnsInHanded {} Try.checked os 5 .any (Rows.verdictReasonsAddUpSpec.pre6 enc Try.prog Try.f5 Rows.verdictReasonsAddUpRow.domain false) (Rows.verdictReasonsAddUpSpec.post enc Try.prog Try.f5 false true false false) := by
  refine returnsInHanded_of_change (C := Try.checked) own started (by kernel_rfl) Try.func5
    (ChangeSpec.witness6 (enc := enc) (C := Try.checked) false ⟨#[], #[.agg #[.int .i64 0, .slice none 0 0, .int .i64 0, .int .i64 0, .int .i64 0, .bool false, .bool false]], []⟩ 8 (by kernel_rfl) (by kernel_rfl) (by kernel_rfl) (by kernel_rfl)) ?_
  intro W base args ds gs before hval hW _ _
  refine contract_of (bk H) (n := 12) (tb := 4) (F := evF Try.prog G9 [(6, l5)] Try.f5) (by kernel_rfl) (by kernel_rfl) rfl (by kernel_rfl) (by kernel_rfl) (spec5 H) (ok5) (fun avs hg => ?_) hval hW
  have hh : hasAll [.agg [.int .i64, .slice sV, .int .i64, .int .i64, .int .i64, .bool, .bool]] avs = true := hg.has
  obtain ⟨v0, cs, rfl, h0, hh⟩ := hasAll_cons hh
  obtain rfl := hasAll_nil hh
  obtain ⟨h, es, c, rp, j, g, t, rfl, hs⟩ := open_results h0 (hg.fit _ (by simp))
  exact law5 h c rp j es g t hs

theorem reasons_add_up : Rows.VerdictReasonsAddUpSaid :=
  OpenClaim.holds_of_wide 5 Try.f5 rfl rfl rfl rfl rfl rfl rfl ⟨rfl, rfl, rfl, rfl, rfl⟩ rfl rfl rfl rfl rfl (by kernel_rfl) Try.func5 (by kernel_rfl)
    (of_decide_eq_true (by kernel_rfl)) (by unfold Func.isWrapper; first | (rw [if_pos (by decide +kernel)]; kernel_rfl) | (rw [if_neg (by decide +kernel)]; exact ⟨rfl, rfl⟩))
    (fun os started H enc _ => lifted5 os started H enc)

end Go.Proofs.Ytllammgffeebfaa
