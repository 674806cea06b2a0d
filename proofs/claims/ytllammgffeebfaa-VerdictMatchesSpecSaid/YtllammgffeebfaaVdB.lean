/-
  Whether a result is among the signatures: slices.IndexFunc, slices.ContainsFunc, and the points of the signatures.
-/
import Derived.Test.YtllammgffeebfaaVdA
import Derived.Test.YtllammgffeebfaaFind
namespace Go.Proofs.Ytllammgffeebfaa
open Go.Ev

abbrev sV : Sh := .agg [.str, .int .i64]
/-- The field 'Result' of a signature. -/
def resOf (e : AV) : Int := (e.cells.tail.headD .unk).toInt
def isV (x : Int) (e : AV) : Bool := resOf e == x

noncomputable def G2 : Env := ⟨[(26, evF Try.prog G0 [] Try.f26)], [], false, false⟩
theorem g2 : GOK Try.prog G2 := GOK.also g0 (inl g0 Try.func26 (by kernel_rfl))

noncomputable def b28 : Code := ((Try.f28.body.map loopsOf).getD []).headD .skip
def L28 : LSumm := fun _ vs rs k => match vs, rs with
  | [.slv (.agg [.str, .int .i64]) es, .fn 26 [.ref [.int .i64 x]], .int .i64 z, .int .i64 n, .int .i64 i], [] =>
    bif decide (n = es.length) && (decide (0 ≤ i) && (decide (i ≤ n) && small es.length)) then
      (match findFrom (isV x) es i.toNat with
      | some j => k .ret [.slv sV es, .fn 26 [.ref [.int .i64 x]], .int .i64 j, .int .i64 n, .int .i64 j] []
      | none => k (.exit 0) [.slv sV es, .fn 26 [.ref [.int .i64 x]], .int .i64 z, .int .i64 n, .int .i64 n] [])
    else none
  | _, _ => none
def l28 : Ev.Loop := ⟨{ len := 19, slots := [0, 1, 4, 7, 8] }, L28⟩
def μ28 (vs : List AV) (_ : List (Option Row)) : Nat := match vs with
  | [_, _, _, .int _ n, .int _ i] => (n - i).toNat
  | _ => 0
theorem loop28 : LoopOK Try.prog G2 [(2, l28)] b28 l28 := by
  refine loopOK_of g2.natOK (KOK.nil (by kernel_rfl)) μ28 (fun ρ vs rs k r h => ?_) (fun ρ vs rs k => ?_)
  · change L28 ρ vs rs k = some r at h
    unfold L28 at h
    split at h
    · rename_i es x z n i
      obtain ⟨hc, h⟩ := bif_some h
      simp only [Bool.and_eq_true, decide_eq_true_eq] at hc
      obtain ⟨rfl, h0, h1, hs⟩ := hc
      have hs' := small_le hs
      obtain ⟨j, rfl⟩ : ∃ j : Nat, i = j := ⟨i.toNat, by omega⟩
      rw [Int.toNat_natCast] at h
      refine Eq.trans (b := bif decide ((j : Int) < es.length) then (bif inb j es.length then (bif isV x (es.getD (j : Int).toNat .unk) then
          k .ret [.slv sV es, .fn 26 [.ref [.int .i64 x]], .int .i64 j, .int .i64 es.length, .int .i64 j] []
        else (bif decide (((es.length : Int) - IntKind.i64.wrap (j + 1)).toNat < ((es.length : Int) - j).toNat) then L28 ρ [.slv sV es, .fn 26 [.ref [.int .i64 x]], .int .i64 z, .int .i64 es.length, .int .i64 (IntKind.i64.wrap (j + 1))] [] k else none)) else none)
        else k (.exit 0) [.slv sV es, .fn 26 [.ref [.int .i64 x]], .int .i64 z, .int .i64 es.length, .int .i64 j] []) (by kernel_rfl) ?_
      rw [Int.toNat_natCast]
      by_cases hlt : j < es.length
      · rw [wrap_small _ (by omega) (by omega)]
        rw [findFrom_step _ _ _ hlt] at h
        rw [decide_eq_true (by omega : (j : Int) < es.length), inb_true (by omega) (by omega), decide_eq_true (by omega : ((es.length : Int) - (j + 1)).toNat < ((es.length : Int) - j).toNat)]
        simp only [cond_true]
        cases hp : isV x (es.getD j .unk) with
        | true => rw [hp] at h; exact h
        | false =>
          rw [hp] at h
          simp only [cond_false] at h ⊢
          refine Eq.trans (cond_t (and_t (decide_eq_true rfl) (and_t (decide_eq_true (by omega)) (and_t (decide_eq_true (by omega)) hs)))) ?_
          rw [show ((j : Int) + 1).toNat = j + 1 from by omega]
          exact h
      · have : j = es.length := by omega
        subst this
        rw [findFrom_end _ _ _ (Nat.le_refl _)] at h
        rw [decide_eq_false (by omega : ¬ (es.length : Int) < es.length)]
        exact h
    · cases h
  · change L28 ρ vs rs k = (L28 (Ex × List AV × List (Option Row)) vs rs fun e v x => some (e, v, x)).bind fun q => k q.1 q.2.1 q.2.2
    unfold L28
    split
    · rename_i es x z n i
      generalize (decide (n = es.length) && (decide (0 ≤ i) && (decide (i ≤ n) && small es.length))) = c
      cases c
      · rfl
      · cases findFrom (isV x) es i.toNat <;> rfl
    · rfl

def F28 : Summ := fun _ avs k => match avs with
  | [.slv (.agg [.str, .int .i64]) es, .fn 26 [.ref [.int .i64 x]]] => bif small es.length then k (.int .i64 (idxZ (findFrom (isV x) es 0))) else none
  | _ => none
theorem ok28 : SumOK Try.prog 28 F28 ∧ SNat F28 := by
  refine ⟨sum1 (K := [(2, l28)]) (b := b28) (l := l28) g2 Try.func28 (by kernel_rfl) (by kernel_rfl) loop28 fun ρ avs k r h => ?_, fun ρ avs k => ?_⟩
  · unfold F28 at h
    split at h
    · rename_i es x
      obtain ⟨hs, h⟩ := bif_some h
      refine Eq.trans (b := bif decide ((es.length : Int) = es.length) && (decide ((0 : Int) ≤ 0) && (decide ((0 : Int) ≤ es.length) && small es.length)) then
        (match findFrom (isV x) es 0 with
        | some j => k (.int .i64 j)
        | none => k (.int .i64 (-1))) else none) (by kernel_rfl) ?_
      rw [decide_eq_true (rfl : (es.length : Int) = es.length), decide_eq_true (by omega : (0 : Int) ≤ 0), decide_eq_true (by omega : (0 : Int) ≤ es.length), hs]
      cases hf : findFrom (isV x) es 0 <;> rw [hf] at h <;> exact h
    · cases h
  · unfold F28
    split
    · rename_i es x
      generalize small es.length = c
      cases c <;> rfl
    · rfl

end Go.Proofs.Ytllammgffeebfaa
