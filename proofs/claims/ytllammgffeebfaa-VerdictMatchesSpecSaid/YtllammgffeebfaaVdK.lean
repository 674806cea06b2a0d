/-
  The faults as the specification counts them: the same as the program's.
-/
import Derived.Test.YtllammgffeebfaaVdI
namespace Go.Proofs.Ytllammgffeebfaa
open Go.Ev

theorem not_in (n a b : Int) : (!(decide (a ≤ n) && decide (n ≤ b))) = out n a b := by
  unfold out
  by_cases h1 : a ≤ n <;> by_cases h2 : n ≤ b
  · rw [decide_eq_true h1, decide_eq_true h2, decide_eq_false (by omega : ¬ n < a), decide_eq_false (by omega : ¬ n > b)]; rfl
  · rw [decide_eq_true h1, decide_eq_false h2, decide_eq_false (by omega : ¬ n < a), decide_eq_true (by omega : n > b)]; rfl
  · rw [decide_eq_false h1, decide_eq_true h2, decide_eq_true (by omega : n < a), decide_eq_false (by omega : ¬ n > b)]; rfl
  · rw [decide_eq_false h1, decide_eq_false h2, decide_eq_true (by omega : n < a), decide_eq_true (by omega : n > b)]; rfl
theorem badV_out (es : List AV) (i : Nat) : badV es i = out (resOf (es.getD i .unk)) 1 4 := rfl

noncomputable def b8 : Code := ((Try.f8.body.map loopsOf).getD []).headD .skip
def L8 : LSumm := fun _ vs rs k => match vs, rs with
  | [.ptr 0 0, .ptr 1 0, .int .i64 i], [some (.box false [.int .i64 h, .slv (.agg [.str, .int .i64]) es, .int .i64 c, .int .i64 rp, .int .i64 j, .bool g, .bool t]), some (.box false [.int .i64 0, .int .i64 0])] =>
    bif cnt es.length i es.length then
      sF (badV es) es.length (fun q => k .ret [.ptr 0 0, .ptr 1 0, .int .i64 (q : Nat)] [some (.box false (rcs h es c rp j g t)), some (.box false [.int .i64 3, .int .i64 (q : Nat)])])
        (k (.exit 0) [.ptr 0 0, .ptr 1 0, .int .i64 es.length] [some (.box false (rcs h es c rp j g t)), some (.box false [.int .i64 0, .int .i64 0])]) i.toNat
    else none
  | _, _ => none
def l8 : Ev.Loop := ⟨{ len := 47, slots := [1, 2, 3], rows := [0, 1] }, L8⟩
def μ8 (vs : List AV) (rs : List (Option Row)) : Nat := match vs, rs with
  | [_, _, .int _ i], [some (.box _ [_, .slv _ es, _, _, _, _, _]), _] => ((es.length : Int) - i).toNat
  | _, _ => 0
theorem loop8 : LoopOK Try.prog G1 [(6, l8)] b8 l8 := by
  refine loopOK_of g1.natOK (KOK.nil (by kernel_rfl)) μ8 (fun ρ vs rs k r h => ?_) (fun ρ vs rs k => ?_)
  · change L8 ρ vs rs k = some r at h
    unfold L8 at h
    split at h
    · rename_i i h' es c rp j' g t
      obtain ⟨hc, hk⟩ := bif_some h
      clear h
      obtain ⟨_, hs, j, rfl, hj⟩ := cnt_spec hc
      rw [Int.toNat_natCast] at hk
      refine Eq.trans (b := bif decide ((j : Int) < es.length) then (bif inb j es.length then
          (bif !(decide (1 ≤ resOf (es.getD (j : Int).toNat .unk)) && decide (resOf (es.getD (j : Int).toNat .unk) ≤ 4)) then k .ret [.ptr 0 0, .ptr 1 0, .int .i64 j] [some (.box false (rcs h' es c rp j' g t)), some (.box false [.int .i64 3, .int .i64 j])]
            else (bif decide (((es.length : Int) - IntKind.i64.wrap (j + 1)).toNat < ((es.length : Int) - j).toNat) then
              L8 ρ [.ptr 0 0, .ptr 1 0, .int .i64 (IntKind.i64.wrap (j + 1))] [some (.box false (rcs h' es c rp j' g t)), some (.box false [.int .i64 0, .int .i64 0])] k else none)) else none)
        else k (.exit 0) [.ptr 0 0, .ptr 1 0, .int .i64 j] [some (.box false (rcs h' es c rp j' g t)), some (.box false [.int .i64 0, .int .i64 0])]) (by kernel_rfl) ?_
      by_cases he : j = es.length
      · subst he
        exact sF_ok hk hj (fun hlt => absurd hlt (Nat.lt_irrefl _))
      · have hlt : j < es.length := by omega
        rw [sF_step _ _ _ _ _ hlt] at hk
        refine Eq.trans (cond_t (decide_eq_true (by omega))) (Eq.trans (cond_t (inb_true (by omega) (by omega))) ?_)
        rw [← hk, cnt_dec hlt hs, Int.toNat_natCast, not_in, ← badV_out]
        cases badV es j <;> first | rfl | exact sF_next hlt hs
    · cases h
  · change L8 ρ vs rs k = (L8 (Ex × List AV × List (Option Row)) vs rs fun e v x => some (e, v, x)).bind fun q => k q.1 q.2.1 q.2.2
    unfold L8 sF
    split
    · rename_i i h' es c rp j' g t
      cases cnt es.length i es.length
      · rfl
      · cases (findN (badV es) es.length i.toNat).isSome <;> rfl
    · rfl

theorem ok8 : SumOK Try.prog 8 F13 ∧ SNat F13 := by
  refine ⟨sum1 (K := [(6, l8)]) (b := b8) (l := l8) g1 Try.func8 (by kernel_rfl) (by kernel_rfl) loop8 fun ρ avs k r h => ?_, ok13.2⟩
  · unfold F13 at h
    split at h
    · rename_i h' es c rp j g t
      obtain ⟨hs, hk⟩ := bif_some h
      clear h
      refine Eq.trans (b := bif !(decide (0 ≤ h') && decide (h' ≤ 5)) then k (fault (3, -2)) else bif decide ((es.length : Int) > 60) then k (fault (2, -1)) else
        bif cnt es.length 0 es.length then (bif (findN (badV es) es.length 0).isSome then k (fault (3, ((findN (badV es) es.length 0).getD 0 : Nat))) else
          bif !(decide (-1 ≤ c) && decide (c ≤ 1000000)) then k (fault (3, -3)) else bif !(decide (-1000 ≤ rp) && decide (rp ≤ 1000)) then k (fault (3, -4)) else
          bif !(decide (0 ≤ j) && decide (j ≤ 1000)) then k (fault (3, -5)) else k (fault (0, 0))) else none) (by kernel_rfl) ?_
      rw [cnt_zero hs, not_in, not_in, not_in, not_in]
      unfold vF restF at hk
      generalize out h' 0 5 = a1 at hk ⊢
      generalize decide ((es.length : Int) > 60) = a3 at hk ⊢
      generalize (findN (badV es) es.length 0).isSome = a4 at hk ⊢
      generalize out c (-1) 1000000 = a5 at hk ⊢
      generalize out rp (-1000) 1000 = a7 at hk ⊢
      generalize out j 0 1000 = a9 at hk ⊢
      cases a1
      · cases a3
        · cases a4
          · cases a5
            · cases a7
              · cases a9 <;> exact hk
              · exact hk
            · exact hk
          · exact hk
        · exact hk
      · exact hk
    · cases h

end Go.Proofs.Ytllammgffeebfaa
