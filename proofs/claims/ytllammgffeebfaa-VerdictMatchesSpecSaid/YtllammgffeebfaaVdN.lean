/-
  What the specification decides: the same as the program.
-/
import Derived.Test.YtllammgffeebfaaVdM
namespace Go.Proofs.Ytllammgffeebfaa
open Go.Ev

def namesL : List AV := [.str [104, 111, 115, 116], .str [115, 105, 103, 110, 97, 116, 117, 114, 101], .str [99, 104, 97, 105, 110], .str [114, 101, 112, 117, 116, 97, 116, 105, 111, 110], .str [99, 111, 110, 116, 101, 110, 116]]
theorem acc_out (a b c d e : Int) : (accF [.int .i64 a, .int .i64 b, .int .i64 c, .int .i64 d, .int .i64 e] namesL 5 0 0 []).2 = (aspL a b c d e).filter (fun x => !isZ x) := by
  have hz : ∀ s n, (!isZ (mkR s n)) = (n != 0) := fun _ _ => rfl
  show stepO _ _ 4 (stepO _ _ 3 (stepO _ _ 2 (stepO _ _ 1 (stepO _ _ 0 [])))) = _
  unfold stepO
  rw [show vI ([AV.int .i64 a, .int .i64 b, .int .i64 c, .int .i64 d, .int .i64 e].getD 0 .unk) = a from rfl, show vI ([AV.int .i64 a, .int .i64 b, .int .i64 c, .int .i64 d, .int .i64 e].getD 1 .unk) = b from rfl, show vI ([AV.int .i64 a, .int .i64 b, .int .i64 c, .int .i64 d, .int .i64 e].getD 2 .unk) = c from rfl, show vI ([AV.int .i64 a, .int .i64 b, .int .i64 c, .int .i64 d, .int .i64 e].getD 3 .unk) = d from rfl, show vI ([AV.int .i64 a, .int .i64 b, .int .i64 c, .int .i64 d, .int .i64 e].getD 4 .unk) = e from rfl]
  simp only [aspL, List.filter_cons, List.filter_nil, hz]
  cases a != 0 <;> cases b != 0 <;> cases c != 0 <;> cases d != 0 <;> cases e != 0 <;> rfl
theorem acc_sum (a b c d e : Int) : (accF [.int .i64 a, .int .i64 b, .int .i64 c, .int .i64 d, .int .i64 e] namesL 5 0 0 []).1 = IntKind.i64.wrap (IntKind.i64.wrap (IntKind.i64.wrap (IntKind.i64.wrap (IntKind.i64.wrap (0 + a) + b) + c) + d) + e) := by kernel_rfl

def F10 : Summ := fun _ avs k => match avs with
  | [.agg [.int .i64 h, .slv (.agg [.str, .int .i64]) es, .int .i64 c, .int .i64 rp, .int .i64 j, .bool g, .bool t]] =>
    bif small es.length && (decide (0 ≤ h) && (decide (h ≤ 5) && (decide (-1000 ≤ rp) && (decide (rp ≤ 1000) && (decide (0 ≤ j) && decide (j ≤ 1000)))))) then k (.tup [.int .i64 (decN (total h es c rp j) g t), .slv sR (reasons h es c rp j g t)]) else none
  | _ => none
theorem ok10 : SumOK Try.prog 10 F10 ∧ SNat F10 := by
  refine ⟨sum1 (K := [(6, l10)]) (b := b10) (l := l10) g10 Try.func10 (by kernel_rfl) (by kernel_rfl) loop10 fun ρ avs k r h => ?_, fun ρ avs k => ?_⟩
  · unfold F10 at h
    split at h
    · rename_i h' es c rp j g t
      obtain ⟨hs, hk⟩ := bif_some h
      clear h
      have hq := hs
      simp only [Bool.and_eq_true, decide_eq_true_eq] at hq
      obtain ⟨_, a1, a2, a7, a8, a9, a10⟩ := hq
      have hX : (accF (ptL h' es c rp j) namesL (5 - (0 : Int).toNat) (0 : Int).toNat 0 []) = (total h' es c rp j, (aspL (hostP h') (sigP es) (chP c) (repP rp) (junkP j)).filter (fun x => !isZ x)) := by
        have b1 := repP_bd rp a7 a8
        have b2 := junkP_bd j a9 a10
        have b3 := hostP_bd h'
        have b4 := sigP_bd es
        have b5 := chP_bd c
        refine Prod.ext ?_ (acc_out _ _ _ _ _)
        refine (acc_sum _ _ _ _ _).trans ?_
        show _ = hostP h' + sigP es + chP c + repP rp + junkP j
        rw [wrap_mid (0 + hostP h') (by omega) (by omega), wrap_mid (0 + hostP h' + sigP es) (by omega) (by omega), wrap_mid (0 + hostP h' + sigP es + chP c) (by omega) (by omega), wrap_mid (0 + hostP h' + sigP es + chP c + repP rp) (by omega) (by omega), wrap_mid (0 + hostP h' + sigP es + chP c + repP rp + junkP j) (by omega) (by omega)]
        omega
      have hX1 : (accF (ptL h' es c rp j) namesL (5 - (0 : Int).toNat) (0 : Int).toNat 0 []).1 = total h' es c rp j := congrArg Prod.fst hX
      have hX2 : (accF (ptL h' es c rp j) namesL (5 - (0 : Int).toNat) (0 : Int).toNat 0 []).2 = (aspL (hostP h') (sigP es) (chP c) (repP rp) (junkP j)).filter (fun x => !isZ x) := congrArg Prod.snd hX
      clear hX
      have hfl : ((aspL (hostP h') (sigP es) (chP c) (repP rp) (junkP j)).filter (fun x => !isZ x)).length ≤ 5 := List.length_filter_le _ _
      unfold reasons decN at hk
      cases t <;> cases g
      · refine Eq.trans (b := bif small es.length && (decide (0 ≤ h') && (decide (h' ≤ 5) && (decide (-1000 ≤ rp) && (decide (rp ≤ 1000) && (decide (0 ≤ j) && decide (j ≤ 1000)))))) then (bif cnt 5 0 5 && (Nat.beq 5 5 && (Nat.beq 5 5 && Nat.ble 0 (0 : Int).toNat)) then (bif roomB ((accF (ptL h' es c rp j) namesL (5 - (0 : Int).toNat) (0 : Int).toNat 0 []).2.length + 1) 24 then (bif roomB (((accF (ptL h' es c rp j) namesL (5 - (0 : Int).toNat) (0 : Int).toNat 0 []).2 ++ [rateR]).length + 1) 24 then (bif decide ((accF (ptL h' es c rp j) namesL (5 - (0 : Int).toNat) (0 : Int).toNat 0 []).1 ≥ 80) then k (.tup [.int .i64 4, .slv sR ((accF (ptL h' es c rp j) namesL (5 - (0 : Int).toNat) (0 : Int).toNat 0 []).2 ++ [rateR] ++ [greyR])]) else k (.tup [.int .i64 3, .slv sR ((accF (ptL h' es c rp j) namesL (5 - (0 : Int).toNat) (0 : Int).toNat 0 []).2 ++ [rateR] ++ [greyR])])) else none) else none) else none) else none) (by kernel_rfl) ?_
        rw [hs]
        show (bif roomB ((accF (ptL h' es c rp j) namesL (5 - (0 : Int).toNat) (0 : Int).toNat 0 []).2.length + 1) 24 then (bif roomB (((accF (ptL h' es c rp j) namesL (5 - (0 : Int).toNat) (0 : Int).toNat 0 []).2 ++ [rateR]).length + 1) 24 then (bif decide ((accF (ptL h' es c rp j) namesL (5 - (0 : Int).toNat) (0 : Int).toNat 0 []).1 ≥ 80) then k (.tup [.int .i64 4, .slv sR ((accF (ptL h' es c rp j) namesL (5 - (0 : Int).toNat) (0 : Int).toNat 0 []).2 ++ [rateR] ++ [greyR])]) else k (.tup [.int .i64 3, .slv sR ((accF (ptL h' es c rp j) namesL (5 - (0 : Int).toNat) (0 : Int).toNat 0 []).2 ++ [rateR] ++ [greyR])])) else none) else none) = some r
        rw [hX1, hX2]
        rw [room24 _ (by omega), room24 _ (by rw [List.length_append]; simp only [List.length_singleton]; omega), List.append_assoc]
        generalize decide (total h' es c rp j ≥ 80) = d1 at hk ⊢
        try generalize decide (total h' es c rp j > 0) = d2 at hk ⊢
        try generalize decide (total h' es c rp j ≥ 40) = d3 at hk ⊢
        cases d1 <;> first | exact hk | (cases d2 <;> first | exact hk | (cases d3 <;> exact hk)) | (cases d3 <;> exact hk)
      · refine Eq.trans (b := bif small es.length && (decide (0 ≤ h') && (decide (h' ≤ 5) && (decide (-1000 ≤ rp) && (decide (rp ≤ 1000) && (decide (0 ≤ j) && decide (j ≤ 1000)))))) then (bif cnt 5 0 5 && (Nat.beq 5 5 && (Nat.beq 5 5 && Nat.ble 0 (0 : Int).toNat)) then (bif roomB ((accF (ptL h' es c rp j) namesL (5 - (0 : Int).toNat) (0 : Int).toNat 0 []).2.length + 1) 24 then (bif decide ((accF (ptL h' es c rp j) namesL (5 - (0 : Int).toNat) (0 : Int).toNat 0 []).1 ≥ 80) then k (.tup [.int .i64 4, .slv sR ((accF (ptL h' es c rp j) namesL (5 - (0 : Int).toNat) (0 : Int).toNat 0 []).2 ++ [rateR])]) else k (.tup [.int .i64 3, .slv sR ((accF (ptL h' es c rp j) namesL (5 - (0 : Int).toNat) (0 : Int).toNat 0 []).2 ++ [rateR])])) else none) else none) else none) (by kernel_rfl) ?_
        rw [hs]
        show (bif roomB ((accF (ptL h' es c rp j) namesL (5 - (0 : Int).toNat) (0 : Int).toNat 0 []).2.length + 1) 24 then (bif decide ((accF (ptL h' es c rp j) namesL (5 - (0 : Int).toNat) (0 : Int).toNat 0 []).1 ≥ 80) then k (.tup [.int .i64 4, .slv sR ((accF (ptL h' es c rp j) namesL (5 - (0 : Int).toNat) (0 : Int).toNat 0 []).2 ++ [rateR])]) else k (.tup [.int .i64 3, .slv sR ((accF (ptL h' es c rp j) namesL (5 - (0 : Int).toNat) (0 : Int).toNat 0 []).2 ++ [rateR])])) else none) = some r
        rw [hX1, hX2]
        rw [room24 _ (by omega)]
        generalize decide (total h' es c rp j ≥ 80) = d1 at hk ⊢
        try generalize decide (total h' es c rp j > 0) = d2 at hk ⊢
        try generalize decide (total h' es c rp j ≥ 40) = d3 at hk ⊢
        cases d1 <;> first | exact hk | (cases d2 <;> first | exact hk | (cases d3 <;> exact hk)) | (cases d3 <;> exact hk)
      · refine Eq.trans (b := bif small es.length && (decide (0 ≤ h') && (decide (h' ≤ 5) && (decide (-1000 ≤ rp) && (decide (rp ≤ 1000) && (decide (0 ≤ j) && decide (j ≤ 1000)))))) then (bif cnt 5 0 5 && (Nat.beq 5 5 && (Nat.beq 5 5 && Nat.ble 0 (0 : Int).toNat)) then (bif roomB ((accF (ptL h' es c rp j) namesL (5 - (0 : Int).toNat) (0 : Int).toNat 0 []).2.length + 1) 24 then (bif decide ((accF (ptL h' es c rp j) namesL (5 - (0 : Int).toNat) (0 : Int).toNat 0 []).1 ≥ 80) then k (.tup [.int .i64 4, .slv sR ((accF (ptL h' es c rp j) namesL (5 - (0 : Int).toNat) (0 : Int).toNat 0 []).2 ++ [greyR])]) else bif decide ((accF (ptL h' es c rp j) namesL (5 - (0 : Int).toNat) (0 : Int).toNat 0 []).1 > 0) then k (.tup [.int .i64 3, .slv sR ((accF (ptL h' es c rp j) namesL (5 - (0 : Int).toNat) (0 : Int).toNat 0 []).2 ++ [greyR])]) else bif decide ((accF (ptL h' es c rp j) namesL (5 - (0 : Int).toNat) (0 : Int).toNat 0 []).1 ≥ 40) then k (.tup [.int .i64 2, .slv sR ((accF (ptL h' es c rp j) namesL (5 - (0 : Int).toNat) (0 : Int).toNat 0 []).2 ++ [greyR])]) else k (.tup [.int .i64 1, .slv sR ((accF (ptL h' es c rp j) namesL (5 - (0 : Int).toNat) (0 : Int).toNat 0 []).2 ++ [greyR])])) else none) else none) else none) (by kernel_rfl) ?_
        rw [hs]
        show (bif roomB ((accF (ptL h' es c rp j) namesL (5 - (0 : Int).toNat) (0 : Int).toNat 0 []).2.length + 1) 24 then (bif decide ((accF (ptL h' es c rp j) namesL (5 - (0 : Int).toNat) (0 : Int).toNat 0 []).1 ≥ 80) then k (.tup [.int .i64 4, .slv sR ((accF (ptL h' es c rp j) namesL (5 - (0 : Int).toNat) (0 : Int).toNat 0 []).2 ++ [greyR])]) else bif decide ((accF (ptL h' es c rp j) namesL (5 - (0 : Int).toNat) (0 : Int).toNat 0 []).1 > 0) then k (.tup [.int .i64 3, .slv sR ((accF (ptL h' es c rp j) namesL (5 - (0 : Int).toNat) (0 : Int).toNat 0 []).2 ++ [greyR])]) else bif decide ((accF (ptL h' es c rp j) namesL (5 - (0 : Int).toNat) (0 : Int).toNat 0 []).1 ≥ 40) then k (.tup [.int .i64 2, .slv sR ((accF (ptL h' es c rp j) namesL (5 - (0 : Int).toNat) (0 : Int).toNat 0 []).2 ++ [greyR])]) else k (.tup [.int .i64 1, .slv sR ((accF (ptL h' es c rp j) namesL (5 - (0 : Int).toNat) (0 : Int).toNat 0 []).2 ++ [greyR])])) else none) = some r
        rw [hX1, hX2]
        rw [room24 _ (by omega)]
        generalize decide (total h' es c rp j ≥ 80) = d1 at hk ⊢
        try generalize decide (total h' es c rp j > 0) = d2 at hk ⊢
        try generalize decide (total h' es c rp j ≥ 40) = d3 at hk ⊢
        cases d1 <;> first | exact hk | (cases d2 <;> first | exact hk | (cases d3 <;> exact hk)) | (cases d3 <;> exact hk)
      · refine Eq.trans (b := bif small es.length && (decide (0 ≤ h') && (decide (h' ≤ 5) && (decide (-1000 ≤ rp) && (decide (rp ≤ 1000) && (decide (0 ≤ j) && decide (j ≤ 1000)))))) then (bif cnt 5 0 5 && (Nat.beq 5 5 && (Nat.beq 5 5 && Nat.ble 0 (0 : Int).toNat)) then (bif decide ((accF (ptL h' es c rp j) namesL (5 - (0 : Int).toNat) (0 : Int).toNat 0 []).1 ≥ 80) then k (.tup [.int .i64 4, .slv sR (accF (ptL h' es c rp j) namesL (5 - (0 : Int).toNat) (0 : Int).toNat 0 []).2]) else bif decide ((accF (ptL h' es c rp j) namesL (5 - (0 : Int).toNat) (0 : Int).toNat 0 []).1 > 0) then (bif decide ((accF (ptL h' es c rp j) namesL (5 - (0 : Int).toNat) (0 : Int).toNat 0 []).1 ≥ 40) then k (.tup [.int .i64 2, .slv sR (accF (ptL h' es c rp j) namesL (5 - (0 : Int).toNat) (0 : Int).toNat 0 []).2]) else k (.tup [.int .i64 1, .slv sR (accF (ptL h' es c rp j) namesL (5 - (0 : Int).toNat) (0 : Int).toNat 0 []).2])) else (bif decide ((accF (ptL h' es c rp j) namesL (5 - (0 : Int).toNat) (0 : Int).toNat 0 []).1 ≥ 40) then k (.tup [.int .i64 2, .slv sR (accF (ptL h' es c rp j) namesL (5 - (0 : Int).toNat) (0 : Int).toNat 0 []).2]) else k (.tup [.int .i64 1, .slv sR (accF (ptL h' es c rp j) namesL (5 - (0 : Int).toNat) (0 : Int).toNat 0 []).2]))) else none) else none) (by kernel_rfl) ?_
        rw [hs]
        show (bif decide ((accF (ptL h' es c rp j) namesL (5 - (0 : Int).toNat) (0 : Int).toNat 0 []).1 ≥ 80) then k (.tup [.int .i64 4, .slv sR (accF (ptL h' es c rp j) namesL (5 - (0 : Int).toNat) (0 : Int).toNat 0 []).2]) else bif decide ((accF (ptL h' es c rp j) namesL (5 - (0 : Int).toNat) (0 : Int).toNat 0 []).1 > 0) then (bif decide ((accF (ptL h' es c rp j) namesL (5 - (0 : Int).toNat) (0 : Int).toNat 0 []).1 ≥ 40) then k (.tup [.int .i64 2, .slv sR (accF (ptL h' es c rp j) namesL (5 - (0 : Int).toNat) (0 : Int).toNat 0 []).2]) else k (.tup [.int .i64 1, .slv sR (accF (ptL h' es c rp j) namesL (5 - (0 : Int).toNat) (0 : Int).toNat 0 []).2])) else (bif decide ((accF (ptL h' es c rp j) namesL (5 - (0 : Int).toNat) (0 : Int).toNat 0 []).1 ≥ 40) then k (.tup [.int .i64 2, .slv sR (accF (ptL h' es c rp j) namesL (5 - (0 : Int).toNat) (0 : Int).toNat 0 []).2]) else k (.tup [.int .i64 1, .slv sR (accF (ptL h' es c rp j) namesL (5 - (0 : Int).toNat) (0 : Int).toNat 0 []).2]))) = some r
        rw [hX1, hX2]
        simp only [cond_true, List.append_nil] at hk
        generalize decide (total h' es c rp j ≥ 80) = d1 at hk ⊢
        try generalize decide (total h' es c rp j > 0) = d2 at hk ⊢
        try generalize decide (total h' es c rp j ≥ 40) = d3 at hk ⊢
        cases d1 <;> first | exact hk | (cases d2 <;> first | exact hk | (cases d3 <;> exact hk)) | (cases d3 <;> exact hk)
    · cases h
  · unfold F10
    split
    · rename_i h' es c rp j g t
      generalize (small es.length && (decide (0 ≤ h') && (decide (h' ≤ 5) && (decide (-1000 ≤ rp) && (decide (rp ≤ 1000) && (decide (0 ≤ j) && decide (j ≤ 1000))))))) = x
      cases x <;> rfl
    · rfl

end Go.Proofs.Ytllammgffeebfaa
