/-
  What slices.Insert of one element comes to.
-/
import Derived.Test.YtpgaobdgohlegaaTr
namespace Go.Ev

theorem roomB_small {n b : Nat} (h : n ≤ 2000000) (h' : b ≤ 1000) : roomB n b = true := by
  simp only [roomB, Bool.and_eq_true, decide_eq_true_eq]
  have : n * b ≤ 2000000 * 1000 := Nat.mul_le_mul h h'
  omega
theorem slb_true {l h : Int} {m : Nat} (h0 : 0 ≤ l) (h1 : l ≤ h) (h2 : h ≤ m) : slb l h m = true := by simp [slb, h0, h1, h2]
theorem getD_eq {es : List AV} {i : Nat} (h : i < es.length) : es.getD i .unk = es[i] := by simp [List.getD, h]
theorem drop_getD {es : List AV} {i : Nat} (h : i < es.length) : es.drop i = es.getD i .unk :: es.drop (i + 1) := by rw [getD_eq h, List.drop_eq_getElem_cons h]

def spl (A B : List AV) (w : Nat) : List AV := A.take w ++ (B.take (min (A.length - w) B.length) ++ A.drop (w + min (A.length - w) B.length))
theorem spl_eq {P R B : List AV} {w : Nat} (h : P.length = w) (h' : B.length ≤ R.length) : spl (P ++ R) B w = P ++ (B ++ R.drop B.length) := by
  subst h
  unfold spl
  rw [show min ((P ++ R).length - P.length) B.length = B.length from by rw [List.length_append]; omega]
  rw [List.take_left, List.take_length, List.drop_append]
  rw [show P.length + B.length - P.length = B.length from by omega, List.drop_of_length_le (by omega : P.length ≤ P.length + B.length)]
  rfl
/-- The text of slices.Insert with one new element, evaluated; K: what is made of the new list. -/
def insTree {ρ : Type} (es sp : List AV) (x z : AV) (i bytes : Nat) (K : List AV → Option ρ) : Option ρ :=
  bif slb (i : Int) (es.length : Int) es.length then
    bif (i : Int) == (es.length : Int) then bif roomB (es.length + 1) bytes then K (es ++ [x]) else none else
    bif decide (IntKind.i64.wrap ((es.length : Int) + 1) > (es.length : Int) + (sp.length : Int)) then
      bif slb 0 (i : Int) es.length then
        bif decide (i ≤ es.length) && (decide (0 ≤ IntKind.i64.wrap (IntKind.i64.wrap ((es.length : Int) + 1) - i)) && (decide (es.length + sp.length < i + (IntKind.i64.wrap (IntKind.i64.wrap ((es.length : Int) + 1) - i)).toNat) && roomB (i + (IntKind.i64.wrap (IntKind.i64.wrap ((es.length : Int) + 1) - i)).toNat) bytes)) then
          (fun T : List AV => bif slb (i : Int) (T.length : Int) T.length then bif decide (i + (T.length - i) ≤ T.length) then
            (fun A : List AV => bif slb (IntKind.i64.wrap ((i : Int) + 1)) (A.length : Int) A.length then bif slb (i : Int) (es.length : Int) es.length then bif decide (i + (es.length - i) ≤ es.length) then
              bif decide ((IntKind.i64.wrap ((i : Int) + 1)).toNat + (A.length - (IntKind.i64.wrap ((i : Int) + 1)).toNat) ≤ A.length) then K (spl A ((es.drop i).take (es.length - i)) (IntKind.i64.wrap ((i : Int) + 1)).toNat) else none else none else none else none) (spl T [x] i)
            else none else none) (es.take i ++ List.replicate (IntKind.i64.wrap (IntKind.i64.wrap ((es.length : Int) + 1) - i)).toNat z)
        else none
      else none
    else
      bif decide ((es.length : Int) ≤ IntKind.i64.wrap ((es.length : Int) + 1)) && decide (IntKind.i64.wrap ((es.length : Int) + 1) ≤ (es.length : Int) + (sp.length : Int)) then
        (fun E : List AV => bif slb (IntKind.i64.wrap ((i : Int) + 1)) (E.length : Int) E.length then
          bif (PID + 0).beq PID && ((PID + 1).beq (PID + 1) && decide ((IntKind.i64.wrap ((i : Int) + 1)).toNat + (E.length - (IntKind.i64.wrap ((i : Int) + 1)).toNat) ≤ E.length)) then
            bif slb (IntKind.i64.wrap ((i : Int) + 1)) (E.length : Int) E.length then bif slb (i : Int) (E.length : Int) E.length then bif decide (i + (E.length - i) ≤ E.length) then
              bif decide ((IntKind.i64.wrap ((i : Int) + 1)).toNat + (E.length - (IntKind.i64.wrap ((i : Int) + 1)).toNat) ≤ E.length) then
                (fun C : List AV => bif slb (i : Int) (C.length : Int) C.length then bif decide (i + (C.length - i) ≤ C.length) then K (spl C [x] i) else none else none)
                  (spl E ((E.drop i).take (E.length - i)) (IntKind.i64.wrap ((i : Int) + 1)).toNat)
              else none else none else none else none
          else none else none) (es ++ sp.take ((IntKind.i64.wrap ((es.length : Int) + 1)).toNat - es.length))
      else none
  else none
theorem insTree_eq {ρ : Type} {es sp : List AV} {x z : AV} {i bytes : Nat} (K : List AV → Option ρ) (hi : i ≤ es.length) (hn : es.length ≤ 100000) (hb : bytes ≤ 1000) : insTree es sp x z i bytes K = K (es.take i ++ x :: es.drop i) := by
  have w1 : IntKind.i64.wrap ((es.length : Int) + 1) = ((es.length + 1 : Nat) : Int) := by rw [wrap_mid _ (by omega) (by omega)]; omega
  have w2 : IntKind.i64.wrap (((es.length + 1 : Nat) : Int) - i) = ((es.length + 1 - i : Nat) : Int) := by rw [wrap_mid _ (by omega) (by omega)]; omega
  have w3 : IntKind.i64.wrap ((i : Int) + 1) = ((i + 1 : Nat) : Int) := by rw [wrap_mid _ (by omega) (by omega)]; omega
  unfold insTree
  rw [w1, w2, w3]
  simp only [Int.toNat_natCast]
  rw [slb_true (by omega) (by omega) (by omega), cond_true]
  by_cases he : i = es.length
  · subst he
    rw [show ((es.length : Int) == (es.length : Int)) = true from by simp, cond_true, roomB_small (by omega) hb, cond_true, List.take_length, List.drop_length]
  · have hlt : i < es.length := by omega
    rw [show ((i : Int) == (es.length : Int)) = false from by simp; omega, cond_false]
    have htl : (es.take i).length = i := by rw [List.length_take]; omega
    by_cases hsp : sp.length = 0
    · rw [decide_eq_true (by omega), cond_true, slb_true (by omega) (by omega) (by omega), cond_true]
      refine Eq.trans (cond_t (and_t (decide_eq_true (by omega)) (and_t (decide_eq_true (by omega)) (and_t (decide_eq_true (by omega)) (roomB_small (by omega) hb))))) ?_
      have hT : es.take i ++ List.replicate (es.length + 1 - i) z = es.take i ++ (z :: List.replicate (es.length - i) z) := by
        rw [show es.length + 1 - i = (es.length - i) + 1 from by omega, List.replicate_succ]
      simp only [hT]
      have hA : spl (es.take i ++ (z :: List.replicate (es.length - i) z)) [x] i = es.take i ++ (x :: List.replicate (es.length - i) z) := by
        rw [spl_eq htl (by simp)]; rfl
      simp only [hA]
      have l1 : (es.take i ++ (z :: List.replicate (es.length - i) z)).length = es.length + 1 := by rw [List.length_append, htl, List.length_cons, List.length_replicate]; omega
      have l2 : (es.take i ++ (x :: List.replicate (es.length - i) z)).length = es.length + 1 := by rw [List.length_append, htl, List.length_cons, List.length_replicate]; omega
      simp only [l1, l2]
      refine Eq.trans (cond_t (slb_true (by omega) (by omega) (by omega))) (Eq.trans (cond_t (decide_eq_true (by omega))) (Eq.trans (cond_t (slb_true (by omega) (by omega) (by omega))) (Eq.trans (cond_t rfl) (Eq.trans (cond_t (decide_eq_true (by omega))) (Eq.trans (cond_t (decide_eq_true (by omega))) ?_)))))
      rw [show es.take i ++ (x :: List.replicate (es.length - i) z) = (es.take i ++ [x]) ++ List.replicate (es.length - i) z from by simp]
      have hB : (es.drop i).take (es.length - i) = es.drop i := List.take_of_length_le (by simp)
      have hR : (List.replicate (es.length - i) z).drop (es.drop i).length = [] := List.drop_of_length_le (by simp)
      rw [hB, spl_eq (by rw [List.length_append, htl]; rfl) (by simp), hR]
      simp
    · rw [decide_eq_false (by omega), cond_false]
      refine Eq.trans (cond_t (and_t (decide_eq_true (by omega)) (decide_eq_true (by omega)))) ?_
      obtain ⟨y, sp', rfl⟩ : ∃ y sp', sp = y :: sp' := by cases sp with | nil => simp at hsp | cons y sp' => exact ⟨y, sp', rfl⟩
      have h1 : es.length + 1 - es.length = 1 := by omega
      simp only [h1, List.take_succ_cons, List.take_zero]
      have l1 : (es ++ [y]).length = es.length + 1 := by simp
      have hd1 : (es ++ [y]).drop i = es.drop i ++ [y] := List.drop_append_of_le_length (by omega)
      have hC : spl (es ++ [y]) (((es ++ [y]).drop i).take ((es ++ [y]).length - i)) (i + 1) = es.take (i + 1) ++ es.drop i := by
        have l3 : (es.drop i ++ [y]).length = es.length + 1 - i := by rw [List.length_append, List.length_drop]; simp; omega
        have hB : (es.drop i ++ [y]).take (es.length + 1 - i) = es.drop i ++ [y] := List.take_of_length_le (by rw [l3]; exact Nat.le_refl _)
        have h2 : (es.drop i ++ [y]).take (es.length - i) = es.drop i := by
          rw [List.take_append_of_le_length (by rw [List.length_drop]; omega), List.take_of_length_le (by rw [List.length_drop]; omega)]
        have h3 : (es ++ [y]).drop (i + 1 + (es.length - i)) = [] := List.drop_of_length_le (by rw [l1]; omega)
        have h4 : (es ++ [y]).take (i + 1) = es.take (i + 1) := List.take_append_of_le_length (by omega)
        rw [hd1, l1, hB]
        unfold spl
        rw [l1, l3, show min (es.length + 1 - (i + 1)) (es.length + 1 - i) = es.length - i from by omega, h2, h3, h4, List.append_nil]
      simp only [hC]
      have l4 : (es.take (i + 1) ++ es.drop i).length = es.length + 1 := by rw [List.length_append, List.length_take, List.length_drop]; omega
      simp only [l1, l4]
      refine Eq.trans (cond_t (slb_true (by omega) (by omega) (by omega))) (Eq.trans (cond_t (and_t (Nat.beq_refl _) (and_t (Nat.beq_refl _) (decide_eq_true (by omega))))) (Eq.trans (cond_t (slb_true (by omega) (by omega) (by omega))) (Eq.trans (cond_t (slb_true (by omega) (by omega) (by omega))) (Eq.trans (cond_t (decide_eq_true (by omega))) (Eq.trans (cond_t (decide_eq_true (by omega))) (Eq.trans (cond_t (slb_true (by omega) (by omega) (by omega))) (Eq.trans (cond_t (decide_eq_true (by omega))) ?_)))))))
      rw [show es.take (i + 1) ++ es.drop i = es.take i ++ (es[i] :: es.drop i) from by rw [List.take_succ_eq_append_getElem hlt, List.append_assoc]; rfl, spl_eq htl (by simp)]
      rfl
end Go.Ev
