/-
  What slices.DeleteFunc comes to.
-/
import Derived.Test.YtpgaobdgohlegaaSl
namespace Go.Ev

def delN (p : AV → Bool) (c : AV → AV) : Nat → List AV → Nat → Nat → List AV × Nat
  | 0, es, i, _ => (es, i)
  | n + 1, es, i, j => bif p (es.getD j .unk) then delN p c n es i (j + 1) else delN p c n (es.set i (c (es.getD j .unk))) (i + 1) (j + 1)
theorem delN_succ (p : AV → Bool) (c : AV → AV) (n : Nat) (es : List AV) (i j : Nat) : delN p c (n + 1) es i j = bif p (es.getD j .unk) then delN p c n es i (j + 1) else delN p c n (es.set i (c (es.getD j .unk))) (i + 1) (j + 1) := rfl
theorem delN_len (p : AV → Bool) (c : AV → AV) : ∀ (n : Nat) (es : List AV) (i j : Nat), (delN p c n es i j).1.length = es.length
  | 0, _, _, _ => rfl
  | n + 1, es, i, j => by
    rw [delN_succ]
    cases p (es.getD j .unk)
    · rw [cond_false, delN_len p c n]; simp
    · rw [cond_true, delN_len p c n]
theorem delN_le (p : AV → Bool) (c : AV → AV) : ∀ (n : Nat) (es : List AV) (i j : Nat), (delN p c n es i j).2 ≤ i + n
  | 0, _, _, _ => Nat.le_refl _
  | n + 1, es, i, j => by
    rw [delN_succ]
    cases p (es.getD j .unk)
    · rw [cond_false]; have := delN_le p c n (es.set i (c (es.getD j .unk))) (i + 1) (j + 1); omega
    · rw [cond_true]; have := delN_le p c n es i (j + 1); omega
theorem delN_take (p : AV → Bool) (c : AV → AV) : ∀ (n : Nat) (es : List AV) (i j : Nat), i ≤ j → j + n = es.length → (∀ x ∈ es, c x = x) → (delN p c n es i j).1.take (delN p c n es i j).2 = es.take i ++ (es.drop j).filter (fun x => !p x)
  | 0, es, i, j, _, h, _ => by
    unfold delN
    rw [List.drop_of_length_le (by omega)]
    simp
  | n + 1, es, i, j, hij, h, hc => by
    have hj : j < es.length := by omega
    rw [delN_succ, getD_eq hj, List.drop_eq_getElem_cons hj, List.filter_cons]
    cases hz : p es[j]
    · rw [cond_false, hc _ (List.getElem_mem hj)]
      rw [delN_take p c n (es.set i es[j]) (i + 1) (j + 1) (by omega) (by rw [List.length_set]; omega) (fun x hx => by
        rcases List.mem_or_eq_of_mem_set hx with h | h
        · exact hc x h
        · rw [h]; exact hc _ (List.getElem_mem hj))]
      have e1 : (es.set i es[j]).take (i + 1) = es.take i ++ [es[j]] := by
        rw [List.take_add_one, List.take_set_of_le (Nat.le_refl _), List.getElem?_set_self (by omega)]
        rfl
      have e2 : (es.set i es[j]).drop (j + 1) = es.drop (j + 1) := List.drop_set_of_lt (by omega)
      rw [e1, e2]
      simp
    · rw [cond_true, delN_take p c n es i (j + 1) (by omega) (by omega) hc]
      simp
/-- The text of slices.DeleteFunc, evaluated; f: where the first to be deleted is; G: what its loop asks. -/
def delTree {ρ : Type} (p : AV → Bool) (c : AV → AV) (z : AV) (es : List AV) (f : Option Nat) (G : Int → Int → Bool) (K : List AV → Option ρ) : Option ρ :=
  bif small es.length then bif idxZ f == -1 then K es else
    bif G (idxZ f) (IntKind.i64.wrap (idxZ f + 1)) then
      (fun D : List AV × Nat => bif slb (D.2 : Int) (D.1.length : Int) D.1.length then bif decide (((D.2 : Nat) : Int).toNat + (((D.1.length : Nat) : Int).toNat - ((D.2 : Nat) : Int).toNat) ≤ D.1.length) then
        (fun E : List AV => bif slb 0 (D.2 : Int) E.length then bif (((D.2 : Nat) : Int).toNat - Int.toNat 0).ble E.length then K (E.take (((D.2 : Nat) : Int).toNat - Int.toNat 0)) else none else none)
          (D.1.take ((D.2 : Nat) : Int).toNat ++ (List.replicate (((D.1.length : Nat) : Int).toNat - ((D.2 : Nat) : Int).toNat) z ++ D.1.drop (((D.2 : Nat) : Int).toNat + (((D.1.length : Nat) : Int).toNat - ((D.2 : Nat) : Int).toNat))))
        else none else none) (delN p c (es.length - (IntKind.i64.wrap (idxZ f + 1)).toNat) es (idxZ f).toNat (IntKind.i64.wrap (idxZ f + 1)).toNat)
    else none
  else none
theorem delTree_eq {ρ : Type} {p : AV → Bool} {c : AV → AV} {z : AV} {es : List AV} {f : Option Nat} {G : Int → Int → Bool} {K : List AV → Option ρ} (hf : f = findN (fun i => p (es.getD i .unk)) es.length 0) (hs : es.length ≤ 1000000) (hc : ∀ x ∈ es, c x = x) (hG : ∀ i : Nat, i < es.length → G i ((i : Int) + 1) = true) : delTree p c z es f G K = K (es.filter fun x => !p x) := by
  unfold delTree
  rw [show small es.length = true from decide_eq_true (by omega), cond_true]
  cases hq : f with
  | none =>
    have hn := findN_none (hf ▸ hq)
    rw [show es.filter (fun x => !p x) = es from List.filter_eq_self.2 fun x hx => by
      obtain ⟨i, hi, rfl⟩ := List.getElem_of_mem hx
      have := hn i (Nat.zero_le _) hi
      rw [getD_eq hi] at this
      rw [this]; rfl]
    rfl
  | some i =>
    obtain ⟨_, hi, h1, h2⟩ := findN_some (hf ▸ hq)
    have hw : IntKind.i64.wrap ((i : Int) + 1) = i + 1 := wrap_mid _ (by omega) (by omega)
    have hn1 : ((i : Int) + 1).toNat = i + 1 := by omega
    have hl := delN_len p c (es.length - (i + 1)) es i (i + 1)
    have hle := delN_le p c (es.length - (i + 1)) es i (i + 1)
    have htk := delN_take p c (es.length - (i + 1)) es i (i + 1) (by omega) (by omega) hc
    have hfi : es.filter (fun x => !p x) = es.take i ++ (es.drop (i + 1)).filter (fun x => !p x) := by
      conv => lhs; rw [← List.take_append_drop i es, List.drop_eq_getElem_cons hi]
      rw [getD_eq hi] at h1
      rw [List.filter_append, List.filter_cons, h1]
      rw [show (es.take i).filter (fun x => !p x) = es.take i from List.filter_eq_self.2 fun x hx => by
        obtain ⟨j, hj, rfl⟩ := List.getElem_of_mem hx
        rw [List.length_take] at hj
        have := h2 j (Nat.zero_le _) (by omega)
        rw [getD_eq (by omega)] at this
        rw [List.getElem_take, this]; rfl]
      rfl
    rw [hfi, ← htk]
    simp only [idxZ, hw, hn1, Int.toNat_natCast]
    rw [show ((i : Int) == -1) = false from by simp, cond_false, hG i hi, cond_true]
    generalize delN p c (es.length - (i + 1)) es i (i + 1) = D at hl hle
    have e1 : D.1.take D.2 ++ (List.replicate (D.1.length - D.2) z ++ D.1.drop (D.2 + (D.1.length - D.2))) = D.1.take D.2 ++ List.replicate (D.1.length - D.2) z := by
      rw [List.drop_of_length_le (by omega), List.append_nil]
    have e2 : (D.1.take D.2 ++ List.replicate (D.1.length - D.2) z).length = D.1.length := by simp; omega
    rw [e1]
    refine Eq.trans (cond_t (slb_true (by omega) (by omega) (by omega))) (Eq.trans (cond_t (decide_eq_true (by omega))) (Eq.trans (cond_t (slb_true (by omega) (by omega) (by rw [e2]; omega))) (Eq.trans (cond_t (Nat.ble_eq_true_of_le (by rw [e2]; simp; omega))) ?_)))
    rw [show D.2 - Int.toNat 0 = D.2 from by simp, List.take_append_of_le_length (by simp; omega), List.take_of_length_le (by simp; omega)]
end Go.Ev
