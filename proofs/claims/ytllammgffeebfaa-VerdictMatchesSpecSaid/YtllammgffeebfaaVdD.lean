/-
  Reasons without points are dropped: slices.IndexFunc, slices.DeleteFunc.
-/
import Derived.Test.YtllammgffeebfaaVdC
namespace Go.Proofs.Ytllammgffeebfaa
open Go.Ev

abbrev sR : Sh := .agg [.str, .int .i64]
def isZ (e : AV) : Bool := resOf e == 0
def eR (e : AV) : AV := .agg [.str (e.cells.headD .unk).toStr, .int .i64 (resOf e)]

noncomputable def G5 : Env := ⟨[(19, evF Try.prog G0 [] Try.f19)], [], false, false⟩
theorem g5 : GOK Try.prog G5 := GOK.also g0 (inl g0 Try.func19 (by kernel_rfl))

noncomputable def b27 : Code := ((Try.f27.body.map loopsOf).getD []).headD .skip
def L27 : LSumm := fun _ vs rs k => match vs, rs with
  | [.slv (.agg [.str, .int .i64]) es, .fn 19 [], .int .i64 z, .int .i64 n, .int .i64 i], [] =>
    bif decide (n = es.length) && (decide (0 ≤ i) && (decide (i ≤ n) && small es.length)) then
      (match findFrom (isZ) es i.toNat with
      | some j => k .ret [.slv sV es, .fn 19 [], .int .i64 j, .int .i64 n, .int .i64 j] []
      | none => k (.exit 0) [.slv sV es, .fn 19 [], .int .i64 z, .int .i64 n, .int .i64 n] [])
    else none
  | _, _ => none
def l27 : Ev.Loop := ⟨{ len := 19, slots := [0, 1, 4, 7, 8] }, L27⟩
def μ27 (vs : List AV) (_ : List (Option Row)) : Nat := match vs with
  | [_, _, _, .int _ n, .int _ i] => (n - i).toNat
  | _ => 0
theorem loop27 : LoopOK Try.prog G5 [(2, l27)] b27 l27 := by
  refine loopOK_of g5.natOK (KOK.nil (by kernel_rfl)) μ27 (fun ρ vs rs k r h => ?_) (fun ρ vs rs k => ?_)
  · change L27 ρ vs rs k = some r at h
    unfold L27 at h
    split at h
    · rename_i es z n i
      obtain ⟨hc, h⟩ := bif_some h
      simp only [Bool.and_eq_true, decide_eq_true_eq] at hc
      obtain ⟨rfl, h0, h1, hs⟩ := hc
      have hs' := small_le hs
      obtain ⟨j, rfl⟩ : ∃ j : Nat, i = j := ⟨i.toNat, by omega⟩
      rw [Int.toNat_natCast] at h
      refine Eq.trans (b := bif decide ((j : Int) < es.length) then (bif inb j es.length then (bif isZ (es.getD (j : Int).toNat .unk) then
          k .ret [.slv sV es, .fn 19 [], .int .i64 j, .int .i64 es.length, .int .i64 j] []
        else (bif decide (((es.length : Int) - IntKind.i64.wrap (j + 1)).toNat < ((es.length : Int) - j).toNat) then L27 ρ [.slv sV es, .fn 19 [], .int .i64 z, .int .i64 es.length, .int .i64 (IntKind.i64.wrap (j + 1))] [] k else none)) else none)
        else k (.exit 0) [.slv sV es, .fn 19 [], .int .i64 z, .int .i64 es.length, .int .i64 j] []) (by kernel_rfl) ?_
      rw [Int.toNat_natCast]
      by_cases hlt : j < es.length
      · rw [wrap_small _ (by omega) (by omega)]
        rw [findFrom_step _ _ _ hlt] at h
        rw [decide_eq_true (by omega : (j : Int) < es.length), inb_true (by omega) (by omega), decide_eq_true (by omega : ((es.length : Int) - (j + 1)).toNat < ((es.length : Int) - j).toNat)]
        simp only [cond_true]
        cases hp : isZ (es.getD j .unk) with
        | true => rw [hp] at h; exact h
        | false =>
          rw [hp] at h
          simp only [cond_false] at h ⊢
          refine Eq.trans (cond_t (and_t (decide_eq_true rfl) (and_t (decide_eq_true (by omega)) (and_t (decide_eq_true (by omega)) hs)))) ?_
          rw [show ((j : Int) + 1).toNat = j + 1 from by omega]
          exact h
      · have : j = es.length := by omega
        subst this
        rw [findFrom_end _ _ _ (Nat.le_refl _)] at h
        rw [decide_eq_false (by omega : ¬ (es.length : Int) < es.length)]
        exact h
    · cases h
  · change L27 ρ vs rs k = (L27 (Ex × List AV × List (Option Row)) vs rs fun e v x => some (e, v, x)).bind fun q => k q.1 q.2.1 q.2.2
    unfold L27
    split
    · rename_i es z n i
      generalize (decide (n = es.length) && (decide (0 ≤ i) && (decide (i ≤ n) && small es.length))) = c
      cases c
      · rfl
      · cases findFrom (isZ) es i.toNat <;> rfl
    · rfl

def F27 : Summ := fun _ avs k => match avs with
  | [.slv (.agg [.str, .int .i64]) es, .fn 19 []] => bif small es.length then k (.int .i64 (idxZ (findFrom (isZ) es 0))) else none
  | _ => none
theorem ok27 : SumOK Try.prog 27 F27 ∧ SNat F27 := by
  refine ⟨sum1 (K := [(2, l27)]) (b := b27) (l := l27) g5 Try.func27 (by kernel_rfl) (by kernel_rfl) loop27 fun ρ avs k r h => ?_, fun ρ avs k => ?_⟩
  · unfold F27 at h
    split at h
    · rename_i es
      obtain ⟨hs, h⟩ := bif_some h
      refine Eq.trans (b := bif decide ((es.length : Int) = es.length) && (decide ((0 : Int) ≤ 0) && (decide ((0 : Int) ≤ es.length) && small es.length)) then
        (match findFrom (isZ) es 0 with
        | some j => k (.int .i64 j)
        | none => k (.int .i64 (-1))) else none) (by kernel_rfl) ?_
      rw [decide_eq_true (rfl : (es.length : Int) = es.length), decide_eq_true (by omega : (0 : Int) ≤ 0), decide_eq_true (by omega : (0 : Int) ≤ es.length), hs]
      cases hf : findFrom (isZ) es 0 <;> rw [hf] at h <;> exact h
    · cases h
  · unfold F27
    split
    · rename_i es
      generalize small es.length = c
      cases c <;> rfl
    · rfl


noncomputable def G6 : Env := ⟨[(27, F27), (19, evF Try.prog G0 [] Try.f19)], [], false, false⟩
theorem g6 : GOK Try.prog G6 := GOK.also g5 ok27

noncomputable def b18 : Code := ((Try.f18.body.map loopsOf).getD []).headD .skip
def delN : Nat → List AV → Nat → Nat → List AV × Nat
  | 0, es, i, _ => (es, i)
  | n + 1, es, i, j => bif isZ (es.getD j .unk) then delN n es i (j + 1) else delN n (es.set i (eR (es.getD j .unk))) (i + 1) (j + 1)
def L18 : LSumm := fun _ vs rs k => match vs, rs with
  | [.own p, .fn 19 [], .int .i64 i, .int .i64 j], [some (.arr false (.agg [.str, .int .i64]) e es sp)] =>
    bif Nat.beq p PID && (decide (0 ≤ i) && (decide (i < j) && (decide (j ≤ es.length) && small es.length))) then
      k (.exit 0) [.own PID, .fn 19 [], .int .i64 (delN (es.length - j.toNat) es i.toNat j.toNat).2, .int .i64 es.length] [some (.arr false sR e (delN (es.length - j.toNat) es i.toNat j.toNat).1 sp)]
    else none
  | _, _ => none
def l18 : Ev.Loop := ⟨{ len := 42, slots := [0, 1, 5, 6], rows := [PID] }, L18⟩
def μ18 (vs : List AV) (rs : List (Option Row)) : Nat := match vs, rs with
  | [_, _, _, .int _ j], [some (.arr _ _ _ es _)] => ((es.length : Int) - j).toNat
  | _, _ => 0

def canonR : AV → Bool
  | .agg [.str _, .int .i64 _] => true
  | _ => false
theorem canon_eR {e : AV} (h : canonR e = true) : eR e = e := by
  unfold canonR at h
  split at h
  · rfl
  · cases h
theorem delN_len : ∀ (n : Nat) (es : List AV) (i j : Nat), (delN n es i j).1.length = es.length
  | 0, _, _, _ => rfl
  | n + 1, es, i, j => by
    unfold delN
    cases isZ (es.getD j .unk)
    · rw [cond_false, delN_len n]; simp
    · rw [cond_true, delN_len n]
theorem delN_le : ∀ (n : Nat) (es : List AV) (i j : Nat), (delN n es i j).2 ≤ i + n
  | 0, _, _, _ => Nat.le_refl _
  | n + 1, es, i, j => by
    unfold delN
    cases isZ (es.getD j .unk)
    · rw [cond_false]; have := delN_le n (es.set i (eR (es.getD j .unk))) (i + 1) (j + 1); omega
    · rw [cond_true]; have := delN_le n es i (j + 1); omega
theorem delN_take : ∀ (n : Nat) (es : List AV) (i j : Nat), i ≤ j → j + n = es.length → (∀ x ∈ es, canonR x = true) → (delN n es i j).1.take (delN n es i j).2 = es.take i ++ (es.drop j).filter (fun x => !isZ x)
  | 0, es, i, j, _, h, _ => by
    unfold delN
    rw [List.drop_of_length_le (by omega)]
    simp
  | n + 1, es, i, j, hij, h, hc => by
    have hj : j < es.length := by omega
    have hg : es.getD j .unk = es[j] := by simp [List.getD, hj]
    unfold delN
    rw [hg, List.drop_eq_getElem_cons hj, List.filter_cons]
    cases hz : isZ es[j]
    · rw [cond_false, canon_eR (hc _ (List.getElem_mem hj))]
      rw [delN_take n (es.set i es[j]) (i + 1) (j + 1) (by omega) (by rw [List.length_set]; omega) (fun x hx => by
        rcases List.mem_or_eq_of_mem_set hx with h | h
        · exact hc x h
        · rw [h]; exact hc _ (List.getElem_mem hj))]
      have e1 : (es.set i es[j]).take (i + 1) = es.take i ++ [es[j]] := by
        rw [List.take_add_one, List.take_set_of_le (Nat.le_refl _), List.getElem?_set_self (by omega)]
        rfl
      have e2 : (es.set i es[j]).drop (j + 1) = es.drop (j + 1) := List.drop_set_of_lt (by omega)
      rw [e1, e2]
      simp
    · rw [cond_true, delN_take n es i (j + 1) (by omega) (by omega) hc]
      simp

theorem loop18 : LoopOK Try.prog G6 [(5, l18)] b18 l18 := by
  refine loopOK_of g6.natOK (KOK.nil (by kernel_rfl)) μ18 (fun ρ vs rs k r h => ?_) (fun ρ vs rs k => ?_)
  · change L18 ρ vs rs k = some r at h
    unfold L18 at h
    split at h
    · rename_i p i' j' e es sp
      obtain ⟨hc, hk⟩ := bif_some h
      clear h
      have h := hk
      clear hk
      simp only [Bool.and_eq_true, decide_eq_true_eq] at hc
      obtain ⟨hp, h0, h1, h2, hs⟩ := hc
      have hs' := small_le hs
      have hp' : p = PID := Nat.eq_of_beq_eq_true hp
      subst hp'
      obtain ⟨i, rfl⟩ : ∃ i : Nat, i' = i := ⟨i'.toNat, by omega⟩
      obtain ⟨j, rfl⟩ : ∃ j : Nat, j' = j := ⟨j'.toNat, by omega⟩
      simp only [Int.toNat_natCast] at h
      refine Eq.trans (b := bif decide ((j : Int) < es.length) then (bif inb j es.length then (bif decide ((j : Int).toNat < es.length) then
          (bif !isZ (es.getD (j : Int).toNat .unk) then (bif inb i es.length then (bif decide ((i : Int).toNat < es.length) then
             (bif decide ((((es.set (i : Int).toNat (eR (es.getD (j : Int).toNat .unk))).length : Int) - IntKind.i64.wrap (j + 1)).toNat < ((es.length : Int) - j).toNat) then
               L18 ρ [.own PID, .fn 19 [], .int .i64 (IntKind.i64.wrap (i + 1)), .int .i64 (IntKind.i64.wrap (j + 1))] [some (.arr false sR e (es.set (i : Int).toNat (eR (es.getD (j : Int).toNat .unk))) sp)] k else none) else none) else none)
           else (bif decide (((es.length : Int) - IntKind.i64.wrap (j + 1)).toNat < ((es.length : Int) - j).toNat) then
               L18 ρ [.own PID, .fn 19 [], .int .i64 i, .int .i64 (IntKind.i64.wrap (j + 1))] [some (.arr false sR e es sp)] k else none)) else none) else none)
        else k (.exit 0) [.own PID, .fn 19 [], .int .i64 i, .int .i64 j] [some (.arr false sR e es sp)]) (by kernel_rfl) ?_
      simp only [Int.toNat_natCast, List.length_set]
      by_cases hlt : j < es.length
      · rw [decide_eq_true (by omega : (j : Int) < es.length), inb_true (by omega) (by omega), decide_eq_true hlt, inb_true (by omega : (0 : Int) ≤ i) (by omega : (i : Int) < es.length), decide_eq_true (by omega : i < es.length), cnt_dec hlt hs']
        rw [show es.length - j = (es.length - (j + 1)) + 1 from by omega] at h
        unfold delN at h
        rw [wrap_small _ (by omega) (by omega), wrap_small _ (by omega) (by omega)]
        have hn1 : ((j : Int) + 1).toNat = j + 1 := by omega
        have hn2 : ((i : Int) + 1).toNat = i + 1 := by omega
        cases hz : isZ (es.getD j .unk)
        · rw [hz] at h
          simp only [cond_false] at h
          simp only [cond_true, Bool.not_false]
          refine Eq.trans (cond_t (and_t (Nat.beq_refl _) (and_t (decide_eq_true (by omega)) (and_t (decide_eq_true (by omega)) (and_t (decide_eq_true (by rw [List.length_set]; omega)) (by rw [List.length_set]; exact hs)))))) ?_
          rw [hn1, hn2, List.length_set]
          exact h
        · rw [hz] at h
          simp only [cond_true] at h
          simp only [cond_true, cond_false, Bool.not_true]
          refine Eq.trans (cond_t (and_t (Nat.beq_refl _) (and_t (decide_eq_true (by omega)) (and_t (decide_eq_true (by omega)) (and_t (decide_eq_true (by omega)) hs))))) ?_
          rw [hn1, Int.toNat_natCast]
          exact h
      · have hje : j = es.length := by omega
        subst hje
        rw [decide_eq_false (by omega : ¬ ((es.length : Int) < es.length))]
        rw [show es.length - es.length = 0 from by omega] at h
        exact h
    · cases h
  · change L18 ρ vs rs k = (L18 (Ex × List AV × List (Option Row)) vs rs fun e v x => some (e, v, x)).bind fun q => k q.1 q.2.1 q.2.2
    unfold L18
    split
    · rename_i p i' j' e es sp
      generalize (Nat.beq p PID && (decide (0 ≤ i') && (decide (i' < j') && (decide (j' ≤ es.length) && small es.length)))) = c
      cases c <;> rfl
    · rfl

def F18 : SummX := fun _ avs rows k => match avs, rows with
  | [.own p, .fn 19 []], [.arr false (.agg [.str, .int .i64]) e es _] => bif Nat.beq p PID && (small es.length && es.all canonR) then k (.own RID) [none] [.arr false sR e (es.filter fun x => !isZ x) none] else none
  | _, _ => none
theorem ok18 : XOK Try.prog 18 F18 ∧ XNat F18 := by
  refine ⟨xsum1 (K := [(5, l18)]) (H := [(4, 9999, 40)]) (b := b18) (l := l18) g6 Try.func18 (by kernel_rfl) (by kernel_rfl) loop18 fun ρ avs rows k r h => ?_, fun ρ avs rows k => ?_⟩
  · unfold F18 at h
    split at h
    · rename_i p e es csp
      obtain ⟨hc, hk⟩ := bif_some h
      clear h
      have h := hk
      clear hk
      simp only [Bool.and_eq_true] at hc
      obtain ⟨hp, hs, hca⟩ := hc
      have hs' := small_le hs
      have hca' : ∀ x ∈ es, canonR x = true := by simpa using hca
      have hp' : p = PID := Nat.eq_of_beq_eq_true hp
      subst hp'
      refine ⟨by simp, fun rows' hsp => ?_⟩
      obtain ⟨r1, hr1⟩ : ∃ r1, rows' = [r1] ∧ ∃ sp, r1 = .arr false sR e es (some sp) := by
        match rows', hsp with
        | [r1], ⟨⟨sp, h1, _⟩, _⟩ => exact ⟨r1, rfl, sp, h1⟩
      obtain ⟨rfl, sp, rfl⟩ := hr1
      have tree : evFX Try.prog G6 [(5, l18)] [(4, 9999, 40)] Try.f18 ρ [.own PID, .fn 19 []] [.arr false sR e es (some sp)] k =
        (bif small es.length then (bif idxZ (findFrom isZ es 0) == -1 then k (.own RID) [none] [.arr false sR e es none] else
          (bif Nat.beq PID PID && (decide (0 ≤ idxZ (findFrom isZ es 0)) && (decide (idxZ (findFrom isZ es 0) < IntKind.i64.wrap (idxZ (findFrom isZ es 0) + 1)) && (decide (IntKind.i64.wrap (idxZ (findFrom isZ es 0) + 1) ≤ es.length) && small es.length))) then
            (fun (D : List AV × Nat) => bif slb D.2 D.1.length D.1.length then
              (bif decide (((D.2 : Nat) : Int).toNat + (((D.1.length : Nat) : Int).toNat - ((D.2 : Nat) : Int).toNat) ≤ D.1.length) then
                (fun (E : List AV) => bif slb 0 D.2 E.length then
                  (bif Nat.ble (((D.2 : Nat) : Int).toNat - (0 : Int).toNat) E.length then k (.own RID) [none] [.arr false sR e (E.take (((D.2 : Nat) : Int).toNat - (0 : Int).toNat)) none]
                    else none)
                 else none) (D.1.take ((D.2 : Nat) : Int).toNat ++ (List.replicate (((D.1.length : Nat) : Int).toNat - ((D.2 : Nat) : Int).toNat) (zeroE Try.prog 40) ++ D.1.drop (((D.2 : Nat) : Int).toNat + (((D.1.length : Nat) : Int).toNat - ((D.2 : Nat) : Int).toNat))))
               else none)
             else none) (delN (es.length - (IntKind.i64.wrap (idxZ (findFrom isZ es 0) + 1)).toNat) es (idxZ (findFrom isZ es 0)).toNat (IntKind.i64.wrap (idxZ (findFrom isZ es 0) + 1)).toNat)
           else none)) else none) := by kernel_rfl
      rw [tree, hs]
      cases hf : findFrom isZ es 0 with
      | none =>
        rw [show es.filter (fun x => !isZ x) = es from List.filter_eq_self.2 fun x hx => by rw [findFrom_none hf x hx]; rfl] at h
        exact h
      | some i =>
        obtain ⟨hi, _, _⟩ := findFrom_some hf
        have hw : IntKind.i64.wrap ((i : Int) + 1) = i + 1 := wrap_small _ (by omega) (by omega)
        have hn1 : ((i : Int) + 1).toNat = i + 1 := by omega
        have hl := delN_len (es.length - (i + 1)) es i (i + 1)
        have hle := delN_le (es.length - (i + 1)) es i (i + 1)
        have htk := delN_take (es.length - (i + 1)) es i (i + 1) (by omega) (by omega) hca'
        rw [← filter_first hf] at htk
        rw [← htk] at h
        simp only [idxZ, hw, hn1, Int.toNat_natCast]
        rw [show ((i : Int) == -1) = false from by simp, cond_true, cond_false]
        generalize delN (es.length - (i + 1)) es i (i + 1) = D at h hl hle
        refine Eq.trans (cond_t (and_t (Nat.beq_refl _) (and_t (decide_eq_true (by omega)) (and_t (decide_eq_true (by omega)) (and_t (decide_eq_true (by omega)) rfl))))) ?_
        have e1 : D.1.take D.2 ++ (List.replicate (D.1.length - D.2) (zeroE Try.prog 40) ++ D.1.drop (D.2 + (D.1.length - D.2))) = D.1.take D.2 ++ List.replicate (D.1.length - D.2) (zeroE Try.prog 40) := by
          rw [List.drop_of_length_le (by omega), List.append_nil]
        have e2 : (D.1.take D.2 ++ List.replicate (D.1.length - D.2) (zeroE Try.prog 40)).length = D.1.length := by simp; omega
        refine Eq.trans (cond_t (and_t (decide_eq_true (by omega)) (and_t (decide_eq_true (by omega)) (decide_eq_true (by omega))))) ?_
        refine Eq.trans (cond_t (decide_eq_true (by omega))) ?_
        rw [e1]
        refine Eq.trans (cond_t (and_t (decide_eq_true (by omega)) (and_t (decide_eq_true (by omega)) (decide_eq_true (by omega))))) ?_
        refine Eq.trans (cond_t (Nat.ble_eq_true_of_le (by rw [e2]; simp; omega))) ?_
        rw [show D.2 - (0 : Int).toNat = D.2 from by simp, List.take_append_of_le_length (by simp; omega), List.take_of_length_le (by simp; omega)]
        exact h
    · cases h
  · unfold F18
    split
    · rename_i p e es csp
      generalize (Nat.beq p PID && (small es.length && es.all canonR)) = c
      cases c <;> rfl
    · rfl

end Go.Proofs.Ytllammgffeebfaa
