/-
  A list of numbers in the order of their distance from the middle, equal distances in the order in which they stood.
-/
import Derived.Test.YtpgaobdgohlegaaClE
namespace Go.Proofs.Ytpgaobdgohlegaa
open Go.Ev

def dst (e : AV) : Int := max (iv e - 500) (500 - iv e)
def cls (c : Int) (l : List AV) : List AV := l.filter fun e => dst e == c
/-- The same elements, those of one distance in one order. -/
def Same (l r : List AV) : Prop := ∀ c, cls c l = cls c r
def Dn (l : List AV) : Prop := l.Pairwise fun x y => dst y ≤ dst x
theorem cls_app (c : Int) (l r : List AV) : cls c (l ++ r) = cls c l ++ cls c r := List.filter_append ..
theorem Same.refl (l : List AV) : Same l l := fun _ => rfl
theorem Same.symm {l r : List AV} (h : Same l r) : Same r l := fun c => (h c).symm
theorem Same.trans {l r s : List AV} (h : Same l r) (h' : Same r s) : Same l s := fun c => (h c).trans (h' c)
theorem Same.app {l r l' r' : List AV} (h : Same l r) (h' : Same l' r') : Same (l ++ l') (r ++ r') := fun c => by rw [cls_app, cls_app, h c, h' c]
theorem Same.mem {l r : List AV} (h : Same l r) {x : AV} (hx : x ∈ l) : x ∈ r := by
  have : x ∈ cls (dst x) l := List.mem_filter.2 ⟨hx, by simp⟩
  rw [h] at this
  exact (List.mem_filter.1 this).1
theorem Same.nil {l : List AV} (h : Same [] l) : l = [] := by
  cases l with
  | nil => rfl
  | cons x r => have := h.symm.mem (x := x) (by simp); simp at this
theorem cls_nil_of {c : Int} {l : List AV} (h : ∀ x ∈ l, dst x ≠ c) : cls c l = [] := List.filter_eq_nil_iff.2 fun x hx => by simpa using h x hx
theorem cls_cons (c : Int) (x : AV) (l : List AV) : cls c (x :: l) = if dst x = c then x :: cls c l else cls c l := by
  unfold cls
  rw [List.filter_cons]
  by_cases h : dst x = c <;> simp [h]
/-- Two parts that have no distance in common can change places. -/
theorem Same.swap {l r : List AV} (h : ∀ x ∈ l, ∀ y ∈ r, dst x ≠ dst y) : Same (l ++ r) (r ++ l) := fun c => by
  rw [cls_app, cls_app]
  by_cases h1 : ∃ x ∈ l, dst x = c
  · obtain ⟨x, hx, hc⟩ := h1
    rw [cls_nil_of (l := r) fun y hy he => h x hx y hy (hc.trans he.symm), List.append_nil, List.nil_append]
  · rw [cls_nil_of (l := l) fun x hx he => h1 ⟨x, hx, he⟩, List.append_nil, List.nil_append]
theorem same_dn : ∀ {l r : List AV}, Dn l → Dn r → Same l r → l = r
  | [], r, _, _, h => h.nil.symm
  | x :: l, [], _, _, h => by have := h.symm.nil; simp at this
  | x :: l, y :: r, hl, hr, h => by
    obtain ⟨a1, a2⟩ := List.pairwise_cons.1 hl
    obtain ⟨b1, b2⟩ := List.pairwise_cons.1 hr
    have hxy : dst x = dst y := by
      have h1 : dst x ≤ dst y := by
        rcases List.mem_cons.1 (h.mem (x := x) (by simp)) with e | e
        · rw [e]; exact Int.le_refl _
        · exact b1 x e
      have h2 : dst y ≤ dst x := by
        rcases List.mem_cons.1 (h.symm.mem (x := y) (by simp)) with e | e
        · rw [e]; exact Int.le_refl _
        · exact a1 y e
      omega
    have hh := h (dst x)
    rw [cls_cons, cls_cons, if_pos rfl, if_pos hxy.symm] at hh
    injection hh with e1 _
    subst e1
    have ht : Same l r := fun c => by
      have := h c
      rw [cls_cons, cls_cons] at this
      by_cases hc : dst x = c
      · rw [if_pos hc, if_pos hc] at this; injection this
      · rw [if_neg hc, if_neg hc] at this; exact this
    rw [same_dn a2 b2 ht]
def insS (x : AV) : List AV → List AV
  | [] => [x]
  | y :: l => if dst y ≤ dst x then x :: y :: l else y :: insS x l
def sortS : List AV → List AV
  | [] => []
  | x :: l => insS x (sortS l)
theorem insS_mem {x z : AV} : ∀ {l : List AV}, z ∈ insS x l → z = x ∨ z ∈ l
  | [], h => by simp [insS] at h; exact .inl h
  | y :: l, h => by
    unfold insS at h
    split at h
    · rcases List.mem_cons.1 h with h | h
      · exact .inl h
      · exact .inr h
    · rcases List.mem_cons.1 h with h | h
      · exact .inr (by simp [h])
      · rcases insS_mem h with h | h
        · exact .inl h
        · exact .inr (by simp [h])
theorem insS_same (x : AV) : ∀ l : List AV, Same (x :: l) (insS x l)
  | [] => Same.refl _
  | y :: l => by
    unfold insS
    split
    · exact Same.refl _
    · rename_i hlt
      have h1 : Same (x :: y :: l) (y :: x :: l) := by
        have : Same ([x] ++ [y]) ([y] ++ [x]) := Same.swap fun a ha b hb => by
          simp at ha hb; rw [ha, hb]; omega
        exact this.app (Same.refl l)
      exact h1.trans ((Same.refl [y]).app (insS_same x l))
theorem insS_dn {x : AV} : ∀ {l : List AV}, Dn l → Dn (insS x l)
  | [], _ => List.pairwise_singleton _ _
  | y :: l, h => by
    obtain ⟨a1, a2⟩ := List.pairwise_cons.1 h
    unfold insS
    split
    · rename_i hle
      refine List.pairwise_cons.2 ⟨fun z hz => ?_, h⟩
      rcases List.mem_cons.1 hz with hz | hz
      · rw [hz]; exact hle
      · exact Int.le_trans (a1 z hz) hle
    · rename_i hlt
      refine List.pairwise_cons.2 ⟨fun z hz => ?_, insS_dn a2⟩
      rcases insS_mem hz with hz | hz
      · rw [hz]; omega
      · exact a1 z hz
theorem sortS_dn : ∀ l : List AV, Dn (sortS l)
  | [] => List.Pairwise.nil
  | _ :: l => insS_dn (sortS_dn l)
theorem sortS_same : ∀ l : List AV, Same l (sortS l)
  | [] => Same.refl _
  | x :: l => ((Same.refl [x]).app (sortS_same l)).trans (insS_same x _)
theorem sortS_eq {l r : List AV} (h : Dn r) (hs : Same l r) : r = sortS l := same_dn h (sortS_dn l) (hs.symm.trans (sortS_same l))
theorem sortS_congr {l r : List AV} (h : Same l r) : sortS l = sortS r := sortS_eq (sortS_dn l) (h.symm.trans (sortS_same l))
theorem insS_len (x : AV) : ∀ l : List AV, (insS x l).length = l.length + 1
  | [] => rfl
  | y :: l => by unfold insS; split <;> simp [insS_len x l]
theorem sortS_len : ∀ l : List AV, (sortS l).length = l.length
  | [] => rfl
  | x :: l => by show (insS x (sortS l)).length = _; rw [insS_len, sortS_len l]; rfl
theorem sortS_mem {l : List AV} {x : AV} : x ∈ sortS l ↔ x ∈ l := ⟨fun h => (sortS_same l).symm.mem h, fun h => (sortS_same l).mem h⟩
theorem sortS_fix {l : List AV} (h : Dn l) : sortS l = l := (sortS_eq h (Same.refl l)).symm
theorem sortS_app (l r : List AV) : sortS (sortS l ++ r) = sortS (l ++ r) := sortS_congr ((sortS_same l).symm.app (Same.refl r))
theorem sortS_app' (l r : List AV) : sortS (l ++ sortS r) = sortS (l ++ r) := sortS_congr ((Same.refl l).app (sortS_same r).symm)
/-- An element is moved to the left past those whose distance is smaller. -/
def swp (es : List AV) (i j : Nat) : List AV := (es.set i (es.getD j .unk)).set j (es.getD i .unk)
def sinkN (a : Nat) : Nat → List AV → List AV
  | 0, es => es
  | j + 1, es => bif decide (a < j + 1) && decide (dst (es.getD j .unk) < dst (es.getD (j + 1) .unk)) then sinkN a j (swp es (j + 1) j) else es
theorem sinkN_succ (a j : Nat) (es : List AV) : sinkN a (j + 1) es = bif decide (a < j + 1) && decide (dst (es.getD j .unk) < dst (es.getD (j + 1) .unk)) then sinkN a j (swp es (j + 1) j) else es := rfl
theorem swp_len (es : List AV) (i j : Nat) : (swp es i j).length = es.length := by unfold swp; simp
theorem sinkN_len (a : Nat) : ∀ (j : Nat) (es : List AV), (sinkN a j es).length = es.length
  | 0, _ => rfl
  | j + 1, es => by
    rw [sinkN_succ]
    cases decide (a < j + 1) && decide (dst (es.getD j .unk) < dst (es.getD (j + 1) .unk))
    · rfl
    · exact (sinkN_len a j _).trans (swp_len ..)
theorem gd0 (P Q : List AV) (x : AV) : (P ++ x :: Q).getD P.length .unk = x := by simp [List.getD]
theorem gd1 (P Q : List AV) (x y : AV) : (P ++ x :: y :: Q).getD (P.length + 1) .unk = y := by simp [List.getD, List.getElem?_append_right]
/-- Two neighbours change places. -/
theorem swp_next (P Q : List AV) (x y : AV) : swp (P ++ x :: y :: Q) (P.length + 1) P.length = P ++ y :: x :: Q := by
  unfold swp
  have h1 : (P ++ x :: y :: Q).getD P.length .unk = x := by simp [List.getD]
  have h2 : (P ++ x :: y :: Q).getD (P.length + 1) .unk = y := by simp [List.getD, List.getElem?_append_right]
  rw [h1, h2, List.set_append_right _ _ (by omega), List.set_append_right _ _ (by simp)]
  simp
theorem sinkN_eq (P : List AV) (x : AV) (Q : List AV) : ∀ (n : Nat) (S : List AV), S.length = n → Dn S → sinkN P.length (P.length + n) (P ++ S ++ x :: Q) = P ++ sortS (S ++ [x]) ++ Q
  | 0, S, hn, _ => by
    obtain rfl := List.eq_nil_of_length_eq_zero hn
    rw [Nat.add_zero, List.append_nil]
    cases hP : P.length with
    | zero => simp [sinkN, sortS, insS]
    | succ k =>
      rw [sinkN_succ, decide_eq_false (Nat.lt_irrefl _)]
      simp [sortS, insS]
  | n + 1, S, hn, hd => by
    obtain ⟨T, y, rfl⟩ : ∃ T y, S = T ++ [y] := ⟨S.dropLast, S.getLast (by intro h; rw [h] at hn; simp at hn), (List.dropLast_concat_getLast _).symm⟩
    have hT : T.length = n := by simpa using hn
    have hdT : Dn T := (List.pairwise_append.1 hd).1
    have hy : ∀ z ∈ T, dst y ≤ dst z := fun z hz => (List.pairwise_append.1 hd).2.2 z hz y (by simp)
    have e1 : P ++ (T ++ [y]) ++ x :: Q = (P ++ T) ++ y :: x :: Q := by simp
    have g1 : (P ++ (T ++ [y]) ++ x :: Q).getD (P.length + n) .unk = y := by
      rw [e1, ← hT, ← List.length_append]; exact gd0 _ _ _
    have g2 : (P ++ (T ++ [y]) ++ x :: Q).getD (P.length + n + 1) .unk = x := by
      rw [e1, ← hT, ← List.length_append]; exact gd1 _ _ _ _
    show sinkN P.length (P.length + n + 1) _ = _
    rw [sinkN_succ, g1, g2, decide_eq_true (by omega : P.length < P.length + n + 1), Bool.true_and]
    by_cases hlt : dst y < dst x
    · rw [decide_eq_true hlt, cond_true]
      have hsw : swp (P ++ (T ++ [y]) ++ x :: Q) (P.length + n + 1) (P.length + n) = P ++ T ++ x :: y :: Q := by
        rw [e1, ← hT, ← List.length_append]; exact swp_next _ _ _ _
      rw [hsw, sinkN_eq P x (y :: Q) n T hT hdT]
      have : sortS (T ++ [y] ++ [x]) = sortS (T ++ [x]) ++ [y] := by
        symm
        refine sortS_eq (List.pairwise_append.2 ⟨sortS_dn _, List.pairwise_singleton _ _, fun z hz w hw => ?_⟩) ?_
        · simp at hw; subst hw
          rcases List.mem_append.1 (sortS_mem.1 hz) with h | h
          · exact hy z h
          · simp at h; subst h; omega
        · have h1 : Same (T ++ [y] ++ [x]) (T ++ [x] ++ [y]) := by
            rw [List.append_assoc, List.append_assoc]
            refine (Same.refl T).app (Same.swap fun a ha b hb => ?_)
            simp at ha hb; rw [ha, hb]; omega
          exact h1.trans ((sortS_same _).app (Same.refl _))
      rw [this]
      simp
    · rw [decide_eq_false hlt, cond_false]
      rw [sortS_fix (l := T ++ [y] ++ [x]) (List.pairwise_append.2 ⟨hd, List.pairwise_singleton _ _, fun z hz w hw => ?_⟩)]
      · simp
      · simp at hw; subst hw
        rcases List.mem_append.1 hz with h | h
        · exact Int.le_trans (Int.not_lt.1 hlt) (hy z h)
        · simp at h; subst h; omega
end Go.Proofs.Ytpgaobdgohlegaa
