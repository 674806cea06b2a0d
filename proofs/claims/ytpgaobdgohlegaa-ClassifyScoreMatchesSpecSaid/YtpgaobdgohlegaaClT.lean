/-
  Two parts in order are merged: what the steps of slices.symMergeCmpFunc come to.
-/
import Derived.Test.YtpgaobdgohlegaaClS
namespace Go.Proofs.Ytpgaobdgohlegaa
open Go.Ev

theorem bs_spec (p : Nat → Bool) : ∀ (n i j : Nat), j - i = n → i ≤ j → (∀ h1 h2, i ≤ h1 → h1 ≤ h2 → h2 < j → p h2 = true → p h1 = true) →
    i ≤ bs p (j - i) i j ∧ bs p (j - i) i j ≤ j ∧ (∀ h, i ≤ h → h < bs p (j - i) i j → p h = true) ∧ ∀ h, bs p (j - i) i j ≤ h → h < j → p h = false := by
  intro n
  induction n using Nat.strongRecOn with
  | _ n ih =>
    intro i j hn hij hm
    rcases Nat.eq_or_lt_of_le hij with rfl | hlt
    · rw [Nat.sub_self]
      exact ⟨Nat.le_refl _, Nat.le_refl _, fun h h1 h2 => absurd h2 (Nat.not_lt.2 h1), fun h h1 h2 => absurd h2 (Nat.not_lt.2 h1)⟩
    · rw [bs_step p i j hlt]
      cases hp : p ((i + j) / 2)
      · obtain ⟨a1, a2, a3, a4⟩ := ih ((i + j) / 2 - i) (by omega) i ((i + j) / 2) rfl (by omega) fun h1 h2 b1 b2 b3 b4 => hm h1 h2 b1 b2 (by omega) b4
        rw [cond_false]
        refine ⟨a1, by omega, a3, fun h h1 h2 => ?_⟩
        by_cases hh : h < (i + j) / 2
        · exact a4 h h1 hh
        · cases hq : p h
          · rfl
          · rw [hm ((i + j) / 2) h (by omega) (by omega) h2 hq] at hp; cases hp
      · obtain ⟨a1, a2, a3, a4⟩ := ih (j - ((i + j) / 2 + 1)) (by omega) ((i + j) / 2 + 1) j rfl (by omega) fun h1 h2 b1 b2 b3 b4 => hm h1 h2 (by omega) b2 b3 b4
        rw [cond_true]
        refine ⟨by omega, a2, fun h h1 h2 => ?_, a4⟩
        by_cases hh : h ≤ (i + j) / 2
        · exact hm h ((i + j) / 2) h1 hh (by omega) hp
        · exact a3 h (by omega) h2
/-- A part of a list is in order. -/
def DnR (a b : Nat) (es : List AV) : Prop := ∀ i j, a ≤ i → i ≤ j → j < b → dst (es.getD j .unk) ≤ dst (es.getD i .unk)
def seg (a b : Nat) (es : List AV) : List AV := (es.drop a).take (b - a)
theorem seg_len {a b : Nat} {es : List AV} (hb : b ≤ es.length) : (seg a b es).length = b - a := by unfold seg; rw [List.length_take, List.length_drop]; omega
theorem seg_get {a b : Nat} {es : List AV} (hb : b ≤ es.length) {i : Nat} (hi : i < b - a) : (seg a b es)[i]'(by rw [seg_len hb]; exact hi) = es.getD (a + i) .unk := by
  unfold seg
  rw [List.getElem_take, List.getElem_drop, getD_eq (by omega)]
theorem dnR_of {a b : Nat} {es : List AV} (hb : b ≤ es.length) (h : Dn (seg a b es)) : DnR a b es := fun i j h1 h2 h3 => by
  rcases Nat.eq_or_lt_of_le h2 with rfl | hlt
  · exact Int.le_refl _
  · have := List.pairwise_iff_getElem.1 h (i - a) (j - a) (by rw [seg_len hb]; omega) (by rw [seg_len hb]; omega) (by omega)
    rw [seg_get hb (by omega), seg_get hb (by omega), show a + (i - a) = i from by omega, show a + (j - a) = j from by omega] at this
    exact this
theorem seg_split {a m b : Nat} {es : List AV} (h1 : a ≤ m) (h2 : m ≤ b) : seg a b es = seg a m es ++ seg m b es := by
  unfold seg
  rw [show (es.drop a).take (b - a) = (es.drop a).take (m - a) ++ ((es.drop a).drop (m - a)).take (b - m) from by
    rw [show b - a = (m - a) + (b - m) from by omega, List.take_add], List.drop_drop, show a + (m - a) = m from by omega]
theorem dn_sub {l r : List AV} (h : Dn (l ++ r)) : Dn l ∧ Dn r ∧ ∀ x ∈ l, ∀ y ∈ r, dst y ≤ dst x := List.pairwise_append.1 h
theorem seg_mem {a b : Nat} {es : List AV} (hb : b ≤ es.length) {x : AV} (h : x ∈ seg a b es) : ∃ i, a ≤ i ∧ i < b ∧ x = es.getD i .unk := by
  obtain ⟨i, hi, rfl⟩ := List.getElem_of_mem h
  have hi' : i < b - a := by rw [seg_len hb] at hi; exact hi
  exact ⟨a + i, by omega, by omega, seg_get hb hi'⟩
/-! One element into a part in order -/
def mvR : Nat → Nat → List AV → List AV
  | 0, _, es => es
  | n + 1, k, es => mvR n (k + 1) (swp es k (k + 1))
theorem mvR_succ (n k : Nat) (es : List AV) : mvR (n + 1) k es = mvR n (k + 1) (swp es k (k + 1)) := rfl
theorem swp_next' (P Q : List AV) (x y : AV) : swp (P ++ x :: y :: Q) P.length (P.length + 1) = P ++ y :: x :: Q := by
  unfold swp
  rw [gd0, gd1, List.set_append_right _ _ (by omega), List.set_append_right _ _ (by simp)]
  simp
theorem mvR_eq : ∀ (V P Q : List AV) (x : AV), mvR V.length P.length (P ++ x :: V ++ Q) = P ++ V ++ x :: Q
  | [], P, Q, x => by simp [mvR]
  | y :: V, P, Q, x => by
    show mvR (V.length + 1) P.length _ = _
    rw [mvR_succ, show P ++ x :: y :: V ++ Q = P ++ x :: y :: (V ++ Q) from by simp, swp_next']
    have := mvR_eq V (P ++ [y]) Q x
    rw [show (P ++ [y]).length = P.length + 1 from by simp] at this
    rw [show P ++ y :: x :: (V ++ Q) = P ++ [y] ++ x :: V ++ Q from by simp, this]
    simp
theorem mvR_len : ∀ (n k : Nat) (es : List AV), (mvR n k es).length = es.length
  | 0, _, _ => rfl
  | n + 1, k, es => by rw [mvR_succ, mvR_len n, swp_len]
theorem mvR_ok : ∀ {n k : Nat} {es : List AV}, okL es = true → k + n < es.length → okL (mvR n k es) = true
  | 0, _, _, h, _ => h
  | n + 1, k, es, h, hk => by rw [mvR_succ]; exact mvR_ok (okL_swp h (by omega) (by omega)) (by rw [swp_len]; omega)
def mvL : Nat → Nat → List AV → List AV
  | 0, _, es => es
  | n + 1, k, es => mvL n (k - 1) (swp es k (k - 1))
theorem mvL_succ (n k : Nat) (es : List AV) : mvL (n + 1) k es = mvL n (k - 1) (swp es k (k - 1)) := rfl
theorem mvL_eq : ∀ (n : Nat) (V P Q : List AV) (x : AV), V.length = n → mvL n (P.length + n) (P ++ V ++ x :: Q) = P ++ x :: V ++ Q
  | 0, V, P, Q, x, hn => by
    obtain rfl := List.eq_nil_of_length_eq_zero hn
    simp [mvL]
  | n + 1, V, P, Q, x, hn => by
    obtain ⟨T, y, rfl⟩ : ∃ T y, V = T ++ [y] := ⟨V.dropLast, V.getLast (by intro h; rw [h] at hn; simp at hn), (List.dropLast_concat_getLast _).symm⟩
    have hT : T.length = n := by simpa using hn
    rw [mvL_succ, show P.length + (n + 1) - 1 = P.length + n from by omega]
    have e1 : P ++ (T ++ [y]) ++ x :: Q = (P ++ T) ++ y :: x :: Q := by simp
    have hs : swp (P ++ (T ++ [y]) ++ x :: Q) (P.length + (n + 1)) (P.length + n) = P ++ T ++ x :: y :: Q := by
      rw [e1, show P.length + (n + 1) = (P ++ T).length + 1 from by simp; omega, show P.length + n = (P ++ T).length from by simp; omega]
      exact swp_next _ _ _ _
    rw [hs, mvL_eq n T P (y :: Q) x hT]
    simp
theorem mvL_len : ∀ (n k : Nat) (es : List AV), (mvL n k es).length = es.length
  | 0, _, _ => rfl
  | n + 1, k, es => by rw [mvL_succ, mvL_len n, swp_len]
theorem mvL_ok : ∀ {n k : Nat} {es : List AV}, okL es = true → k < es.length → okL (mvL n k es) = true
  | 0, _, _, h, _ => h
  | n + 1, k, es, h, hk => by rw [mvL_succ]; exact mvL_ok (okL_swp h (by omega) (by omega)) (by rw [swp_len]; omega)
def lP (es : List AV) (a h : Nat) : Bool := decide (dst (es.getD a .unk) < dst (es.getD h .unk))
def rP (es : List AV) (m h : Nat) : Bool := !decide (dst (es.getD h .unk) < dst (es.getD m .unk))
theorem one_left {es : List AV} {a b : Nat} (hab : a + 1 ≤ b) (hb : b ≤ es.length) (hd : Dn (seg (a + 1) b es)) :
    a + 1 ≤ bs (lP es a) (b - (a + 1)) (a + 1) b ∧ bs (lP es a) (b - (a + 1)) (a + 1) b ≤ b ∧ mvR (bs (lP es a) (b - (a + 1)) (a + 1) b - 1 - a) a es = sortAt a b es := by
  have hR := dnR_of hb hd
  obtain ⟨r1, r2, r3, r4⟩ := bs_spec (lP es a) _ (a + 1) b rfl hab fun h1 h2 b1 b2 b3 b4 => by
    have := hR h1 h2 b1 b2 b3
    have := of_decide_eq_true b4
    exact decide_eq_true (by omega)
  generalize bs (lP es a) (b - (a + 1)) (a + 1) b = r at r1 r2 r3 r4
  refine ⟨r1, r2, ?_⟩
  have hp := parts a b es (by omega)
  have hx : seg a (a + 1) es = [es.getD a .unk] := by
    unfold seg
    rw [show a + 1 - a = 1 from by omega, drop_getD (by omega)]
    rfl
  have hs : seg a b es = es.getD a .unk :: (seg (a + 1) r es ++ seg r b es) := by
    rw [seg_split (by omega : a ≤ a + 1) hab, hx, seg_split r1 r2]; rfl
  have hP : (es.take a).length = a := by rw [List.length_take]; omega
  have hV : (seg (a + 1) r es).length = r - 1 - a := by rw [seg_len (by omega)]; omega
  have hes : es = es.take a ++ es.getD a .unk :: seg (a + 1) r es ++ (seg r b es ++ es.drop b) := by
    have : es = es.take a ++ seg a b es ++ es.drop b := hp
    rw [hs] at this
    simpa using this
  have := mvR_eq (seg (a + 1) r es) (es.take a) (seg r b es ++ es.drop b) (es.getD a .unk)
  rw [hV, hP, ← hes] at this
  rw [this]
  rw [seg_split r1 r2] at hd
  obtain ⟨d1, d2, d3⟩ := dn_sub hd
  have hsort : seg (a + 1) r es ++ es.getD a .unk :: seg r b es = sortS (seg a b es) := by
    refine sortS_eq (List.pairwise_append.2 ⟨d1, List.pairwise_cons.2 ⟨fun y hy => ?_, d2⟩, fun x hx y hy => ?_⟩) ?_
    · obtain ⟨i, i1, i2, rfl⟩ := seg_mem hb hy
      have := of_decide_eq_false (r4 i i1 i2)
      omega
    · rcases List.mem_cons.1 hy with hy | hy
      · obtain ⟨i, i1, i2, rfl⟩ := seg_mem (by omega) hx
        have := of_decide_eq_true (r3 i i1 i2)
        rw [hy]; omega
      · exact d3 x hx y hy
    · rw [hs]
      have : Same ([es.getD a .unk] ++ seg (a + 1) r es) (seg (a + 1) r es ++ [es.getD a .unk]) := Same.swap fun x hx y hy => by
        have hx := List.mem_singleton.1 hx
        obtain ⟨i, i1, i2, rfl⟩ := seg_mem (by omega) hy
        have := of_decide_eq_true (r3 i i1 i2)
        rw [hx]; omega
      have := this.app (Same.refl (seg r b es))
      simpa using this
  show _ = es.take a ++ sortS (seg a b es) ++ es.drop b
  rw [← hsort]
  simp
theorem one_right {es : List AV} {a m : Nat} (ham : a ≤ m) (hb : m + 1 ≤ es.length) (hd : Dn (seg a m es)) :
    a ≤ bs (rP es m) (m - a) a m ∧ bs (rP es m) (m - a) a m ≤ m ∧ mvL (m - bs (rP es m) (m - a) a m) m es = sortAt a (m + 1) es := by
  have hR := dnR_of (by omega) hd
  obtain ⟨r1, r2, r3, r4⟩ := bs_spec (rP es m) _ a m rfl ham fun h1 h2 b1 b2 b3 b4 => by
    have := hR h1 h2 b1 b2 b3
    unfold rP at b4 ⊢
    simp only [Bool.not_eq_true', decide_eq_false_iff_not] at b4 ⊢
    omega
  generalize bs (rP es m) (m - a) a m = r at r1 r2 r3 r4
  refine ⟨r1, r2, ?_⟩
  have hp := parts a (m + 1) es (by omega)
  have hx : seg m (m + 1) es = [es.getD m .unk] := by
    unfold seg
    rw [show m + 1 - m = 1 from by omega, drop_getD (by omega)]
    rfl
  have hs : seg a (m + 1) es = seg a r es ++ seg r m es ++ [es.getD m .unk] := by
    rw [seg_split (by omega : a ≤ m) (by omega : m ≤ m + 1), hx, seg_split r1 r2]
  have hP : (es.take a ++ seg a r es).length = r := by rw [List.length_append, List.length_take, seg_len (by omega)]; omega
  have hV : (seg r m es).length = m - r := seg_len (by omega)
  have hes : es = es.take a ++ seg a r es ++ seg r m es ++ es.getD m .unk :: es.drop (m + 1) := by
    have : es = es.take a ++ seg a (m + 1) es ++ es.drop (m + 1) := hp
    rw [hs] at this
    simpa using this
  have := mvL_eq (m - r) (seg r m es) (es.take a ++ seg a r es) (es.drop (m + 1)) (es.getD m .unk) hV
  rw [hP, ← hes, show r + (m - r) = m from by omega] at this
  rw [this]
  rw [seg_split r1 r2] at hd
  obtain ⟨d1, d2, d3⟩ := dn_sub hd
  have hsort : seg a r es ++ es.getD m .unk :: seg r m es = sortS (seg a (m + 1) es) := by
    refine sortS_eq (List.pairwise_append.2 ⟨d1, List.pairwise_cons.2 ⟨fun y hy => ?_, d2⟩, fun x hx y hy => ?_⟩) ?_
    · obtain ⟨i, i1, i2, rfl⟩ := seg_mem (by omega) hy
      have := r4 i i1 i2
      unfold rP at this
      simp only [Bool.not_eq_false', decide_eq_true_eq] at this
      omega
    · rcases List.mem_cons.1 hy with hy | hy
      · obtain ⟨i, i1, i2, rfl⟩ := seg_mem (by omega) hx
        have := r3 i i1 i2
        unfold rP at this
        simp only [Bool.not_eq_true', decide_eq_false_iff_not] at this
        rw [hy]; omega
      · exact d3 x hx y hy
    · rw [hs]
      have : Same (seg r m es ++ [es.getD m .unk]) ([es.getD m .unk] ++ seg r m es) := Same.swap fun x hx y hy => by
        have hy := List.mem_singleton.1 hy
        obtain ⟨i, i1, i2, rfl⟩ := seg_mem (by omega) hx
        have := r4 i i1 i2
        unfold rP at this
        simp only [Bool.not_eq_false', decide_eq_true_eq] at this
        rw [hy]; omega
      have := (Same.refl (seg a r es)).app this
      simpa using this
  show _ = es.take a ++ sortS (seg a (m + 1) es) ++ es.drop (m + 1)
  rw [← hsort]
  simp
/-! Two parts in order, each of some elements -/
def mP (es : List AV) (p c : Nat) : Bool := !decide (dst (es.getD c .unk) < dst (es.getD (p - c) .unk))
def midO (a b : Nat) : Nat := (a + b) / 2
def st0 (a m b : Nat) : Nat := if midO a b < m then midO a b + m - b else a
def ed0 (a m b : Nat) : Nat := if midO a b < m then midO a b else m
def stN (a m b : Nat) (es : List AV) : Nat := bs (mP es (midO a b + m - 1)) (ed0 a m b - st0 a m b) (st0 a m b) (ed0 a m b)
theorem sym_eq {es : List AV} {a m b : Nat} (h1 : a < m) (h2 : m < b) (hb : b ≤ es.length) (hA : Dn (seg a m es)) (hB : Dn (seg m b es)) :
    a ≤ stN a m b es ∧ stN a m b es ≤ m ∧ stN a m b es ≤ midO a b ∧ m ≤ midO a b + m - stN a m b es ∧ midO a b + m - stN a m b es ≤ b ∧
    (∀ x ∈ seg (stN a m b es) m es, ∀ y ∈ seg m (midO a b + m - stN a m b es) es, dst x < dst y) ∧
    ∀ x ∈ seg a (stN a m b es) es, ∀ y ∈ seg (midO a b + m - stN a m b es) b es, dst y ≤ dst x := by
  have rA := dnR_of (by omega) hA
  have rB := dnR_of hb hB
  have hmid : a ≤ midO a b ∧ midO a b < b ∧ 2 * midO a b ≤ a + b ∧ a + b ≤ 2 * midO a b + 1 := by unfold midO; omega
  have q1 : a ≤ st0 a m b ∧ st0 a m b ≤ ed0 a m b ∧ ed0 a m b ≤ m ∧ ed0 a m b ≤ midO a b ∧ midO a b + m ≤ b + st0 a m b := by
    unfold st0 ed0
    split <;> omega
  obtain ⟨r1, r2, r3, r4⟩ := bs_spec (mP es (midO a b + m - 1)) _ (st0 a m b) (ed0 a m b) rfl q1.2.1 fun c1 c2 b1 b2 b3 b4 => by
    have e1 := rA c1 c2 (by omega) b2 (by omega)
    have e2 := rB (midO a b + m - 1 - c2) (midO a b + m - 1 - c1) (by omega) (by omega) (by omega)
    unfold mP at b4 ⊢
    simp only [Bool.not_eq_true', decide_eq_false_iff_not] at b4 ⊢
    omega
  have hst : stN a m b es = bs (mP es (midO a b + m - 1)) (ed0 a m b - st0 a m b) (st0 a m b) (ed0 a m b) := rfl
  rw [← hst] at r1 r2 r3 r4
  generalize stN a m b es = s at r1 r2 r3 r4
  refine ⟨by omega, by omega, by omega, by omega, by omega, fun x hx y hy => ?_, fun x hx y hy => ?_⟩
  · obtain ⟨i, i1, i2, rfl⟩ := seg_mem (by omega) hx
    obtain ⟨j, j1, j2, rfl⟩ := seg_mem (by omega) hy
    have hs : s < ed0 a m b := by
      unfold ed0 at r2 ⊢
      split at r2 <;> split <;> omega
    have := r4 s (Nat.le_refl _) hs
    unfold mP at this
    simp only [Bool.not_eq_false', decide_eq_true_eq] at this
    have e1 := rA s i (by omega) (by omega) (by omega)
    have e2 := rB j (midO a b + m - 1 - s) (by omega) (by omega) (by omega)
    omega
  · obtain ⟨i, i1, i2, rfl⟩ := seg_mem (by omega) hx
    obtain ⟨j, j1, j2, rfl⟩ := seg_mem (by omega) hy
    have hs : st0 a m b < s := by
      unfold st0 at r1 ⊢
      split at r1 <;> split <;> omega
    have := r3 (s - 1) (by omega) (by omega)
    unfold mP at this
    simp only [Bool.not_eq_true', decide_eq_false_iff_not] at this
    rw [show midO a b + m - 1 - (s - 1) = midO a b + m - s from by omega] at this
    have e1 := rA i (s - 1) (by omega) (by omega) (by omega)
    have e2 := rB (midO a b + m - s) j (by omega) (by omega) (by omega)
    omega
/-- What stands in a part of a list that is built of parts. -/
theorem seg_mk {P A Q : List AV} {a b : Nat} (ha : P.length = a) (hb : P.length + A.length = b) : seg a b (P ++ A ++ Q) = A ∧ (P ++ A ++ Q).take a = P ∧ (P ++ A ++ Q).drop b = Q := by
  subst ha
  subst hb
  refine ⟨?_, by simp, ?_⟩
  · unfold seg
    rw [List.append_assoc, List.drop_left, Nat.add_sub_cancel_left, List.take_left]
  · rw [← List.length_append, List.drop_left]
theorem sortAt_mk {P A Q : List AV} {a b : Nat} (ha : P.length = a) (hb : P.length + A.length = b) : sortAt a b (P ++ A ++ Q) = P ++ sortS A ++ Q := by
  obtain ⟨h1, h2, h3⟩ := seg_mk (Q := Q) ha hb
  unfold sortAt
  rw [h2, h3]
  show _ ++ sortS (seg a b _) ++ _ = _
  rw [h1]
theorem rotAt_mk {P A B Q : List AV} {a m b : Nat} (ha : P.length = a) (hm : P.length + A.length = m) (hb : m + B.length = b) : rotAt a m b (P ++ A ++ B ++ Q) = P ++ B ++ A ++ Q := by
  have h1 := seg_mk (P := P) (A := A) (Q := B ++ Q) ha hm
  have h2 := seg_mk (P := P ++ A) (A := B) (Q := Q) (a := m) (b := b) (by simp [hm]) (by simp [hm, hb])
  unfold rotAt
  show _ ++ seg m b _ ++ seg a m _ ++ _ = _
  rw [h2.1, h2.2.2, show P ++ A ++ B ++ Q = P ++ A ++ (B ++ Q) from by simp, h1.1, h1.2.1]
/-- What is done behind the search. -/
def symF (a m b : Nat) (es : List AV) : List AV :=
  let s := stN a m b es
  let e := midO a b + m - s
  let es1 := bif decide (s < m) && decide (m < e) then rotAt s m e es else es
  let es2 := bif decide (a < s) && decide (s < midO a b) then sortAt a (midO a b) es1 else es1
  bif decide (midO a b < e) && decide (e < b) then sortAt (midO a b) b es2 else es2
theorem symF_eq {es : List AV} {a m b : Nat} (h1 : a < m) (h2 : m < b) (hb : b ≤ es.length) (hA : Dn (seg a m es)) (hB : Dn (seg m b es)) :
    symF a m b es = sortAt a b es ∧ (∀ es1, es1 = (bif decide (stN a m b es < m) && decide (m < midO a b + m - stN a m b es) then rotAt (stN a m b es) m (midO a b + m - stN a m b es) es else es) →
      es1.length = es.length ∧ Same es es1 ∧ Dn (seg a (stN a m b es) es1) ∧ Dn (seg (stN a m b es) (midO a b) es1) ∧ Dn (seg (midO a b) (midO a b + m - stN a m b es) es1) ∧ Dn (seg (midO a b + m - stN a m b es) b es1) ∧
      (∀ es2, es2 = (bif decide (a < stN a m b es) && decide (stN a m b es < midO a b) then sortAt a (midO a b) es1 else es1) → es2.length = es.length ∧ Same es es2 ∧ Dn (seg (midO a b) (midO a b + m - stN a m b es) es2) ∧ Dn (seg (midO a b + m - stN a m b es) b es2))) := by
  obtain ⟨k1, k2, k3, k4, k5, k6, k7⟩ := sym_eq h1 h2 hb hA hB
  have hmid : a ≤ midO a b ∧ midO a b < b := by unfold midO; omega
  unfold symF
  dsimp only
  generalize hS : stN a m b es = s at k1 k2 k3 k4 k5 k6 k7
  generalize hM : midO a b = mid at k1 k2 k3 k4 k5 k6 k7 hmid
  generalize hE : mid + m - s = e at k1 k2 k3 k4 k5 k6 k7
  have hes : es = es.take a ++ seg a s es ++ seg s m es ++ seg m e es ++ seg e b es ++ es.drop b := by
    have hp : es = es.take a ++ seg a b es ++ es.drop b := parts a b es (by omega)
    have : seg a b es = seg a s es ++ (seg s m es ++ (seg m e es ++ seg e b es)) := by
      rw [seg_split (by omega : a ≤ m) (by omega : m ≤ b), seg_split k1 k2, seg_split k4 k5]; simp
    rw [this] at hp
    simpa using hp
  have lP : (es.take a).length = a := by rw [List.length_take]; omega
  have lA1 : (seg a s es).length = s - a := seg_len (by omega)
  have lA2 : (seg s m es).length = m - s := seg_len (by omega)
  have lB1 : (seg m e es).length = e - m := seg_len (by omega)
  have lB2 : (seg e b es).length = b - e := seg_len hb
  rw [seg_split k1 k2] at hA
  rw [seg_split k4 k5] at hB
  obtain ⟨dA1, dA2, dA⟩ := dn_sub hA
  obtain ⟨dB1, dB2, dB⟩ := dn_sub hB
  generalize es.take a = P at hes lP
  generalize seg a s es = A1 at hes lA1 dA1 dA k7
  generalize seg s m es = A2 at hes lA2 dA2 dA k6
  generalize seg m e es = B1 at hes lB1 dB1 dB k6
  generalize seg e b es = B2 at hes lB2 dB2 dB k7
  generalize es.drop b = Q at hes
  have hrot : (bif decide (s < m) && decide (m < e) then rotAt s m e es else es) = P ++ A1 ++ B1 ++ A2 ++ B2 ++ Q := by
    by_cases c1 : s < m
    · by_cases c2 : m < e
      · rw [decide_eq_true c1, decide_eq_true c2, hes]
        have := rotAt_mk (P := P ++ A1) (A := A2) (B := B1) (Q := B2 ++ Q) (a := s) (m := m) (b := e) (by simp; omega) (by simp; omega) (by omega)
        simpa using this
      · obtain rfl : B1 = [] := List.eq_nil_of_length_eq_zero (by omega)
        rw [decide_eq_false c2, Bool.and_false, cond_false, hes]
        simp
    · obtain rfl : A2 = [] := List.eq_nil_of_length_eq_zero (by omega)
      rw [decide_eq_false c1, Bool.false_and, cond_false, hes]
      simp
  have hsame1 : Same es (P ++ A1 ++ B1 ++ A2 ++ B2 ++ Q) := by
    rw [hes]
    have h0 : Same (A2 ++ B1) (B1 ++ A2) := Same.swap fun x hx y hy => by have := k6 x hx y hy; omega
    have := ((Same.refl (P ++ A1)).app h0).app (Same.refl (B2 ++ Q))
    simpa using this
  have hl1 : (P ++ A1 ++ B1 ++ A2 ++ B2 ++ Q).length = es.length := by rw [hes]; simp; omega
  have hsort1 : (bif decide (a < s) && decide (s < mid) then sortAt a mid (P ++ A1 ++ B1 ++ A2 ++ B2 ++ Q) else P ++ A1 ++ B1 ++ A2 ++ B2 ++ Q) = P ++ sortS (A1 ++ B1) ++ A2 ++ B2 ++ Q := by
    by_cases c1 : a < s
    · by_cases c2 : s < mid
      · rw [decide_eq_true c1, decide_eq_true c2]
        have := sortAt_mk (P := P) (A := A1 ++ B1) (Q := A2 ++ B2 ++ Q) (a := a) (b := mid) lP (by simp; omega)
        simpa using this
      · obtain rfl : B1 = [] := List.eq_nil_of_length_eq_zero (by omega)
        rw [decide_eq_false c2, Bool.and_false, cond_false, List.append_nil, List.append_nil, sortS_fix dA1]
    · obtain rfl : A1 = [] := List.eq_nil_of_length_eq_zero (by omega)
      rw [decide_eq_false c1, Bool.false_and, cond_false, List.append_nil, List.nil_append, sortS_fix dB1]
  have lS : (sortS (A1 ++ B1)).length = mid - a := by rw [sortS_len]; simp; omega
  have hsort2 : (bif decide (mid < e) && decide (e < b) then sortAt mid b (P ++ sortS (A1 ++ B1) ++ A2 ++ B2 ++ Q) else P ++ sortS (A1 ++ B1) ++ A2 ++ B2 ++ Q) = P ++ sortS (A1 ++ B1) ++ sortS (A2 ++ B2) ++ Q := by
    by_cases c1 : mid < e
    · by_cases c2 : e < b
      · rw [decide_eq_true c1, decide_eq_true c2]
        have := sortAt_mk (P := P ++ sortS (A1 ++ B1)) (A := A2 ++ B2) (Q := Q) (a := mid) (b := b) (by simp; omega) (by simp; omega)
        simpa using this
      · obtain rfl : B2 = [] := List.eq_nil_of_length_eq_zero (by omega)
        rw [decide_eq_false c2, Bool.and_false, cond_false, List.append_nil, List.append_nil, sortS_fix dA2]
    · obtain rfl : A2 = [] := List.eq_nil_of_length_eq_zero (by omega)
      rw [decide_eq_false c1, Bool.false_and, cond_false, List.append_nil, List.nil_append, sortS_fix dB2]
  have hall : sortS (A1 ++ B1) ++ sortS (A2 ++ B2) = sortS (A1 ++ A2 ++ (B1 ++ B2)) := by
    refine sortS_eq (List.pairwise_append.2 ⟨sortS_dn _, sortS_dn _, fun x hx y hy => ?_⟩) ?_
    · rcases List.mem_append.1 (sortS_mem.1 hx) with hx | hx
      · rcases List.mem_append.1 (sortS_mem.1 hy) with hy | hy
        · exact dA x hx y hy
        · exact k7 x hx y hy
      · rcases List.mem_append.1 (sortS_mem.1 hy) with hy | hy
        · have := k6 y hy x hx; omega
        · exact dB x hx y hy
    · have h0 : Same (A2 ++ B1) (B1 ++ A2) := Same.swap fun x hx y hy => by have := k6 x hx y hy; omega
      have h3 : Same (A1 ++ A2 ++ (B1 ++ B2)) (A1 ++ B1 ++ (A2 ++ B2)) := by
        have := ((Same.refl A1).app h0).app (Same.refl B2)
        simpa using this
      exact h3.trans ((sortS_same _).app (sortS_same _))
  refine ⟨?_, fun es1 he1 => ?_⟩
  · rw [hrot, hsort1, hsort2]
    have := sortAt_mk (P := P) (A := A1 ++ A2 ++ (B1 ++ B2)) (Q := Q) (a := a) (b := b) lP (by simp; omega)
    rw [hes, show P ++ A1 ++ A2 ++ B1 ++ B2 ++ Q = P ++ (A1 ++ A2 ++ (B1 ++ B2)) ++ Q from by simp, this, ← hall]
    simp
  · rw [hrot] at he1
    subst he1
    have s1 := seg_mk (P := P) (A := A1) (Q := B1 ++ A2 ++ B2 ++ Q) (a := a) (b := s) lP (by omega)
    have s2 := seg_mk (P := P ++ A1) (A := B1) (Q := A2 ++ B2 ++ Q) (a := s) (b := mid) (by simp; omega) (by simp; omega)
    have s3 := seg_mk (P := P ++ A1 ++ B1) (A := A2) (Q := B2 ++ Q) (a := mid) (b := e) (by simp; omega) (by simp; omega)
    have s4 := seg_mk (P := P ++ A1 ++ B1 ++ A2) (A := B2) (Q := Q) (a := e) (b := b) (by simp; omega) (by simp; omega)
    simp only [List.append_assoc] at s1 s2 s3 s4 hl1 hsame1 hsort1 ⊢
    refine ⟨hl1, hsame1, by rw [s1.1]; exact dA1, by rw [s2.1]; exact dB1, by rw [s3.1]; exact dA2, by rw [s4.1]; exact dB2, fun es2 he2 => ?_⟩
    rw [hsort1] at he2
    subst he2
    have t3 := seg_mk (P := P ++ sortS (A1 ++ B1)) (A := A2) (Q := B2 ++ Q) (a := mid) (b := e) (by simp; omega) (by simp; omega)
    have t4 := seg_mk (P := P ++ sortS (A1 ++ B1) ++ A2) (A := B2) (Q := Q) (a := e) (b := b) (by simp; omega) (by simp; omega)
    simp only [List.append_assoc] at t3 t4
    refine ⟨?_, ?_, by rw [t3.1]; exact dA2, by rw [t4.1]; exact dB2⟩
    · rw [← hl1]; simp [sortS_len]; omega
    · refine hsame1.trans ?_
      have := ((Same.refl P).app (sortS_same (A1 ++ B1))).app (Same.refl (A2 ++ (B2 ++ Q)))
      simpa using this
end Go.Proofs.Ytpgaobdgohlegaa
