/-
  The order of strings.
-/
import Derived.Test.YtpgaobdgohlegaaEvX
import Derived.Test.YtpgaobdgohlegaaFind
namespace Go.Ev

def blt (a b : List UInt8) : Bool := Op.bytesLess a b
theorem blt_irrefl : ∀ a, blt a a = false
  | [] => rfl
  | x :: a => by
    have := blt_irrefl a
    unfold blt at this ⊢
    simp [Op.bytesLess, this]
theorem blt_trans : ∀ {a b c : List UInt8}, blt a b = true → blt b c = true → blt a c = true
  | a, [], c, h, _ => by unfold blt at h; cases a <;> simp [Op.bytesLess] at h
  | _, _ :: _, [], _, h => by unfold blt at h; simp [Op.bytesLess] at h
  | [], _ :: _, _ :: _, _, _ => by unfold blt; simp [Op.bytesLess]
  | x :: a, y :: b, z :: c, h, h' => by
    have ih := @blt_trans a b c
    unfold blt at h h' ih ⊢
    simp only [Op.bytesLess, Bool.or_eq_true, decide_eq_true_eq, Bool.and_eq_true, beq_iff_eq] at h h' ⊢
    rcases h with h | ⟨rfl, h⟩
    · rcases h' with h' | ⟨rfl, h'⟩
      · exact .inl (UInt8.lt_trans h h')
      · exact .inl h
    · rcases h' with h' | ⟨rfl, h'⟩
      · exact .inl h'
      · exact .inr ⟨rfl, ih h h'⟩
theorem blt_total : ∀ {a b : List UInt8}, blt a b = false → blt b a = false → a = b
  | [], [], _, _ => rfl
  | [], _ :: _, h, _ => by unfold blt at h; simp [Op.bytesLess] at h
  | _ :: _, [], _, h => by unfold blt at h; simp [Op.bytesLess] at h
  | x :: a, y :: b, h, h' => by
    have ih := @blt_total a b
    unfold blt at h h' ih
    simp only [Op.bytesLess, Bool.or_eq_false_iff, decide_eq_false_iff_not, Bool.and_eq_false_iff, beq_eq_false_iff_ne] at h h'
    have e : x = y := UInt8.le_antisymm (UInt8.not_lt.1 h'.1) (UInt8.not_lt.1 h.1)
    subst e
    rw [ih (by simpa using h.2) (by simpa using h'.2)]
theorem blt_asymm {a b : List UInt8} (h : blt a b = true) : blt b a = false := by
  cases h' : blt b a
  · rfl
  · have := blt_trans h h'; rw [blt_irrefl] at this; cases this
theorem blt_ne {a b : List UInt8} (h : blt a b = true) : (a == b) = false := by
  rw [beq_eq_false_iff_ne]
  intro e
  subst e
  rw [blt_irrefl] at h
  cases h
theorem cmpS_neg (a b : List UInt8) : decide (cmpS a b < 0) = blt a b := by
  unfold cmpS blt
  induction a generalizing b with
  | nil => cases b <;> simp [Lib.compareBytes, Op.bytesLess]
  | cons x a ih =>
    cases b with
    | nil => simp [Lib.compareBytes, Op.bytesLess]
    | cons y b =>
      simp only [Lib.compareBytes, Op.bytesLess]
      rw [← ih b]
      by_cases h1 : x < y
      · simp [h1]
      · by_cases h2 : y < x
        · have : (x == y) = false := by rw [beq_eq_false_iff_ne]; rintro rfl; exact h1 h2
          simp [h1, h2, this]
        · have e : x = y := UInt8.le_antisymm (UInt8.not_lt.1 h2) (UInt8.not_lt.1 h1)
          subst e
          simp [h1]
theorem cmpS_zero (a b : List UInt8) : (cmpS a b == 0) = (a == b) := by
  unfold cmpS
  induction a generalizing b with
  | nil => cases b <;> simp [Lib.compareBytes]
  | cons x a ih =>
    cases b with
    | nil => simp [Lib.compareBytes]
    | cons y b =>
      simp only [Lib.compareBytes]
      by_cases h1 : x < y
      · have : x ≠ y := by rintro rfl; exact UInt8.lt_irrefl _ h1
        simp [h1, this]
      · by_cases h2 : y < x
        · have : x ≠ y := by rintro rfl; exact h1 h2
          simp [h1, h2, this]
        · have e : x = y := UInt8.le_antisymm (UInt8.not_lt.1 h2) (UInt8.not_lt.1 h1)
          subst e
          have := ih b
          simpa [h1] using this

/-! ### The search by halves -/
def bs (p : Nat → Bool) : Nat → Nat → Nat → Nat
  | 0, i, _ => i
  | n + 1, i, j => bif decide (i < j) then (bif p ((i + j) / 2) then bs p n ((i + j) / 2 + 1) j else bs p n i ((i + j) / 2)) else i
theorem bs_eq {p : Nat → Bool} {r m : Nat} (h1 : ∀ a, a < r → p a = true) (h2 : ∀ a, r ≤ a → a < m → p a = false) : ∀ n i j, i ≤ r → r ≤ j → j ≤ m → j - i ≤ n → bs p n i j = r
  | 0, i, j, a, b, _, d => by unfold bs; omega
  | n + 1, i, j, a, b, c, d => by
    unfold bs
    by_cases h : i < j
    · rw [decide_eq_true h, cond_true]
      cases hp : p ((i + j) / 2)
      · rw [cond_false]
        have : r ≤ (i + j) / 2 := by
          rcases Nat.lt_or_ge ((i + j) / 2) r with h3 | h3
          · rw [h1 _ h3] at hp; cases hp
          · exact h3
        exact bs_eq h1 h2 n i _ a this (by omega) (by omega)
      · rw [cond_true]
        have : (i + j) / 2 < r := by
          rcases Nat.lt_or_ge ((i + j) / 2) r with h3 | h3
          · exact h3
          · rw [h2 _ h3 (by omega)] at hp; cases hp
        exact bs_eq h1 h2 n _ j (by omega) b c (by omega)
    · rw [decide_eq_false h, cond_false]; omega
theorem bs_succ (p : Nat → Bool) (n i j : Nat) : bs p (n + 1) i j = bif decide (i < j) then (bif p ((i + j) / 2) then bs p n ((i + j) / 2 + 1) j else bs p n i ((i + j) / 2)) else i := rfl
theorem bs_more (p : Nat → Bool) : ∀ n i j, j - i ≤ n → bs p (n + 1) i j = bs p n i j
  | 0, i, j, d => by unfold bs bs; rw [decide_eq_false (by omega)]; rfl
  | n + 1, i, j, d => by
    rw [bs_succ p (n + 1) i j, bs_succ p n i j]
    by_cases h : i < j
    · rw [decide_eq_true h, cond_true, cond_true, bs_more p n _ j (by omega), bs_more p n i _ (by omega)]
    · rw [decide_eq_false h, cond_false, cond_false]
theorem bs_step (p : Nat → Bool) (i j : Nat) (h : i < j) : bs p (j - i) i j = bif p ((i + j) / 2) then bs p (j - ((i + j) / 2 + 1)) ((i + j) / 2 + 1) j else bs p ((i + j) / 2 - i) i ((i + j) / 2) := by
  have key : ∀ d n i j, j - i ≤ n → bs p (n + d) i j = bs p n i j := fun d => by
    induction d with
    | zero => intros; rfl
    | succ d ih => intro n i j h; rw [← Nat.add_assoc, bs_more p (n + d) i j (by omega), ih n i j h]
  obtain ⟨m, hm⟩ : ∃ m, j - i = m + 1 := ⟨j - i - 1, by omega⟩
  rw [hm, bs, decide_eq_true h, cond_true]
  have a1 := key (m - (j - ((i + j) / 2 + 1))) (j - ((i + j) / 2 + 1)) ((i + j) / 2 + 1) j (Nat.le_refl _)
  have a2 := key (m - ((i + j) / 2 - i)) ((i + j) / 2 - i) i ((i + j) / 2) (Nat.le_refl _)
  rw [show j - ((i + j) / 2 + 1) + (m - (j - ((i + j) / 2 + 1))) = m from by omega] at a1
  rw [show (i + j) / 2 - i + (m - ((i + j) / 2 - i)) = m from by omega] at a2
  rw [a1, a2]
theorem bs_le (p : Nat → Bool) : ∀ n i j, i ≤ j → bs p n i j ≤ j ∧ i ≤ bs p n i j
  | 0, i, j, h => by unfold bs; omega
  | n + 1, i, j, h => by
    rw [bs]
    by_cases h' : i < j
    · rw [decide_eq_true h', cond_true]
      cases p ((i + j) / 2)
      · rw [cond_false]; have := bs_le p n i ((i + j) / 2) (by omega); omega
      · rw [cond_true]; have := bs_le p n ((i + j) / 2 + 1) j (by omega); omega
    · rw [decide_eq_false h', cond_false]; omega
theorem mid_eq (i j : Nat) (h : i + j ≤ 2000000) : IntKind.i64.wrap ((IntKind.u64.wrap (IntKind.i64.wrap ((i : Int) + (j : Int)))).fdiv ((2 : Int) ^ min (Int.toNat (1 : Int)) IntKind.u64.bits)) = (((i + j) / 2 : Nat) : Int) := by
  rw [wrap_mid ((i : Int) + (j : Int)) (by omega) (by omega)]
  have e : IntKind.u64.wrap ((i : Int) + (j : Int)) = (i : Int) + j := IntWalk.u64_in _ ⟨by omega, by omega⟩
  rw [e, show min (Int.toNat (1 : Int)) IntKind.u64.bits = 1 from rfl, show (2 : Int) ^ 1 = 2 from rfl, Int.fdiv_eq_ediv_of_nonneg _ (by decide), wrap_mid _ (by omega) (by omega)]
  omega
end Go.Ev
