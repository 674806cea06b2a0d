/-
  Small functions: names, weights, instants, days, what is left of a weight.
-/
import Derived.Test.YtbbmjifioimlmaaSeat
import Derived.Test.YtbbmjifioimlmaaFind
namespace Go.Proofs.Ytbbmjifioimlmaa
open Go.Ev

abbrev sS : Sh := .agg [.str, .int .i64, .int .i64, .int .i64]
noncomputable def G0 : Env := { pure := [] }
theorem g0 : GOK Try.prog G0 := GOK.empty
def inR (n a b : Int) : Bool := decide (a ≤ n) && decide (n ≤ b)
theorem inR_spec {n a b : Int} (h : inR n a b = true) : a ≤ n ∧ n ≤ b := by simpa [inR] using h
theorem inR_no {n a b : Int} (h : inR n a b = false) : n < a ∨ b < n := by
  simp only [inR, Bool.and_eq_false_iff, decide_eq_false_iff_not] at h
  omega
theorem inR_of {n a b : Int} (h : a ≤ n) (h' : n ≤ b) : inR n a b = true := by simp [inR, h, h']
def F19 : Summ := fun _ avs k => match avs with
  | [.int .i64 n, .int .i64 a, .int .i64 b] => k (.bool (inR n a b))
  | _ => none
theorem ok19 : SumOK Try.prog 19 F19 ∧ SNat F19 := by
  refine ⟨sum0 g0 Try.func19 (by kernel_rfl) fun ρ avs k r h => ?_, fun ρ avs k => ?_⟩
  · unfold F19 at h
    split at h
    · rename_i n a b
      refine Eq.trans (b := bif decide (n ≥ a) then k (.bool (decide (n ≤ b))) else k (.bool false)) (by kernel_rfl) ?_
      unfold inR at h
      rw [show decide (n ≥ a) = decide (a ≤ n) from rfl]
      generalize decide (a ≤ n) = x at h ⊢
      cases x <;> exact h
    · cases h
  · unfold F19
    split <;> rfl
def nmB (s : List UInt8) : Bool := inR s.length 1 4000
def F28 : Summ := fun _ avs k => match avs with
  | [.str s] => k (.bool (nmB s))
  | _ => none
theorem ok28 : SumOK Try.prog 28 F28 ∧ SNat F28 := by
  refine ⟨sum0 g0 Try.func28 (by kernel_rfl) fun ρ avs k r h => ?_, fun ρ avs k => ?_⟩
  · unfold F28 at h
    split at h
    · rename_i s
      refine Eq.trans (b := bif decide ((s.length : Int) ≥ 1) then k (.bool (decide ((s.length : Int) ≤ 4000))) else k (.bool false)) (by kernel_rfl) ?_
      unfold nmB inR at h
      rw [show decide ((s.length : Int) ≥ 1) = decide ((1 : Int) ≤ s.length) from rfl]
      generalize decide ((1 : Int) ≤ s.length) = x at h ⊢
      cases x <;> exact h
    · cases h
  · unfold F28
    split <;> rfl
def F29 : Summ := fun _ avs k => match avs with
  | [.int .i64 n] => k (.bool (inR n 0 1000000))
  | _ => none
theorem ok29 : SumOK Try.prog 29 F29 ∧ SNat F29 := by
  refine ⟨sum0 g0 Try.func29 (by kernel_rfl) fun ρ avs k r h => ?_, fun ρ avs k => ?_⟩
  · unfold F29 at h
    split at h
    · rename_i n
      refine Eq.trans (b := bif decide (n ≥ 0) then k (.bool (decide (n ≤ 1000000))) else k (.bool false)) (by kernel_rfl) ?_
      unfold inR at h
      rw [show decide (n ≥ 0) = decide (0 ≤ n) from rfl]
      generalize decide (0 ≤ n) = x at h ⊢
      cases x <;> exact h
    · cases h
  · unfold F29
    split <;> rfl
def tmB (n : Int) : Bool := inR n (-68719476736) 68719476736
def F33 : Summ := fun _ avs k => match avs with
  | [.int .i64 n] => k (.bool (tmB n))
  | _ => none
theorem ok33 : SumOK Try.prog 33 F33 ∧ SNat F33 := by
  refine ⟨sum0 g0 Try.func33 (by kernel_rfl) fun ρ avs k r h => ?_, fun ρ avs k => ?_⟩
  · unfold F33 at h
    split at h
    · rename_i n
      refine Eq.trans (b := bif decide (n ≥ -68719476736) then k (.bool (decide (n ≤ 68719476736))) else k (.bool false)) (by kernel_rfl) ?_
      unfold tmB inR at h
      rw [show decide (n ≥ -68719476736) = decide (-68719476736 ≤ n) from rfl]
      generalize decide (-68719476736 ≤ n) = x at h ⊢
      cases x <;> exact h
    · cases h
  · unfold F33
    split <;> rfl

/-! ### Days -/
theorem tmod_cases (a b : Int) : (0 ≤ a ∧ a.tmod b = a - b * (a / b)) ∨ (a < 0 ∧ a.tmod b = a + b * ((-a) / b)) := by
  rw [Int.tmod_def]
  rcases tdiv_cases a b with ⟨h, e⟩ | ⟨h, e⟩
  · exact .inl ⟨h, by rw [e]⟩
  · exact .inr ⟨h, by rw [e, Int.mul_neg, Int.sub_neg]⟩
def dayW (t : Int) : Int := IntKind.i64.wrap ((IntKind.i64.wrap (t - (IntKind.i64.wrap (t.tmod 86400 + 86400)).tmod 86400)).tdiv 86400)
theorem dayW_eq {t : Int} (h : tmB t = true) : dayW t = t / 86400 := by
  obtain ⟨h1, h2⟩ := inR_spec h
  have e1 : t.tmod 86400 = t % 86400 ∨ t.tmod 86400 = t % 86400 - 86400 := by
    rcases tmod_cases t 86400 with ⟨a, e⟩ | ⟨a, e⟩ <;> rw [e] <;> omega
  have e2 : (t.tmod 86400 + 86400).tmod 86400 = t % 86400 := by
    rcases tmod_cases (t.tmod 86400 + 86400) 86400 with ⟨a, e⟩ | ⟨a, e⟩ <;> rw [e] <;> omega
  unfold dayW
  rw [wrap_mid (t.tmod 86400 + 86400) (by omega) (by omega), e2, wrap_mid (t - t % 86400) (by omega) (by omega)]
  have e3 : (t - t % 86400).tdiv 86400 = t / 86400 := by
    rcases tdiv_cases (t - t % 86400) 86400 with ⟨a, e⟩ | ⟨a, e⟩ <;> rw [e] <;> omega
  rw [e3, wrap_mid _ (by omega) (by omega)]
def F25 : Summ := fun _ avs k => match avs with
  | [.int .i64 t] => bif tmB t then k (.int .i64 (t / 86400)) else none
  | _ => none
theorem ok25 : SumOK Try.prog 25 F25 ∧ SNat F25 := by
  refine ⟨sum0 g0 Try.func25 (by kernel_rfl) fun ρ avs k r h => ?_, fun ρ avs k => ?_⟩
  · unfold F25 at h
    split at h
    · rename_i t
      obtain ⟨ht, hk⟩ := bif_some h
      refine Eq.trans (b := k (.int .i64 (dayW t))) (by kernel_rfl) ?_
      rw [dayW_eq ht]
      exact hk
    · cases h
  · unfold F25
    split
    · rename_i t; cases tmB t <;> rfl
    · rfl

/-! ### What is left -/
def halve (n k : Int) : Int := n / 2 ^ k.toNat
theorem halve_eq {g x : Int} (h0 : 0 ≤ g) (h1 : g ≤ 1000000) (hx : 0 ≤ x) : g.fdiv (2 ^ (min (if 62 < x then 62 else x).toNat 64)) = halve g x := by
  unfold halve
  rw [Int.fdiv_eq_ediv_of_nonneg _ (by exact Int.le_of_lt (Int.pow_pos (by decide)))]
  by_cases h : 62 < x
  · rw [if_pos h]
    have e1 : g / 2 ^ (min (62 : Int).toNat 64) = 0 := Int.ediv_eq_zero_of_lt h0 (Int.lt_of_le_of_lt h1 (by decide))
    have e2 : g / 2 ^ x.toNat = 0 := by
      refine Int.ediv_eq_zero_of_lt h0 (Int.lt_of_le_of_lt h1 (Int.lt_of_lt_of_le (by decide : (1000000 : Int) < 2 ^ 62) ?_))
      exact_mod_cast Nat.pow_le_pow_right (by decide) (by omega : 62 ≤ x.toNat)
    rw [e1, e2]
  · rw [if_neg h, Nat.min_eq_left (by omega)]
def okS (g b d now : Int) : Bool := inR g 0 1000000 && (inR b 0 1000000 && inR (now - d) 0 10000000)
def leftS (nm : List UInt8) (g b d now : Int) : AV := .agg [.str nm, .int .i64 (halve g (now - d)), .int .i64 (halve b (now - d)), .int .i64 now]
def F26 : Summ := fun _ avs k => match avs with
  | [.agg [.str nm, .int .i64 g, .int .i64 b, .int .i64 d], .int .i64 now] => bif okS g b d now then k (leftS nm g b d now) else none
  | _ => none
theorem ok26 : SumOK Try.prog 26 F26 ∧ SNat F26 := by
  refine ⟨sum0 g0 Try.func26 (by kernel_rfl) fun ρ avs k r h => ?_, fun ρ avs k => ?_⟩
  · unfold F26 at h
    split at h
    · rename_i nm g b d now
      obtain ⟨ht, hk⟩ := bif_some h
      simp only [okS, Bool.and_eq_true] at ht
      obtain ⟨a1, a2, a3⟩ := ht
      obtain ⟨b1, b2⟩ := inR_spec a1
      obtain ⟨c1, c2⟩ := inR_spec a2
      obtain ⟨d1, d2⟩ := inR_spec a3
      refine Eq.trans (b := (fun x : Int => bif decide ((if 62 < x then 62 else x) < 0) then none else bif decide ((if 62 < x then 62 else x) < 0) then none else k (.agg [.str nm, .int .i64 (g.fdiv (2 ^ (min (if 62 < x then 62 else x).toNat 64))), .int .i64 (b.fdiv (2 ^ (min (if 62 < x then 62 else x).toNat 64))), .int .i64 now])) (IntKind.i64.wrap (now - d))) (by kernel_rfl) ?_
      rw [wrap_mid _ (by omega) (by omega)]
      have hn : decide ((if 62 < now - d then 62 else now - d) < 0) = false := by
        rw [decide_eq_false_iff_not]; split <;> omega
      show (bif decide ((if 62 < now - d then 62 else now - d) < 0) then none else bif decide ((if 62 < now - d then 62 else now - d) < 0) then none else k (.agg [.str nm, .int .i64 (g.fdiv (2 ^ (min (if 62 < now - d then 62 else now - d).toNat 64))), .int .i64 (b.fdiv (2 ^ (min (if 62 < now - d then 62 else now - d).toNat 64))), .int .i64 now])) = some r
      rw [hn, halve_eq b1 b2 d1, halve_eq c1 c2 d1]
      exact hk
    · cases h
  · unfold F26
    split
    · rename_i nm g b d now; cases okS g b d now <;> rfl
    · rfl

end Go.Proofs.Ytbbmjifioimlmaa
