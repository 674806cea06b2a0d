/-
  The first element that meets a test, from a place on.
-/
import Derived.Test.YtpgaobdgohlegaaEvW
namespace Go.Ev

def findFrom (p : AV → Bool) (es : List AV) (i : Nat) : Option Nat := ((es.drop i).findIdx? p).map (· + i)
def idxZ : Option Nat → Int
  | some j => j
  | none => -1
theorem findFrom_step (p : AV → Bool) (es : List AV) (i : Nat) (h : i < es.length) : findFrom p es i = bif p (es.getD i .unk) then some i else findFrom p es (i + 1) := by
  unfold findFrom
  rw [List.drop_eq_getElem_cons h, List.findIdx?_cons]
  have e : es.getD i .unk = es[i] := by simp [List.getD, h]
  rw [e]
  cases p es[i] with
  | true => simp
  | false => simp only [Bool.false_eq_true, if_false, cond_false, Option.map_map]; congr 1; funext j; simp; omega
theorem findFrom_end (p : AV → Bool) (es : List AV) (i : Nat) (h : es.length ≤ i) : findFrom p es i = none := by
  unfold findFrom
  rw [List.drop_of_length_le h]
  rfl
theorem wrap_small (n : Int) (h : -9223372036854775808 ≤ n) (h' : n ≤ 9223372036854775807) : IntKind.i64.wrap n = n := IntWalk.i64_in n ⟨h, h'⟩
theorem wrap_mid (n : Int) (h : -1000000000000 ≤ n) (h' : n ≤ 1000000000000) : IntKind.i64.wrap n = n := wrap_small n (Int.le_trans (by decide) h) (Int.le_trans h' (by decide))
/-- Small enough that no count of it passes the integers. -/
def small (n : Nat) : Bool := decide (n ≤ 9223372036854775807)
theorem small_le {n : Nat} (h : small n = true) : n ≤ 9223372036854775807 := of_decide_eq_true h
theorem tdiv_cases (a b : Int) : (0 ≤ a ∧ a.tdiv b = a / b) ∨ (a < 0 ∧ a.tdiv b = -((-a) / b)) := by
  rcases Int.lt_or_le a 0 with h | h
  · refine .inr ⟨h, ?_⟩
    rw [← Int.tdiv_eq_ediv_of_nonneg (by omega : 0 ≤ -a), Int.neg_tdiv, Int.neg_neg]
  · exact .inl ⟨h, Int.tdiv_eq_ediv_of_nonneg h⟩
theorem inb_true {i : Int} {n : Nat} (h0 : 0 ≤ i) (h : i < n) : inb i n = true := by simp [inb, h0, h]

theorem and_tt {a b : Bool} (h : a = true) (h' : b = true) : (a && b) = true := by rw [h, h']; rfl
theorem findFrom_none {p : AV → Bool} {es : List AV} (h : findFrom p es 0 = none) : ∀ x ∈ es, p x = false := by
  unfold findFrom at h
  rw [List.drop_zero] at h
  simpa using h
theorem findFrom_some {p : AV → Bool} {es : List AV} {i : Nat} (h : findFrom p es 0 = some i) : ∃ hi : i < es.length, p es[i] = true ∧ ∀ j (hj : j < i), p (es[j]'(by omega)) = false := by
  unfold findFrom at h
  rw [List.drop_zero] at h
  simp only [Option.map_eq_some_iff, Nat.add_zero, exists_eq_right] at h
  obtain ⟨h1, h2, h3⟩ := List.findIdx?_eq_some_iff_getElem.1 h
  exact ⟨h1, h2, fun j hj => by simpa using h3 j hj⟩
theorem filter_first {p : AV → Bool} {es : List AV} {i : Nat} (h : findFrom p es 0 = some i) : es.filter (fun x => !p x) = es.take i ++ (es.drop (i + 1)).filter (fun x => !p x) := by
  obtain ⟨hi, h1, h2⟩ := findFrom_some h
  conv => lhs; rw [← List.take_append_drop i es, List.drop_eq_getElem_cons hi]
  rw [List.filter_append, List.filter_cons, h1]
  have : (es.take i).filter (fun x => !p x) = es.take i := by
    rw [List.filter_eq_self]
    intro x hx
    obtain ⟨j, hj, he⟩ := List.getElem_of_mem hx
    have hj' : j < i := by simp at hj; omega
    rw [List.getElem_take] at he
    rw [← he, h2 j hj']
    rfl
  rw [this]
  rfl
/-- The first number from i on, below n, that meets a test. -/
def findN (p : Nat → Bool) (n i : Nat) : Option Nat := (List.range' i (n - i)).find? p
theorem findN_step (p : Nat → Bool) (n i : Nat) (h : i < n) : findN p n i = bif p i then some i else findN p n (i + 1) := by
  unfold findN
  rw [show n - i = (n - (i + 1)) + 1 from by omega, List.range'_succ, List.find?_cons]
  cases p i <;> rfl
theorem findN_end (p : Nat → Bool) (n i : Nat) (h : n ≤ i) : findN p n i = none := by
  unfold findN
  rw [show n - i = 0 from by omega]
  rfl
theorem findN_some {p : Nat → Bool} {n i q : Nat} (h : findN p n i = some q) : i ≤ q ∧ q < n ∧ p q = true ∧ ∀ j, i ≤ j → j < q → p j = false := by
  unfold findN at h
  obtain ⟨h1, as, bs, h2, h3⟩ := List.find?_eq_some_iff_append.1 h
  have hm : q ∈ List.range' i (n - i) := by rw [h2]; simp
  rw [List.mem_range'_1] at hm
  refine ⟨hm.1, by omega, h1, fun j hj hjq => ?_⟩
  have hl := congrArg List.length h2
  have hq : (List.range' i (n - i))[as.length]? = some q := by rw [h2]; simp
  have hal : as.length < n - i := by
    rw [List.length_range', List.length_append, List.length_cons] at hl
    omega
  have hlen : as.length = q - i := by
    rw [List.getElem?_range' hal] at hq
    simp at hq
    omega
  have hj2 : (List.range' i (n - i))[j - i]? = as[j - i]? := by rw [h2, List.getElem?_append_left (by omega)]
  rw [List.getElem?_range' (by omega)] at hj2
  have hmem : j ∈ as := List.mem_of_getElem? (i := j - i) (by rw [← hj2]; congr 1; omega)
  simpa using h3 j hmem
theorem findN_none {p : Nat → Bool} {n i : Nat} (h : findN p n i = none) : ∀ j, i ≤ j → j < n → p j = false := by
  unfold findN at h
  intro j hj hn
  have := List.find?_eq_none.1 h j (by rw [List.mem_range'_1]; omega)
  simpa using this
theorem findN_of_none {p : Nat → Bool} {n i : Nat} (h : ∀ j, i ≤ j → j < n → p j = false) : findN p n i = none := by
  unfold findN
  rw [List.find?_eq_none]
  intro j hj
  rw [List.mem_range'_1] at hj
  simp [h j hj.1 (by omega)]
theorem findN_congr {p q : Nat → Bool} {n i : Nat} (h : ∀ j, i ≤ j → j < n → p j = q j) : findN p n i = findN q n i := by
  generalize hm : n - i = m
  induction m generalizing i with
  | zero => rw [findN_end p n i (by omega), findN_end q n i (by omega)]
  | succ m ih => rw [findN_step p n i (by omega), findN_step q n i (by omega), h i (Nat.le_refl _) (by omega), ih (fun j hj hn => h j (by omega) hn) (by omega)]
/-- A loop that looks for a place, by what it comes to. -/
def sF {ρ : Type} (p : Nat → Bool) (n : Nat) (A : Nat → Option ρ) (B : Option ρ) (j : Nat) : Option ρ := bif (findN p n j).isSome then A ((findN p n j).getD 0) else B
theorem sF_step {ρ : Type} (p : Nat → Bool) (n : Nat) (A : Nat → Option ρ) (B : Option ρ) (j : Nat) (h : j < n) : sF p n A B j = bif p j then A j else sF p n A B (j + 1) := by
  unfold sF
  rw [findN_step p n j h]
  cases p j <;> rfl
theorem sF_end {ρ : Type} (p : Nat → Bool) (n : Nat) (A : Nat → Option ρ) (B : Option ρ) : sF p n A B n = B := by
  unfold sF
  rw [findN_end p n n (Nat.le_refl _)]
  rfl
theorem sF_bind {ρ σ : Type} (p : Nat → Bool) (n : Nat) (A : Nat → Option ρ) (B : Option ρ) (A' : Nat → Option σ) (B' : Option σ) (k : σ → Option ρ) (j : Nat) (hA : ∀ q, A q = (A' q).bind k) (hB : B = B'.bind k) : sF p n A B j = (sF p n A' B' j).bind k := by
  unfold sF
  cases (findN p n j).isSome
  · exact hB
  · exact hA _
theorem sF_ok {ρ : Type} {p : Nat → Bool} {n j : Nat} {A : Nat → Option ρ} {B T : Option ρ} {r : ρ} (h : sF p n A B j = some r) (hj : j ≤ n) (hT : j < n → T = bif p j then A j else sF p n A B (j + 1)) : (bif decide ((j : Int) < (n : Int)) then T else B) = some r := by
  by_cases hlt : j < n
  · rw [decide_eq_true (by omega : (j : Int) < n), ← h, sF_step _ _ _ _ _ hlt]
    exact hT hlt
  · have : j = n := by omega
    subst this
    rw [decide_eq_false (by omega), ← h, sF_end]
    rfl
/-- The guard of a counting loop. -/
def cnt (n i : Int) (m : Nat) : Bool := decide (n = m) && (decide (0 ≤ i) && (decide (i ≤ n) && small m))
theorem cnt_spec {n i : Int} {m : Nat} (h : cnt n i m = true) : n = m ∧ m ≤ 9223372036854775807 ∧ ∃ j : Nat, i = j ∧ j ≤ m := by
  simp only [cnt, Bool.and_eq_true, decide_eq_true_eq] at h
  obtain ⟨rfl, h0, h1, hs⟩ := h
  exact ⟨rfl, small_le hs, i.toNat, by omega, by omega⟩
theorem cnt_next {m j : Nat} (h : j < m) (hs : m ≤ 9223372036854775807) : cnt m (IntKind.i64.wrap ((j : Int) + 1)) m = true ∧ (IntKind.i64.wrap ((j : Int) + 1)).toNat = j + 1 := by
  rw [wrap_small _ (by omega) (by omega)]
  refine ⟨and_tt (decide_eq_true rfl) (and_tt (decide_eq_true (by omega)) (and_tt (decide_eq_true (by omega)) (decide_eq_true hs))), by omega⟩
theorem cnt_dec {m j : Nat} (h : j < m) (hs : m ≤ 9223372036854775807) : decide (((m : Int) - IntKind.i64.wrap ((j : Int) + 1)).toNat < ((m : Int) - (j : Int)).toNat) = true := by
  rw [wrap_small _ (by omega) (by omega)]
  exact decide_eq_true (by omega)
theorem cnt_zero {m : Nat} (hs : small m = true) : cnt m 0 m = true := and_tt (decide_eq_true rfl) (and_tt (decide_eq_true (by omega)) (and_tt (decide_eq_true (by omega)) hs))
theorem cond_t {α : Type} {b : Bool} {x y : α} (h : b = true) : cond b x y = x := by rw [h]; rfl
theorem cond_f {α : Type} {b : Bool} {x y : α} (h : b = false) : cond b x y = y := by rw [h]; rfl
theorem sF_next {ρ : Type} {p : Nat → Bool} {A : Nat → Option ρ} {B : Option ρ} {m j : Nat} (h : j < m) (hs : m ≤ 9223372036854775807) : (bif cnt m (IntKind.i64.wrap ((j : Int) + 1)) m then sF p m A B (IntKind.i64.wrap ((j : Int) + 1)).toNat else none) = sF p m A B (j + 1) :=
  (cond_t (cnt_next h hs).1).trans (congrArg (sF p m A B) (cnt_next h hs).2)
theorem and_t {a b : Bool} (h : a = true) (h' : b = true) : (a && b) = true := by rw [h, h']; rfl

end Go.Ev
