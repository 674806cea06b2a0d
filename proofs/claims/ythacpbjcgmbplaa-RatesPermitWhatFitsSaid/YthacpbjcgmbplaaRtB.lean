/-
  Rate limits: uses are deleted.
-/
import Derived.Test.YthacpbjcgmbplaaTr
import Derived.Test.YthacpbjcgmbplaaRows
import Derived.WalkKit
import Derived.ProofKit
import Derived.OpenShut
/-
  The order of strings.
-/
namespace Go.Ev

def blt (a b : List UInt8) : Bool := Op.bytesLess a b
theorem blt_irrefl : ∀ a, blt a a = false
  | [] => rfl
  | x :: a => by
    have := blt_irrefl a
    unfold blt at this ⊢
    simp [Op.bytesLess, this]
theorem blt_trans : ∀ {a b c : List UInt8}, blt a b = true → blt b c = true → blt a c = true
  | a, [], c, h, _ => by unfold blt at h; cases a <;> simp [Op.bytesLess] at h
  | _, _ :: _, [], _, h => by unfold blt at h; simp [Op.bytesLess] at h
  | [], _ :: _, _ :: _, _, _ => by unfold blt; simp [Op.bytesLess]
  | x :: a, y :: b, z :: c, h, h' => by
    have ih := @blt_trans a b c
    unfold blt at h h' ih ⊢
    simp only [Op.bytesLess, Bool.or_eq_true, decide_eq_true_eq, Bool.and_eq_true, beq_iff_eq] at h h' ⊢
    rcases h with h | ⟨rfl, h⟩
    · rcases h' with h' | ⟨rfl, h'⟩
      · exact .inl (UInt8.lt_trans h h')
      · exact .inl h
    · rcases h' with h' | ⟨rfl, h'⟩
      · exact .inl h'
      · exact .inr ⟨rfl, ih h h'⟩
theorem blt_total : ∀ {a b : List UInt8}, blt a b = false → blt b a = false → a = b
  | [], [], _, _ => rfl
  | [], _ :: _, h, _ => by unfold blt at h; simp [Op.bytesLess] at h
  | _ :: _, [], _, h => by unfold blt at h; simp [Op.bytesLess] at h
  | x :: a, y :: b, h, h' => by
    have ih := @blt_total a b
    unfold blt at h h' ih
    simp only [Op.bytesLess, Bool.or_eq_false_iff, decide_eq_false_iff_not, Bool.and_eq_false_iff, beq_eq_false_iff_ne] at h h'
    have e : x = y := UInt8.le_antisymm (UInt8.not_lt.1 h'.1) (UInt8.not_lt.1 h.1)
    subst e
    rw [ih (by simpa using h.2) (by simpa using h'.2)]
theorem blt_asymm {a b : List UInt8} (h : blt a b = true) : blt b a = false := by
  cases h' : blt b a
  · rfl
  · have := blt_trans h h'; rw [blt_irrefl] at this; cases this
theorem blt_ne {a b : List UInt8} (h : blt a b = true) : (a == b) = false := by
  rw [beq_eq_false_iff_ne]
  intro e
  subst e
  rw [blt_irrefl] at h
  cases h
theorem cmpS_neg (a b : List UInt8) : decide (cmpS a b < 0) = blt a b := by
  unfold cmpS blt
  induction a generalizing b with
  | nil => cases b <;> simp [Lib.compareBytes, Op.bytesLess]
  | cons x a ih =>
    cases b with
    | nil => simp [Lib.compareBytes, Op.bytesLess]
    | cons y b =>
      simp only [Lib.compareBytes, Op.bytesLess]
      rw [← ih b]
      by_cases h1 : x < y
      · simp [h1]
      · by_cases h2 : y < x
        · have : (x == y) = false := by rw [beq_eq_false_iff_ne]; rintro rfl; exact h1 h2
          simp [h1, h2, this]
        · have e : x = y := UInt8.le_antisymm (UInt8.not_lt.1 h2) (UInt8.not_lt.1 h1)
          subst e
          simp [h1]
theorem cmpS_zero (a b : List UInt8) : (cmpS a b == 0) = (a == b) := by
  unfold cmpS
  induction a generalizing b with
  | nil => cases b <;> simp [Lib.compareBytes]
  | cons x a ih =>
    cases b with
    | nil => simp [Lib.compareBytes]
    | cons y b =>
      simp only [Lib.compareBytes]
      by_cases h1 : x < y
      · have : x ≠ y := by rintro rfl; exact UInt8.lt_irrefl _ h1
        simp [h1, this]
      · by_cases h2 : y < x
        · have : x ≠ y := by rintro rfl; exact h1 h2
          simp [h1, h2, this]
        · have e : x = y := UInt8.le_antisymm (UInt8.not_lt.1 h2) (UInt8.not_lt.1 h1)
          subst e
          have := ih b
          simpa [h1] using this

/-! ### The search by halves -/
def bs (p : Nat → Bool) : Nat → Nat → Nat → Nat
  | 0, i, _ => i
  | n + 1, i, j => bif decide (i < j) then (bif p ((i + j) / 2) then bs p n ((i + j) / 2 + 1) j else bs p n i ((i + j) / 2)) else i
theorem bs_eq {p : Nat → Bool} {r m : Nat} (h1 : ∀ a, a < r → p a = true) (h2 : ∀ a, r ≤ a → a < m → p a = false) : ∀ n i j, i ≤ r → r ≤ j → j ≤ m → j - i ≤ n → bs p n i j = r
  | 0, i, j, a, b, _, d => by unfold bs; omega
  | n + 1, i, j, a, b, c, d => by
    unfold bs
    by_cases h : i < j
    · rw [decide_eq_true h, cond_true]
      cases hp : p ((i + j) / 2)
      · rw [cond_false]
        have : r ≤ (i + j) / 2 := by
          rcases Nat.lt_or_ge ((i + j) / 2) r with h3 | h3
          · rw [h1 _ h3] at hp; cases hp
          · exact h3
        exact bs_eq h1 h2 n i _ a this (by omega) (by omega)
      · rw [cond_true]
        have : (i + j) / 2 < r := by
          rcases Nat.lt_or_ge ((i + j) / 2) r with h3 | h3
          · exact h3
          · rw [h2 _ h3 (by omega)] at hp; cases hp
        exact bs_eq h1 h2 n _ j (by omega) b c (by omega)
    · rw [decide_eq_false h, cond_false]; omega
theorem bs_succ (p : Nat → Bool) (n i j : Nat) : bs p (n + 1) i j = bif decide (i < j) then (bif p ((i + j) / 2) then bs p n ((i + j) / 2 + 1) j else bs p n i ((i + j) / 2)) else i := rfl
theorem bs_more (p : Nat → Bool) : ∀ n i j, j - i ≤ n → bs p (n + 1) i j = bs p n i j
  | 0, i, j, d => by unfold bs bs; rw [decide_eq_false (by omega)]; rfl
  | n + 1, i, j, d => by
    rw [bs_succ p (n + 1) i j, bs_succ p n i j]
    by_cases h : i < j
    · rw [decide_eq_true h, cond_true, cond_true, bs_more p n _ j (by omega), bs_more p n i _ (by omega)]
    · rw [decide_eq_false h, cond_false, cond_false]
theorem bs_step (p : Nat → Bool) (i j : Nat) (h : i < j) : bs p (j - i) i j = bif p ((i + j) / 2) then bs p (j - ((i + j) / 2 + 1)) ((i + j) / 2 + 1) j else bs p ((i + j) / 2 - i) i ((i + j) / 2) := by
  have key : ∀ d n i j, j - i ≤ n → bs p (n + d) i j = bs p n i j := fun d => by
    induction d with
    | zero => intros; rfl
    | succ d ih => intro n i j h; rw [← Nat.add_assoc, bs_more p (n + d) i j (by omega), ih n i j h]
  obtain ⟨m, hm⟩ : ∃ m, j - i = m + 1 := ⟨j - i - 1, by omega⟩
  rw [hm, bs, decide_eq_true h, cond_true]
  have a1 := key (m - (j - ((i + j) / 2 + 1))) (j - ((i + j) / 2 + 1)) ((i + j) / 2 + 1) j (Nat.le_refl _)
  have a2 := key (m - ((i + j) / 2 - i)) ((i + j) / 2 - i) i ((i + j) / 2) (Nat.le_refl _)
  rw [show j - ((i + j) / 2 + 1) + (m - (j - ((i + j) / 2 + 1))) = m from by omega] at a1
  rw [show (i + j) / 2 - i + (m - ((i + j) / 2 - i)) = m from by omega] at a2
  rw [a1, a2]
theorem bs_le (p : Nat → Bool) : ∀ n i j, i ≤ j → bs p n i j ≤ j ∧ i ≤ bs p n i j
  | 0, i, j, h => by unfold bs; omega
  | n + 1, i, j, h => by
    rw [bs]
    by_cases h' : i < j
    · rw [decide_eq_true h', cond_true]
      cases p ((i + j) / 2)
      · rw [cond_false]; have := bs_le p n i ((i + j) / 2) (by omega); omega
      · rw [cond_true]; have := bs_le p n ((i + j) / 2 + 1) j (by omega); omega
    · rw [decide_eq_false h', cond_false]; omega
theorem mid_eq (i j : Nat) (h : i + j ≤ 2000000) : IntKind.i64.wrap ((IntKind.u64.wrap (IntKind.i64.wrap ((i : Int) + (j : Int)))).fdiv ((2 : Int) ^ min (Int.toNat (1 : Int)) IntKind.u64.bits)) = (((i + j) / 2 : Nat) : Int) := by
  rw [wrap_mid ((i : Int) + (j : Int)) (by omega) (by omega)]
  have e : IntKind.u64.wrap ((i : Int) + (j : Int)) = (i : Int) + j := IntWalk.u64_in _ ⟨by omega, by omega⟩
  rw [e, show min (Int.toNat (1 : Int)) IntKind.u64.bits = 1 from rfl, show (2 : Int) ^ 1 = 2 from rfl, Int.fdiv_eq_ediv_of_nonneg _ (by decide), wrap_mid _ (by omega) (by omega)]
  omega
end Go.Ev

/-
  Lists in order: an element put in its place, what is found, equality by what is found.
-/
namespace Go.Ev

/-- A strict order of keys. -/
structure SO {K : Type} (lt : K → K → Bool) : Prop where
  irr : ∀ a, lt a a = false
  trans : ∀ {a b c}, lt a b = true → lt b c = true → lt a c = true
  tot : ∀ {a b}, lt a b = false → lt b a = false → a = b
theorem SO.asymm {K : Type} {lt : K → K → Bool} (O : SO lt) {a b : K} (h : lt a b = true) : lt b a = false := by
  cases h' : lt b a
  · rfl
  · have := O.trans h h'; rw [O.irr] at this; cases this
theorem SO.ne {K : Type} {lt : K → K → Bool} (O : SO lt) {a b : K} (h : lt a b = true) : a ≠ b := by
  rintro rfl; rw [O.irr] at h; cases h
theorem SO.ge {K : Type} {lt : K → K → Bool} (O : SO lt) {a b : K} (h : lt a b = false) (hn : a ≠ b) : lt b a = true := by
  cases h' : lt b a
  · exact absurd (O.tot h h') hn
  · rfl
variable {α K : Type}
def Srt (nm : α → K) (lt : K → K → Bool) (es : List α) : Prop := es.Pairwise fun a b => lt (nm a) (nm b) = true
/-- An element takes its place; one of the same key goes. -/
def ins (nm : α → K) (lt : K → K → Bool) (es : List α) (x : α) : List α := es.filter (fun e => lt (nm e) (nm x)) ++ x :: es.filter (fun e => lt (nm x) (nm e))
def lk [DecidableEq K] (nm : α → K) (s : K) (es : List α) : Option α := es.find? fun e => decide (nm e = s)

theorem split_filter {p : α → Bool} {es : List α} {n : Nat} (hn : n ≤ es.length) (h1 : ∀ i (h : i < es.length), i < n → p es[i] = true) (h2 : ∀ i (h : i < es.length), n ≤ i → p es[i] = false) : es.take n = es.filter p ∧ es.drop n = es.filter (fun e => !p e) := by
  have a1 : (es.take n).filter p = es.take n := List.filter_eq_self.2 fun x hx => by
    obtain ⟨i, hi, rfl⟩ := List.getElem_of_mem hx
    rw [List.length_take] at hi
    rw [List.getElem_take]
    exact h1 i (by omega) (by omega)
  have a2 : (es.drop n).filter p = [] := List.filter_eq_nil_iff.2 fun x hx => by
    obtain ⟨i, hi, rfl⟩ := List.getElem_of_mem hx
    rw [List.length_drop] at hi
    rw [List.getElem_drop, h2 _ (by omega) (by omega)]
    exact Bool.false_ne_true
  have a3 : (es.take n).filter (fun e => !p e) = [] := List.filter_eq_nil_iff.2 fun x hx => by
    obtain ⟨i, hi, rfl⟩ := List.getElem_of_mem hx
    rw [List.length_take] at hi
    rw [List.getElem_take, h1 i (by omega) (by omega)]
    exact Bool.false_ne_true
  have a4 : (es.drop n).filter (fun e => !p e) = es.drop n := List.filter_eq_self.2 fun x hx => by
    obtain ⟨i, hi, rfl⟩ := List.getElem_of_mem hx
    rw [List.length_drop] at hi
    rw [List.getElem_drop, h2 _ (by omega) (by omega)]
    rfl
  have e : es = es.take n ++ es.drop n := (List.take_append_drop n es).symm
  constructor
  · conv => rhs; rw [e, List.filter_append, a1, a2, List.append_nil]
  · conv => rhs; rw [e, List.filter_append, a3, a4, List.nil_append]
theorem srt_get {nm : α → K} {lt : K → K → Bool} {es : List α} (h : Srt nm lt es) {i j : Nat} (hi : i < es.length) (hj : j < es.length) (hij : i < j) : lt (nm es[i]) (nm es[j]) = true := List.pairwise_iff_getElem.1 h i j hi hj hij
theorem srt_of_get {nm : α → K} {lt : K → K → Bool} {es : List α} (h : ∀ i j (hi : i < es.length) (hj : j < es.length), i < j → lt (nm es[i]) (nm es[j]) = true) : Srt nm lt es := List.pairwise_iff_getElem.2 h
/-- The order of neighbours is enough. -/
theorem srt_of_step {nm : α → K} {lt : K → K → Bool} (O : SO lt) {es : List α} (h : ∀ i (hi : i + 1 < es.length), lt (nm es[i]) (nm es[i + 1]) = true) : Srt nm lt es := by
  refine srt_of_get fun i j hi hj hij => ?_
  obtain ⟨d, rfl⟩ : ∃ d, j = i + 1 + d := ⟨j - (i + 1), by omega⟩
  clear hij
  induction d with
  | zero => exact h i hj
  | succ d ih => exact O.trans (ih (by omega)) (h (i + 1 + d) hj)
theorem ins_mem {nm : α → K} {lt : K → K → Bool} (O : SO lt) {es : List α} {x y : α} : y ∈ ins nm lt es x ↔ y = x ∨ (y ∈ es ∧ nm y ≠ nm x) := by
  unfold ins
  simp only [List.mem_append, List.mem_filter, List.mem_cons]
  constructor
  · rintro (⟨h1, h2⟩ | rfl | ⟨h1, h2⟩)
    · exact .inr ⟨h1, O.ne h2⟩
    · exact .inl rfl
    · exact .inr ⟨h1, fun e => O.ne h2 e.symm⟩
  · rintro (rfl | ⟨h1, h2⟩)
    · exact .inr (.inl rfl)
    · cases h3 : lt (nm y) (nm x)
      · exact .inr (.inr ⟨h1, O.ge h3 h2⟩)
      · exact .inl ⟨h1, rfl⟩
theorem ins_srt {nm : α → K} {lt : K → K → Bool} (O : SO lt) {es : List α} {x : α} (h : Srt nm lt es) : Srt nm lt (ins nm lt es x) := by
  unfold ins Srt
  rw [List.pairwise_append, List.pairwise_cons]
  refine ⟨h.sublist List.filter_sublist, ⟨fun y hy => (List.mem_filter.1 hy).2, h.sublist List.filter_sublist⟩, fun a ha b hb => ?_⟩
  have h1 := (List.mem_filter.1 ha).2
  rcases List.mem_cons.1 hb with rfl | hb
  · exact h1
  · exact O.trans h1 (List.mem_filter.1 hb).2
theorem srt_ext {nm : α → K} {lt : K → K → Bool} (O : SO lt) : ∀ {l m : List α}, Srt nm lt l → Srt nm lt m → (∀ x, x ∈ l ↔ x ∈ m) → l = m
  | [], [], _, _, _ => rfl
  | [], b :: m, _, _, h => by have := (h b).2 (by simp); cases this
  | a :: l, [], _, _, h => by have := (h a).1 (by simp); cases this
  | a :: l, b :: m, h1, h2, h => by
    have h1' := List.pairwise_cons.1 h1
    have h2' := List.pairwise_cons.1 h2
    have e : a = b := by
      have ha := (h a).1 (by simp)
      have hb := (h b).2 (by simp)
      rcases List.mem_cons.1 ha with rfl | ha
      · rfl
      · rcases List.mem_cons.1 hb with rfl | hb
        · rfl
        · have := O.asymm (h1'.1 b hb)
          rw [h2'.1 a ha] at this
          cases this
    subst e
    rw [srt_ext O h1'.2 h2'.2 fun x => ?_]
    constructor
    · intro hx
      rcases List.mem_cons.1 ((h x).1 (by simp [hx])) with rfl | hy
      · have := h1'.1 x hx; rw [O.irr] at this; cases this
      · exact hy
    · intro hx
      rcases List.mem_cons.1 ((h x).2 (by simp [hx])) with rfl | hy
      · have := h2'.1 x hx; rw [O.irr] at this; cases this
      · exact hy
theorem srt_inj {nm : α → K} {lt : K → K → Bool} (O : SO lt) {es : List α} (h : Srt nm lt es) {x y : α} (hx : x ∈ es) (hy : y ∈ es) (e : nm x = nm y) : x = y := by
  obtain ⟨i, hi, rfl⟩ := List.getElem_of_mem hx
  obtain ⟨j, hj, rfl⟩ := List.getElem_of_mem hy
  rcases Nat.lt_trichotomy i j with h1 | h1 | h1
  · have := srt_get h hi hj h1; rw [e, O.irr] at this; cases this
  · subst h1; rfl
  · have := srt_get h hj hi h1; rw [e, O.irr] at this; cases this
theorem look_mem [DecidableEq K] {nm : α → K} {s : K} {es : List α} {x : α} (h : lk nm s es = some x) : x ∈ es ∧ nm x = s :=
  ⟨List.mem_of_find?_eq_some h, by simpa using List.find?_some h⟩
theorem look_none [DecidableEq K] {nm : α → K} {s : K} {es : List α} : lk nm s es = none ↔ ∀ x ∈ es, nm x ≠ s := by
  unfold lk
  rw [List.find?_eq_none]
  simp
theorem look_of_mem [DecidableEq K] {nm : α → K} {lt : K → K → Bool} (O : SO lt) {es : List α} (h : Srt nm lt es) {x : α} (hx : x ∈ es) : lk nm (nm x) es = some x := by
  cases hl : lk nm (nm x) es with
  | none => exact absurd rfl (look_none.1 hl x hx)
  | some y => obtain ⟨h1, h2⟩ := look_mem hl; rw [srt_inj O h h1 hx h2]
theorem look_iff [DecidableEq K] {nm : α → K} {lt : K → K → Bool} (O : SO lt) {es : List α} (h : Srt nm lt es) {x : α} {s : K} : lk nm s es = some x ↔ x ∈ es ∧ nm x = s :=
  ⟨look_mem, fun ⟨h1, h2⟩ => h2 ▸ look_of_mem O h h1⟩
theorem look_ins [DecidableEq K] {nm : α → K} {lt : K → K → Bool} (O : SO lt) {es : List α} (h : Srt nm lt es) (x : α) (s : K) : lk nm s (ins nm lt es x) = if s = nm x then some x else lk nm s es := by
  by_cases e : s = nm x
  · rw [if_pos e, look_iff O (ins_srt O h), ins_mem O]
    exact ⟨.inl rfl, e.symm⟩
  · rw [if_neg e]
    cases hl : lk nm s es with
    | none =>
      rw [look_none] at hl ⊢
      intro y hy
      rcases (ins_mem O).1 hy with rfl | ⟨h1, _⟩
      · exact fun h => e h.symm
      · exact hl y h1
    | some y =>
      obtain ⟨h1, h2⟩ := look_mem hl
      rw [look_iff O (ins_srt O h), ins_mem O]
      exact ⟨.inr ⟨h1, by rw [h2]; exact e⟩, h2⟩
theorem srt_look_ext [DecidableEq K] {nm : α → K} {lt : K → K → Bool} (O : SO lt) {l m : List α} (h1 : Srt nm lt l) (h2 : Srt nm lt m) (h : ∀ s, lk nm s l = lk nm s m) : l = m :=
  srt_ext O h1 h2 fun x => ⟨fun hx => (look_mem ((h (nm x)).symm.trans (look_of_mem O h1 hx))).1, fun hx => (look_mem ((h (nm x)).trans (look_of_mem O h2 hx))).1⟩
/-- Put at its place, where no element has its key. -/
theorem ins_put {nm : α → K} {lt : K → K → Bool} (O : SO lt) {es : List α} {x : α} {n : Nat} (hn : n ≤ es.length) (h1 : ∀ i (h : i < es.length), i < n → lt (nm es[i]) (nm x) = true) (h2 : ∀ i (h : i < es.length), n ≤ i → lt (nm es[i]) (nm x) = false) (hx : ∀ y ∈ es, nm y ≠ nm x) : es.take n ++ x :: es.drop n = ins nm lt es x := by
  obtain ⟨a1, a2⟩ := split_filter (p := fun e => lt (nm e) (nm x)) hn h1 h2
  unfold ins
  rw [a1, a2]
  congr 2
  refine List.filter_congr fun y hy => ?_
  cases h3 : lt (nm y) (nm x)
  · rw [O.ge h3 (hx y hy)]; rfl
  · rw [O.asymm h3]; rfl
/-- Put in the place of the one that has its key. -/
theorem ins_set {nm : α → K} {lt : K → K → Bool} (O : SO lt) {es : List α} {x : α} {n : Nat} (hs : Srt nm lt es) (hn : n < es.length) (e : nm es[n] = nm x) : es.set n x = ins nm lt es x := by
  have a1 := (split_filter (es := es) (p := fun y => lt (nm y) (nm x)) (n := n) (by omega) (fun i hi h => by rw [← e]; exact srt_get hs hi hn h) (fun i hi h => by
    rcases Nat.eq_or_lt_of_le h with rfl | h
    · rw [e, O.irr]
    · rw [← e]; exact O.asymm (srt_get hs hn hi h))).1
  have a2 := (split_filter (es := es) (p := fun y => !lt (nm x) (nm y)) (n := n + 1) (by omega) (fun i hi h => by
    rcases Nat.eq_or_lt_of_le (Nat.le_of_lt_succ h) with rfl | h
    · rw [e, O.irr]; rfl
    · rw [← e, O.asymm (srt_get hs hi hn h)]; rfl) (fun i hi h => by rw [← e, srt_get hs hn hi (by omega)]; rfl)).2
  unfold ins
  rw [← a1, List.set_eq_take_append_cons_drop, if_pos hn, a2]
  simp
theorem ins_len_new {nm : α → K} {lt : K → K → Bool} (O : SO lt) {es : List α} {x : α} (hx : ∀ y ∈ es, nm y ≠ nm x) : (ins nm lt es x).length = es.length + 1 := by
  unfold ins
  rw [List.length_append, List.length_cons]
  induction es with
  | nil => rfl
  | cons a l ih =>
    have ih := ih fun y hy => hx y (by simp [hy])
    have ha := hx a (by simp)
    cases h3 : lt (nm a) (nm x)
    · have h4 := O.ge h3 ha
      simp only [List.filter_cons, h3, h4, Bool.false_eq_true, if_false, if_true, List.length_cons]
      omega
    · have h4 := O.asymm h3
      simp only [List.filter_cons, h3, h4, Bool.false_eq_true, if_false, if_true, List.length_cons]
      omega
theorem ins_len_old {nm : α → K} {lt : K → K → Bool} (O : SO lt) {es : List α} {x y : α} (hs : Srt nm lt es) (hy : y ∈ es) (e : nm y = nm x) : (ins nm lt es x).length = es.length := by
  obtain ⟨i, hi, rfl⟩ := List.getElem_of_mem hy
  rw [← ins_set O hs hi e, List.length_set]
/-- How many come ahead of a key. -/
def posn (nm : α → K) (lt : K → K → Bool) (x : K) (es : List α) : Nat := (es.filter fun e => lt (nm e) x).length
theorem posn_le (nm : α → K) (lt : K → K → Bool) (x : K) (es : List α) : posn nm lt x es ≤ es.length := List.length_filter_le _ _
theorem posn_spec {nm : α → K} {lt : K → K → Bool} (O : SO lt) {es : List α} (h : Srt nm lt es) (x : K) : (∀ i (hi : i < es.length), i < posn nm lt x es → lt (nm es[i]) x = true) ∧ ∀ i (hi : i < es.length), posn nm lt x es ≤ i → lt (nm es[i]) x = false := by
  unfold posn
  induction es with
  | nil => exact ⟨fun i hi => by simp at hi, fun i hi => by simp at hi⟩
  | cons e r ih =>
    have h' := List.pairwise_cons.1 h
    obtain ⟨i1, i2⟩ := ih h'.2
    cases he : lt (nm e) x
    · have hr : ∀ y ∈ r, lt (nm y) x = false := fun y hy => by
        cases hy2 : lt (nm y) x
        · rfl
        · have := O.trans (h'.1 y hy) hy2; rw [he] at this; cases this
      have hz : (List.filter (fun e => lt (nm e) x) (e :: r)).length = 0 := by
        rw [List.filter_cons, he, List.filter_eq_nil_iff.2 fun y hy => by rw [hr y hy]; exact Bool.false_ne_true]
        rfl
      rw [hz]
      refine ⟨fun i _ hi => by omega, fun i hi _ => ?_⟩
      cases i with
      | zero => exact he
      | succ i => exact hr _ (List.getElem_mem _)
    · have hz : (List.filter (fun e => lt (nm e) x) (e :: r)).length = (r.filter fun e => lt (nm e) x).length + 1 := by
        rw [List.filter_cons, he]
        rfl
      rw [hz]
      refine ⟨fun i hi h3 => ?_, fun i hi h3 => ?_⟩
      · cases i with
        | zero => exact he
        | succ i => exact i1 i (by simpa using hi) (by omega)
      · cases i with
        | zero => omega
        | succ i => exact i2 i (by simpa using hi) (by omega)
theorem posn_found {nm : α → K} {lt : K → K → Bool} (O : SO lt) {es : List α} (h : Srt nm lt es) {x : K} {q : Nat} (hq : q < es.length) (e : nm es[q] = x) : posn nm lt x es = q := by
  obtain ⟨h1, h2⟩ := posn_spec O h x
  rcases Nat.lt_trichotomy (posn nm lt x es) q with h4 | h4 | h4
  · have a1 := h2 _ (by omega) (Nat.le_refl _)
    have a2 := srt_get h (by omega) hq h4
    rw [e] at a2
    rw [a1] at a2
    cases a2
  · exact h4
  · have a1 := h1 q hq h4
    rw [e, O.irr] at a1
    cases a1
theorem posn_ins {nm : α → K} {lt : K → K → Bool} (O : SO lt) {es : List α} (h : Srt nm lt es) {x : α} (hx : ∀ y ∈ es, nm y ≠ nm x) : es.take (posn nm lt (nm x) es) ++ x :: es.drop (posn nm lt (nm x) es) = ins nm lt es x := by
  obtain ⟨h1, h2⟩ := posn_spec O h (nm x)
  exact ins_put O (posn_le _ _ _ _) h1 h2 hx
theorem ins_cons {nm : α → K} {lt : K → K → Bool} (O : SO lt) {e x : α} {r : List α} (hs : Srt nm lt (e :: r)) : ins nm lt (e :: r) x = bif lt (nm e) (nm x) then e :: ins nm lt r x else bif lt (nm x) (nm e) then x :: e :: r else x :: r := by
  have hs' := List.pairwise_cons.1 hs
  unfold ins
  have key : lt (nm e) (nm x) = false → r.filter (fun y => lt (nm y) (nm x)) = [] ∧ r.filter (fun y => lt (nm x) (nm y)) = r := fun h => by
    have h5 : ∀ y ∈ r, lt (nm x) (nm y) = true := fun y hy => by
      by_cases h6 : nm e = nm x
      · rw [← h6]; exact hs'.1 y hy
      · exact O.trans (O.ge h h6) (hs'.1 y hy)
    exact ⟨List.filter_eq_nil_iff.2 fun y hy => by rw [O.asymm (h5 y hy)]; exact Bool.false_ne_true, List.filter_eq_self.2 h5⟩
  cases h1 : lt (nm e) (nm x)
  · obtain ⟨k1, k2⟩ := key h1
    cases h2 : lt (nm x) (nm e)
    · simp [List.filter_cons, h1, h2, k1, k2]
    · simp [List.filter_cons, h1, h2, k1, k2]
  · have h2 := O.asymm h1
    simp [List.filter_cons, h1, h2]
end Go.Ev

/-
  What slices.Insert of one element comes to.
-/
namespace Go.Ev

theorem roomB_small {n b : Nat} (h : n ≤ 2000000) (h' : b ≤ 1000) : roomB n b = true := by
  simp only [roomB, Bool.and_eq_true, decide_eq_true_eq]
  have : n * b ≤ 2000000 * 1000 := Nat.mul_le_mul h h'
  omega
theorem slb_true {l h : Int} {m : Nat} (h0 : 0 ≤ l) (h1 : l ≤ h) (h2 : h ≤ m) : slb l h m = true := by simp [slb, h0, h1, h2]
theorem getD_eq {es : List AV} {i : Nat} (h : i < es.length) : es.getD i .unk = es[i] := by simp [List.getD, h]
theorem drop_getD {es : List AV} {i : Nat} (h : i < es.length) : es.drop i = es.getD i .unk :: es.drop (i + 1) := by rw [getD_eq h, List.drop_eq_getElem_cons h]

def spl (A B : List AV) (w : Nat) : List AV := A.take w ++ (B.take (min (A.length - w) B.length) ++ A.drop (w + min (A.length - w) B.length))
theorem spl_eq {P R B : List AV} {w : Nat} (h : P.length = w) (h' : B.length ≤ R.length) : spl (P ++ R) B w = P ++ (B ++ R.drop B.length) := by
  subst h
  unfold spl
  rw [show min ((P ++ R).length - P.length) B.length = B.length from by rw [List.length_append]; omega]
  rw [List.take_left, List.take_length, List.drop_append]
  rw [show P.length + B.length - P.length = B.length from by omega, List.drop_of_length_le (by omega : P.length ≤ P.length + B.length)]
  rfl
/-- The text of slices.Insert with one new element, evaluated; K: what is made of the new list. -/
def insTree {ρ : Type} (es sp : List AV) (x z : AV) (i bytes : Nat) (K : List AV → Option ρ) : Option ρ :=
  bif slb (i : Int) (es.length : Int) es.length then
    bif (i : Int) == (es.length : Int) then bif roomB (es.length + 1) bytes then K (es ++ [x]) else none else
    bif decide (IntKind.i64.wrap ((es.length : Int) + 1) > (es.length : Int) + (sp.length : Int)) then
      bif slb 0 (i : Int) es.length then
        bif decide (i ≤ es.length) && (decide (0 ≤ IntKind.i64.wrap (IntKind.i64.wrap ((es.length : Int) + 1) - i)) && (decide (es.length + sp.length < i + (IntKind.i64.wrap (IntKind.i64.wrap ((es.length : Int) + 1) - i)).toNat) && roomB (i + (IntKind.i64.wrap (IntKind.i64.wrap ((es.length : Int) + 1) - i)).toNat) bytes)) then
          (fun T : List AV => bif slb (i : Int) (T.length : Int) T.length then bif decide (i + (T.length - i) ≤ T.length) then
            (fun A : List AV => bif slb (IntKind.i64.wrap ((i : Int) + 1)) (A.length : Int) A.length then bif slb (i : Int) (es.length : Int) es.length then bif decide (i + (es.length - i) ≤ es.length) then
              bif decide ((IntKind.i64.wrap ((i : Int) + 1)).toNat + (A.length - (IntKind.i64.wrap ((i : Int) + 1)).toNat) ≤ A.length) then K (spl A ((es.drop i).take (es.length - i)) (IntKind.i64.wrap ((i : Int) + 1)).toNat) else none else none else none else none) (spl T [x] i)
            else none else none) (es.take i ++ List.replicate (IntKind.i64.wrap (IntKind.i64.wrap ((es.length : Int) + 1) - i)).toNat z)
        else none
      else none
    else
      bif decide ((es.length : Int) ≤ IntKind.i64.wrap ((es.length : Int) + 1)) && decide (IntKind.i64.wrap ((es.length : Int) + 1) ≤ (es.length : Int) + (sp.length : Int)) then
        (fun E : List AV => bif slb (IntKind.i64.wrap ((i : Int) + 1)) (E.length : Int) E.length then
          bif (PID + 0).beq PID && ((PID + 1).beq (PID + 1) && (decide ((IntKind.i64.wrap ((i : Int) + 1)).toNat + (E.length - (IntKind.i64.wrap ((i : Int) + 1)).toNat) ≤ E.length) && true)) then
            bif slb (IntKind.i64.wrap ((i : Int) + 1)) (E.length : Int) E.length then bif slb (i : Int) (E.length : Int) E.length then bif decide (i + (E.length - i) ≤ E.length) then
              bif decide ((IntKind.i64.wrap ((i : Int) + 1)).toNat + (E.length - (IntKind.i64.wrap ((i : Int) + 1)).toNat) ≤ E.length) then
                (fun C : List AV => bif slb (i : Int) (C.length : Int) C.length then bif decide (i + (C.length - i) ≤ C.length) then K (spl C [x] i) else none else none)
                  (spl E ((E.drop i).take (E.length - i)) (IntKind.i64.wrap ((i : Int) + 1)).toNat)
              else none else none else none else none
          else none else none) (es ++ sp.take ((IntKind.i64.wrap ((es.length : Int) + 1)).toNat - es.length))
      else none
  else none
theorem insTree_eq {ρ : Type} {es sp : List AV} {x z : AV} {i bytes : Nat} (K : List AV → Option ρ) (hi : i ≤ es.length) (hn : es.length ≤ 100000) (hb : bytes ≤ 1000) : insTree es sp x z i bytes K = K (es.take i ++ x :: es.drop i) := by
  have w1 : IntKind.i64.wrap ((es.length : Int) + 1) = ((es.length + 1 : Nat) : Int) := by rw [wrap_mid _ (by omega) (by omega)]; omega
  have w2 : IntKind.i64.wrap (((es.length + 1 : Nat) : Int) - i) = ((es.length + 1 - i : Nat) : Int) := by rw [wrap_mid _ (by omega) (by omega)]; omega
  have w3 : IntKind.i64.wrap ((i : Int) + 1) = ((i + 1 : Nat) : Int) := by rw [wrap_mid _ (by omega) (by omega)]; omega
  unfold insTree
  rw [w1, w2, w3]
  simp only [Int.toNat_natCast]
  rw [slb_true (by omega) (by omega) (by omega), cond_true]
  by_cases he : i = es.length
  · subst he
    rw [show ((es.length : Int) == (es.length : Int)) = true from by simp, cond_true, roomB_small (by omega) hb, cond_true, List.take_length, List.drop_length]
  · have hlt : i < es.length := by omega
    rw [show ((i : Int) == (es.length : Int)) = false from by simp; omega, cond_false]
    have htl : (es.take i).length = i := by rw [List.length_take]; omega
    by_cases hsp : sp.length = 0
    · rw [decide_eq_true (by omega), cond_true, slb_true (by omega) (by omega) (by omega), cond_true]
      refine Eq.trans (cond_t (and_t (decide_eq_true (by omega)) (and_t (decide_eq_true (by omega)) (and_t (decide_eq_true (by omega)) (roomB_small (by omega) hb))))) ?_
      have hT : es.take i ++ List.replicate (es.length + 1 - i) z = es.take i ++ (z :: List.replicate (es.length - i) z) := by
        rw [show es.length + 1 - i = (es.length - i) + 1 from by omega, List.replicate_succ]
      simp only [hT]
      have hA : spl (es.take i ++ (z :: List.replicate (es.length - i) z)) [x] i = es.take i ++ (x :: List.replicate (es.length - i) z) := by
        rw [spl_eq htl (by simp)]; rfl
      simp only [hA]
      have l1 : (es.take i ++ (z :: List.replicate (es.length - i) z)).length = es.length + 1 := by rw [List.length_append, htl, List.length_cons, List.length_replicate]; omega
      have l2 : (es.take i ++ (x :: List.replicate (es.length - i) z)).length = es.length + 1 := by rw [List.length_append, htl, List.length_cons, List.length_replicate]; omega
      simp only [l1, l2]
      refine Eq.trans (cond_t (slb_true (by omega) (by omega) (by omega))) (Eq.trans (cond_t (decide_eq_true (by omega))) (Eq.trans (cond_t (slb_true (by omega) (by omega) (by omega))) (Eq.trans (cond_t rfl) (Eq.trans (cond_t (decide_eq_true (by omega))) (Eq.trans (cond_t (decide_eq_true (by omega))) ?_)))))
      rw [show es.take i ++ (x :: List.replicate (es.length - i) z) = (es.take i ++ [x]) ++ List.replicate (es.length - i) z from by simp]
      have hB : (es.drop i).take (es.length - i) = es.drop i := List.take_of_length_le (by simp)
      have hR : (List.replicate (es.length - i) z).drop (es.drop i).length = [] := List.drop_of_length_le (by simp)
      rw [hB, spl_eq (by rw [List.length_append, htl]; rfl) (by simp), hR]
      simp
    · rw [decide_eq_false (by omega), cond_false]
      refine Eq.trans (cond_t (and_t (decide_eq_true (by omega)) (decide_eq_true (by omega)))) ?_
      obtain ⟨y, sp', rfl⟩ : ∃ y sp', sp = y :: sp' := by cases sp with | nil => simp at hsp | cons y sp' => exact ⟨y, sp', rfl⟩
      have h1 : es.length + 1 - es.length = 1 := by omega
      simp only [h1, List.take_succ_cons, List.take_zero]
      have l1 : (es ++ [y]).length = es.length + 1 := by simp
      have hd1 : (es ++ [y]).drop i = es.drop i ++ [y] := List.drop_append_of_le_length (by omega)
      have hC : spl (es ++ [y]) (((es ++ [y]).drop i).take ((es ++ [y]).length - i)) (i + 1) = es.take (i + 1) ++ es.drop i := by
        have l3 : (es.drop i ++ [y]).length = es.length + 1 - i := by rw [List.length_append, List.length_drop]; simp; omega
        have hB : (es.drop i ++ [y]).take (es.length + 1 - i) = es.drop i ++ [y] := List.take_of_length_le (by rw [l3]; exact Nat.le_refl _)
        have h2 : (es.drop i ++ [y]).take (es.length - i) = es.drop i := by
          rw [List.take_append_of_le_length (by rw [List.length_drop]; omega), List.take_of_length_le (by rw [List.length_drop]; omega)]
        have h3 : (es ++ [y]).drop (i + 1 + (es.length - i)) = [] := List.drop_of_length_le (by rw [l1]; omega)
        have h4 : (es ++ [y]).take (i + 1) = es.take (i + 1) := List.take_append_of_le_length (by omega)
        rw [hd1, l1, hB]
        unfold spl
        rw [l1, l3, show min (es.length + 1 - (i + 1)) (es.length + 1 - i) = es.length - i from by omega, h2, h3, h4, List.append_nil]
      simp only [hC]
      have l4 : (es.take (i + 1) ++ es.drop i).length = es.length + 1 := by rw [List.length_append, List.length_take, List.length_drop]; omega
      simp only [l1, l4]
      refine Eq.trans (cond_t (slb_true (by omega) (by omega) (by omega))) (Eq.trans (cond_t (and_t (Nat.beq_refl _) (and_t (Nat.beq_refl _) (and_t (decide_eq_true (by omega)) rfl)))) (Eq.trans (cond_t (slb_true (by omega) (by omega) (by omega))) (Eq.trans (cond_t (slb_true (by omega) (by omega) (by omega))) (Eq.trans (cond_t (decide_eq_true (by omega))) (Eq.trans (cond_t (decide_eq_true (by omega))) (Eq.trans (cond_t (slb_true (by omega) (by omega) (by omega))) (Eq.trans (cond_t (decide_eq_true (by omega))) ?_)))))))
      rw [show es.take (i + 1) ++ es.drop i = es.take i ++ (es[i] :: es.drop i) from by rw [List.take_succ_eq_append_getElem hlt, List.append_assoc]; rfl, spl_eq htl (by simp)]
      rfl
end Go.Ev

/-
  What slices.DeleteFunc comes to.
-/
namespace Go.Ev

def delN (p : AV → Bool) (c : AV → AV) : Nat → List AV → Nat → Nat → List AV × Nat
  | 0, es, i, _ => (es, i)
  | n + 1, es, i, j => bif p (es.getD j .unk) then delN p c n es i (j + 1) else delN p c n (es.set i (c (es.getD j .unk))) (i + 1) (j + 1)
theorem delN_succ (p : AV → Bool) (c : AV → AV) (n : Nat) (es : List AV) (i j : Nat) : delN p c (n + 1) es i j = bif p (es.getD j .unk) then delN p c n es i (j + 1) else delN p c n (es.set i (c (es.getD j .unk))) (i + 1) (j + 1) := rfl
theorem delN_len (p : AV → Bool) (c : AV → AV) : ∀ (n : Nat) (es : List AV) (i j : Nat), (delN p c n es i j).1.length = es.length
  | 0, _, _, _ => rfl
  | n + 1, es, i, j => by
    rw [delN_succ]
    cases p (es.getD j .unk)
    · rw [cond_false, delN_len p c n]; simp
    · rw [cond_true, delN_len p c n]
theorem delN_le (p : AV → Bool) (c : AV → AV) : ∀ (n : Nat) (es : List AV) (i j : Nat), (delN p c n es i j).2 ≤ i + n
  | 0, _, _, _ => Nat.le_refl _
  | n + 1, es, i, j => by
    rw [delN_succ]
    cases p (es.getD j .unk)
    · rw [cond_false]; have := delN_le p c n (es.set i (c (es.getD j .unk))) (i + 1) (j + 1); omega
    · rw [cond_true]; have := delN_le p c n es i (j + 1); omega
theorem delN_take (p : AV → Bool) (c : AV → AV) : ∀ (n : Nat) (es : List AV) (i j : Nat), i ≤ j → j + n = es.length → (∀ x ∈ es, c x = x) → (delN p c n es i j).1.take (delN p c n es i j).2 = es.take i ++ (es.drop j).filter (fun x => !p x)
  | 0, es, i, j, _, h, _ => by
    unfold delN
    rw [List.drop_of_length_le (by omega)]
    simp
  | n + 1, es, i, j, hij, h, hc => by
    have hj : j < es.length := by omega
    rw [delN_succ, getD_eq hj, List.drop_eq_getElem_cons hj, List.filter_cons]
    cases hz : p es[j]
    · rw [cond_false, hc _ (List.getElem_mem hj)]
      rw [delN_take p c n (es.set i es[j]) (i + 1) (j + 1) (by omega) (by rw [List.length_set]; omega) (fun x hx => by
        rcases List.mem_or_eq_of_mem_set hx with h | h
        · exact hc x h
        · rw [h]; exact hc _ (List.getElem_mem hj))]
      have e1 : (es.set i es[j]).take (i + 1) = es.take i ++ [es[j]] := by
        rw [List.take_add_one, List.take_set_of_le (Nat.le_refl _), List.getElem?_set_self (by omega)]
        rfl
      have e2 : (es.set i es[j]).drop (j + 1) = es.drop (j + 1) := List.drop_set_of_lt (by omega)
      rw [e1, e2]
      simp
    · rw [cond_true, delN_take p c n es i (j + 1) (by omega) (by omega) hc]
      simp
/-- The text of slices.DeleteFunc, evaluated; f: where the first to be deleted is; G: what its loop asks. -/
def delTree {ρ : Type} (p : AV → Bool) (c : AV → AV) (z : AV) (es : List AV) (f : Option Nat) (G : Int → Int → Bool) (K : List AV → Option ρ) : Option ρ :=
  bif small es.length then bif idxZ f == -1 then K es else
    bif G (idxZ f) (IntKind.i64.wrap (idxZ f + 1)) then
      (fun D : List AV × Nat => bif slb (D.2 : Int) (D.1.length : Int) D.1.length then bif decide (((D.2 : Nat) : Int).toNat + (((D.1.length : Nat) : Int).toNat - ((D.2 : Nat) : Int).toNat) ≤ D.1.length) then
        (fun E : List AV => bif slb 0 (D.2 : Int) E.length then bif (((D.2 : Nat) : Int).toNat - Int.toNat 0).ble E.length then K (E.take (((D.2 : Nat) : Int).toNat - Int.toNat 0)) else none else none)
          (D.1.take ((D.2 : Nat) : Int).toNat ++ (List.replicate (((D.1.length : Nat) : Int).toNat - ((D.2 : Nat) : Int).toNat) z ++ D.1.drop (((D.2 : Nat) : Int).toNat + (((D.1.length : Nat) : Int).toNat - ((D.2 : Nat) : Int).toNat))))
        else none else none) (delN p c (es.length - (IntKind.i64.wrap (idxZ f + 1)).toNat) es (idxZ f).toNat (IntKind.i64.wrap (idxZ f + 1)).toNat)
    else none
  else none
theorem delTree_eq {ρ : Type} {p : AV → Bool} {c : AV → AV} {z : AV} {es : List AV} {f : Option Nat} {G : Int → Int → Bool} {K : List AV → Option ρ} (hf : f = findN (fun i => p (es.getD i .unk)) es.length 0) (hs : es.length ≤ 1000000) (hc : ∀ x ∈ es, c x = x) (hG : ∀ i : Nat, i < es.length → G i ((i : Int) + 1) = true) : delTree p c z es f G K = K (es.filter fun x => !p x) := by
  unfold delTree
  rw [show small es.length = true from decide_eq_true (by omega), cond_true]
  cases hq : f with
  | none =>
    have hn := findN_none (hf ▸ hq)
    rw [show es.filter (fun x => !p x) = es from List.filter_eq_self.2 fun x hx => by
      obtain ⟨i, hi, rfl⟩ := List.getElem_of_mem hx
      have := hn i (Nat.zero_le _) hi
      rw [getD_eq hi] at this
      rw [this]; rfl]
    rfl
  | some i =>
    obtain ⟨_, hi, h1, h2⟩ := findN_some (hf ▸ hq)
    have hw : IntKind.i64.wrap ((i : Int) + 1) = i + 1 := wrap_mid _ (by omega) (by omega)
    have hn1 : ((i : Int) + 1).toNat = i + 1 := by omega
    have hl := delN_len p c (es.length - (i + 1)) es i (i + 1)
    have hle := delN_le p c (es.length - (i + 1)) es i (i + 1)
    have htk := delN_take p c (es.length - (i + 1)) es i (i + 1) (by omega) (by omega) hc
    have hfi : es.filter (fun x => !p x) = es.take i ++ (es.drop (i + 1)).filter (fun x => !p x) := by
      conv => lhs; rw [← List.take_append_drop i es, List.drop_eq_getElem_cons hi]
      rw [getD_eq hi] at h1
      rw [List.filter_append, List.filter_cons, h1]
      rw [show (es.take i).filter (fun x => !p x) = es.take i from List.filter_eq_self.2 fun x hx => by
        obtain ⟨j, hj, rfl⟩ := List.getElem_of_mem hx
        rw [List.length_take] at hj
        have := h2 j (Nat.zero_le _) (by omega)
        rw [getD_eq (by omega)] at this
        rw [List.getElem_take, this]; rfl]
      rfl
    rw [hfi, ← htk]
    simp only [idxZ, hw, hn1, Int.toNat_natCast]
    rw [show ((i : Int) == -1) = false from by simp, cond_false, hG i hi, cond_true]
    generalize delN p c (es.length - (i + 1)) es i (i + 1) = D at hl hle
    have e1 : D.1.take D.2 ++ (List.replicate (D.1.length - D.2) z ++ D.1.drop (D.2 + (D.1.length - D.2))) = D.1.take D.2 ++ List.replicate (D.1.length - D.2) z := by
      rw [List.drop_of_length_le (by omega), List.append_nil]
    have e2 : (D.1.take D.2 ++ List.replicate (D.1.length - D.2) z).length = D.1.length := by simp; omega
    rw [e1]
    refine Eq.trans (cond_t (slb_true (by omega) (by omega) (by omega))) (Eq.trans (cond_t (decide_eq_true (by omega))) (Eq.trans (cond_t (slb_true (by omega) (by omega) (by rw [e2]; omega))) (Eq.trans (cond_t (Nat.ble_eq_true_of_le (by rw [e2]; simp; omega))) ?_)))
    rw [show D.2 - Int.toNat 0 = D.2 from by simp, List.take_append_of_le_length (by simp; omega), List.take_of_length_le (by simp; omega)]
end Go.Ev

/-
  Further calls that the model answers itself: a byte sought in a string, and counted.
-/
namespace Go.Ev
open Go.RowKit

def idxB (s : List UInt8) (c : Int) : Int := Lib.indexByte s c.toNat.toUInt8
def Fidx : Summ := fun _ avs k => match avs with
  | [.str s, .int .u8 c] => k (.int .i64 (idxB s c))
  | _ => none
theorem snat_idx : SNat Fidx := fun ρ avs k => by unfold Fidx; split <;> rfl
theorem idx_ok {P : Program} {f : FuncId} {fn : Func} (hfn : P.funcs[f]? = some fn) (hname : (fn.name == "runtime.NumGoroutine") = false) (hb : fn.body.isNone = true) (hn : Extern.findNext fn = none) (he : Extern.find fn = some Extern.BytealgIndexByte.indexByte) : SumOK P f Fidx ∧ SNat Fidx := by
  refine ⟨fun ρ w S avs args k r hS hv h => ?_, snat_idx⟩
  unfold Fidx at h
  split at h
  · rename_i s c
    obtain ⟨v, vs, rfl, h1, hv⟩ := hv.inv
    obtain ⟨u, us, rfl, h2, hv⟩ := hv.inv
    obtain rfl := hv.inv_nil
    rw [h1.str_inv, h2.int_inv]
    refine .inr ⟨noBody hfn hb, .int .i64 (idxB s c), w, ?_, ⟨_, _, fun _ => False, rfl, h, Below.refl _ _, fun _ h => h.elim, fun _ h => h.elim, .int _ _ _⟩⟩
    rw [run_callFunc_extern hfn hname hb hn he]
    show ((Extern.BytealgIndexByte.indexByte #[.string ⟨s.toArray⟩, .int .u8 c]).run P w).andThen _ = _
    rw [Lib.run_indexByteString]
    rfl
  · cases h
def cntB (s : List UInt8) (c : Int) : Nat := Lib.countByte s c.toNat.toUInt8
def Fcnt : Summ := fun _ avs k => match avs with
  | [.str s, .int .u8 c] => k (.int .i64 (cntB s c : Nat))
  | _ => none
theorem snat_cnt : SNat Fcnt := fun ρ avs k => by unfold Fcnt; split <;> rfl
theorem cnt_ok {P : Program} {f : FuncId} {fn : Func} (hfn : P.funcs[f]? = some fn) (hname : (fn.name == "runtime.NumGoroutine") = false) (hb : fn.body.isNone = true) (hn : Extern.findNext fn = none) (he : Extern.find fn = some Extern.BytealgCount.count) : SumOK P f Fcnt ∧ SNat Fcnt := by
  refine ⟨fun ρ w S avs args k r hS hv h => ?_, snat_cnt⟩
  unfold Fcnt at h
  split at h
  · rename_i s c
    obtain ⟨v, vs, rfl, h1, hv⟩ := hv.inv
    obtain ⟨u, us, rfl, h2, hv⟩ := hv.inv
    obtain rfl := hv.inv_nil
    rw [h1.str_inv, h2.int_inv]
    refine .inr ⟨noBody hfn hb, .int .i64 (cntB s c : Nat), w, ?_, ⟨_, _, fun _ => False, rfl, h, Below.refl _ _, fun _ h => h.elim, fun _ h => h.elim, .int _ _ _⟩⟩
    rw [run_callFunc_extern hfn hname hb hn he]
    show ((Extern.BytealgCount.count #[.string ⟨s.toArray⟩, .int .u8 c]).run P w).andThen _ = _
    rw [Lib.run_countString]
    rfl
  · cases h
end Go.Ev

/-
  A function that hands back a new array: one of its elements may be held apart.
-/
namespace Go.Ev

theorem etas_rel' {w : World} {S : Nat → Prop} {β : Bet} {s : Sh} {x : AV} {us : List Value} (h : hasSh s x = true) (hv : VRels w S β x.cells us) : VRels w S β (etaCells s x) us := etas_rel _ _ _ (hasSh_hass s _ h) hv
/-- One element of an array is held apart. -/
theorem RowRel.focus {w : World} {S B : Nat → Prop} {β : Bet} {id : Nat} {o : Option Nat} {imm : Bool} {s : Sh} {e : TypeId} {pre post cs : List AV} {x : AV} {csp : Option (List AV)} (h : RowRel w S B β id o (.arr imm s e (pre ++ x :: post) csp))
    (hcs : cs = x.cells ∨ cs = etaCells s x) : RowRel w S B β id o (.foc imm s e pre cs post) := by
  obtain ⟨hpos, v, sp, xs, hsh, _, hb, h1, hvs, hor⟩ := h
  rcases hor with ⟨he, _⟩ | ⟨g, ho, rfl, hB, hh, hm, hi, hj⟩
  · simp at he
  · have hpre : ∀ y ∈ pre, hasSh s y = true := fun y hy => hsh y (by simp [hy])
    have hx : hasSh s x = true := hsh x (by simp)
    have hpost : ∀ y ∈ post ++ sp, hasSh s y = true := fun y hy => hsh y (by
      rcases List.mem_append.1 hy with h | h <;> simp [h])
    have hw := hasSh_width s x hx
    have hf : flat (pre ++ x :: post ++ sp) = flat pre ++ (x.cells ++ flat (post ++ sp)) := by
      simp only [flat, List.flatMap_append, List.flatMap_cons, List.append_assoc]
    rw [hf] at hvs
    have lp := flat_length pre hpre
    have v1 : VRels w S nob (flat pre) (xs.take (flat pre).length) := by
      have := hvs.take (flat pre).length
      rwa [List.take_append_of_le_length (Nat.le_refl _), List.take_of_length_le (Nat.le_refl _)] at this
    have v2 : VRels w S nob (x.cells ++ flat (post ++ sp)) (xs.drop (flat pre).length) := by
      have := hvs.drop (flat pre).length
      rwa [List.drop_left] at this
    have v3 : VRels w S nob x.cells ((xs.drop (flat pre).length).take x.cells.length) := by
      have := v2.take x.cells.length
      rwa [List.take_append_of_le_length (Nat.le_refl _), List.take_of_length_le (Nat.le_refl _)] at this
    have v4 : VRels w S nob (flat (post ++ sp)) ((xs.drop (flat pre).length).drop x.cells.length) := by
      have := v2.drop x.cells.length
      rwa [List.drop_left] at this
    have hsplit : xs.take (flat pre).length ++ ((xs.drop (flat pre).length).take x.cells.length ++ (xs.drop (flat pre).length).drop x.cells.length) = xs := by
      rw [List.take_append_drop, List.take_append_drop]
    have v3' : VRels w S β cs ((xs.drop (flat pre).length).take x.cells.length) := by
      have m : VRels w S β x.cells ((xs.drop (flat pre).length).take x.cells.length) := v3.mono (fun _ h => h) (fun _ _ => rfl) (fun _ _ h => by cases h)
      rcases hcs with rfl | rfl
      · exact m
      · exact etas_rel' hx m
    have hl : (pre ++ x :: post).length = pre.length + (post.length + 1) := by simp
    rw [hl] at hb hm
    refine ⟨hpos, ?_, g, sp, _, _, _, hpre, hpost, ho, hb, ?_, v1, v3', v4, hB, by rw [hsplit]; exact hh, hm, hi, hj⟩
    · rw [← v3'.1, v3.1]; exact hw
    · rw [hsplit]; exact h1
theorem Goes.mono {P : Program} {f : FuncId} {args : Array Value} {w : World} {R R' : Ending → World → Prop} (h : Goes P f args w R) (hR : ∀ e w', R e w' → R' e w') : Goes P f args w R' := by
  rcases h with ⟨hb, h⟩ | ⟨hb, u, w', h1, h2⟩
  · exact .inl ⟨hb, h.mono hR⟩
  · exact .inr ⟨hb, u, w', h1, hR _ _ h2⟩
theorem XOK.focus {P : Program} {f : FuncId} {p p' : List AV → List Row → Tr XOut} (h : XOK P f (ofX p))
    (hp : ∀ avs rows, p' avs rows = .no ∨ (∃ t, p' avs rows = .gd false t) ∨ ∃ (c c' : Bool) (v : AV) (pr : List (Option Row)) (s : Sh) (e : TypeId) (pre : List AV) (x : AV) (post : List AV) (csp : Option (List AV)) (rest : List Row) (cs : List AV),
      p avs rows = .gd c (.leaf (v, pr, .arr false s e (pre ++ x :: post) csp :: rest)) ∧ p' avs rows = .gd c' (.leaf (v, pr, .foc false s e pre cs post :: rest)) ∧ (c' = true → c = true) ∧ (cs = x.cells ∨ cs = etaCells s x)) : XOK P f (ofX p') ∧ XNat (ofX p') := by
  refine ⟨fun ρ w S B β og avs rows args k r hh hB hβ hv hF => ?_, xnat_ofX _⟩
  rcases hp avs rows with e | ⟨t, e⟩ | ⟨c, c', v, pr, s, e, pre, x, post, csp, rest, cs, e1, e2, hc, hcs⟩
  · have hF' : (p' avs rows).run (fun q => k q.1 q.2.1 q.2.2) = some r := hF
    rw [e] at hF'
    cases hF'
  · have hF' : (p' avs rows).run (fun q => k q.1 q.2.1 q.2.2) = some r := hF
    rw [e] at hF'
    cases hF'
  · have hF' : (p' avs rows).run (fun q => k q.1 q.2.1 q.2.2) = some r := hF
    rw [e2] at hF'
    obtain ⟨hc', hk⟩ := gd_some hF'
    have h0 := h (AV × List (Option Row) × List Row) w S B β og avs rows args (fun v p n => some (v, p, n)) (v, pr, .arr false s e (pre ++ x :: post) csp :: rest) hh hB hβ hv (by
      show (p avs rows).run (fun q => some (q.1, q.2.1, q.2.2)) = _
      rw [e1, hc hc']
      rfl)
    refine Goes.mono h0 fun e' w' ⟨u, v', prow, nrow, S', β', og', he, hkk, ha⟩ => ?_
    simp only [Option.some.injEq, Prod.mk.injEq] at hkk
    obtain ⟨rfl, rfl, rfl⟩ := hkk
    refine ⟨u, _, _, _, S', β', og', he, hk, ⟨ha.kept, ha.sub, ha.sin, ha.val, ha.prow, fun j r hj => ?_, ha.inj, ha.lt, ha.one, ha.Slt, ha.bet⟩⟩
    cases j with
    | zero =>
      simp only [List.getElem?_cons_zero, Option.some.injEq] at hj
      subst hj
      exact (ha.nrow 0 _ rfl).focus hcs
    | succ j => exact ha.nrow (j + 1) r (by simpa using hj)
/-- What is known of a function may hang on its arguments. -/
theorem SumOK.point {P : Program} {f : FuncId} {F : Summ} (h : ∀ avs, ∃ F', SumOK P f F' ∧ ∀ (ρ : Type) (k : AV → Option ρ) (r : ρ), F ρ avs k = some r → F' ρ avs k = some r) : SumOK P f F := fun ρ w S avs args k r hS hv hF => by
  obtain ⟨F', h1, h2⟩ := h avs
  exact h1 ρ w S avs args k r hS hv (h2 ρ k r hF)
theorem XOK.point {P : Program} {f : FuncId} {F : SummX} (h : ∀ avs rows, ∃ F', XOK P f F' ∧ ∀ (ρ : Type) (k : AV → List (Option Row) → List Row → Option ρ) (r : ρ), F ρ avs rows k = some r → F' ρ avs rows k = some r) : XOK P f F := fun ρ w S B β og avs rows args k r hh hB hβ hv hF => by
  obtain ⟨F', h1, h2⟩ := h avs rows
  exact h1 ρ w S B β og avs rows args k r hh hB hβ hv (h2 ρ k r hF)
end Go.Ev

/-
  Small functions of rate limits; the search.
-/
namespace Go.Proofs.Ythacpbjcgmbplaa
open Go.Ev

abbrev sU : Sh := .agg [.int .i64, .int .i64]
abbrev sK : Sh := .agg [.str, .slice (.agg [.int .i64, .int .i64])]
def kN (e : AV) : List UInt8 := (e.cells.headD .unk).toStr
def kU (e : AV) : List AV := (e.cells.tail.headD .unk).toList
def uA (e : AV) : Int := (e.cells.headD .unk).toInt
def uN (e : AV) : Int := (e.cells.tail.headD .unk).toInt
noncomputable def G0 : Env := { pure := [] }
theorem g0 : GOK Try.prog G0 := GOK.empty
def inR (n a b : Int) : Bool := decide (a ≤ n) && decide (n ≤ b)
theorem inR_spec {n a b : Int} (h : inR n a b = true) : a ≤ n ∧ n ≤ b := by simpa [inR] using h
theorem inR_no {n a b : Int} (h : inR n a b = false) : n < a ∨ b < n := by
  simp only [inR, Bool.and_eq_false_iff, decide_eq_false_iff_not] at h
  omega
theorem inR_of {n a b : Int} (h : a ≤ n) (h' : n ≤ b) : inR n a b = true := by simp [inR, h, h']
theorem inR_br {α : Type} (n a b : Int) (k : AV → α) : (bif decide (n ≥ a) then k (.bool (decide (n ≤ b))) else k (.bool false)) = k (.bool (inR n a b)) := by
  unfold inR
  rw [show decide (n ≥ a) = decide (a ≤ n) from rfl]
  cases decide (a ≤ n) <;> rfl
def F13 : List AV → Tr AV
  | [.int .i64 n, .int .i64 a, .int .i64 b] => .leaf (.bool (inR n a b))
  | _ => .no
theorem ok13 : SumOK Try.prog 13 (ofT F13) ∧ SNat (ofT F13) := by
  refine fn0 g0 Try.func13 (by kernel_rfl) fun ρ avs k r h => ?_
  unfold F13 at h
  split at h
  · rename_i n a b
    have hk := h
    refine Eq.trans (b := bif decide (a ≤ n) then k (AV.bool (decide (n ≤ b))) else k (AV.bool false)) (by kernel_rfl) ?_
    rw [← hk]
    exact inR_br n a b k
  · cases h
def tmB (n : Int) : Bool := inR n (-68719476736) 68719476736
def F31 : List AV → Tr AV
  | [.int .i64 n] => .leaf (.bool (tmB n))
  | _ => .no
theorem ok31 : SumOK Try.prog 31 (ofT F31) ∧ SNat (ofT F31) := by
  refine fn0 g0 Try.func31 (by kernel_rfl) fun ρ avs k r h => ?_
  unfold F31 at h
  split at h
  · rename_i n
    have hk := h
    refine Eq.trans (b := bif decide (n ≥ (-68719476736 : Int)) then k (AV.bool (decide (n ≤ (68719476736 : Int)))) else k (AV.bool false)) (by kernel_rfl) ?_
    rw [← hk]
    exact inR_br n _ _ k
  · cases h
def nmB (s : List UInt8) : Bool := inR s.length 1 4000
def F30 : List AV → Tr AV
  | [.str s] => .leaf (.bool (nmB s))
  | _ => .no
theorem ok30 : SumOK Try.prog 30 (ofT F30) ∧ SNat (ofT F30) := by
  refine fn0 g0 Try.func30 (by kernel_rfl) fun ρ avs k r h => ?_
  unfold F30 at h
  split at h
  · rename_i s
    have hk := h
    refine Eq.trans (b := bif decide ((↑s.length : Int) ≥ (1 : Int)) then k (AV.bool (decide ((↑s.length : Int) ≤ (4000 : Int)))) else k (AV.bool false)) (by kernel_rfl) ?_
    rw [← hk]
    exact inR_br _ _ _ k
  · cases h
noncomputable def G1 : Env := { pure := [(13, ofT F13), (30, ofT F30), (31, ofT F31), (14, evF Try.prog G0 [] Try.f14), (16, evF Try.prog G0 [] Try.f16), (20, evF Try.prog G0 [] Try.f20), (25, evF Try.prog G0 [] Try.f25), (26, evF Try.prog { pure := [(13, ofT F13)] } [] Try.f26)] }
theorem g1 : GOK Try.prog G1 := GOK.also (GOK.also (GOK.also (GOK.also (GOK.also (GOK.also (GOK.also (GOK.also g0 (inl (GOK.also g0 ok13) Try.func26 (by kernel_rfl))) (inl g0 Try.func25 (by kernel_rfl))) (inl g0 Try.func20 (by kernel_rfl))) (inl g0 Try.func16 (by kernel_rfl))) (inl g0 Try.func14 (by kernel_rfl))) ok31) ok30) ok13
/-! Search -/
noncomputable def G38 : Env := { pure := [(38, Fcmp)] }
theorem g38 : GOK Try.prog G38 := GOK.also g0 (cmp_ok Try.func38 (by kernel_rfl) (by kernel_rfl) (by kernel_rfl) (by kernel_rfl))
noncomputable def G32 : Env := { pure := [(32, evF Try.prog G38 [] Try.f32)] }
theorem g32 : GOK Try.prog G32 := GOK.also g0 (inl g38 Try.func32 (by kernel_rfl))
noncomputable def G19 : Env := { pure := [(19, evF Try.prog G32 [] Try.f19)] }
theorem g19 : GOK Try.prog G19 := GOK.also g0 (inl g32 Try.func19 (by kernel_rfl))
noncomputable def G18 : Env := { pure := [(18, evF Try.prog G19 [] Try.f18)] }
theorem g18 : GOK Try.prog G18 := GOK.also g0 (inl g19 Try.func18 (by kernel_rfl))
noncomputable def b17 : Code := ((Try.f17.body.map loopsOf).getD []).headD .skip
def ltN (s : List UInt8) (es : List AV) (i : Nat) : Bool := decide (cmpS (kN (es.getD i .unk)) s < 0)
def L17 : List AV → List (Option Row) → Tr LOut
  | [.slv (.agg [.str, .slice (.agg [.int .i64, .int .i64])]) es, .str s, .fn 18 [], .int .i64 z, .bool y, .int .i64 n, .int .i64 i, .int .i64 j], [] =>
    .gd (decide (0 ≤ i) && (decide (i ≤ j) && (decide (j ≤ es.length) && decide (es.length ≤ 1000000)))) (.leaf (.exit 0, [.slv sK es, .str s, .fn 18 [], .int .i64 z, .bool y, .int .i64 n, .int .i64 (bs (ltN s es) (j.toNat - i.toNat) i.toNat j.toNat : Nat), .int .i64 (bs (ltN s es) (j.toNat - i.toNat) i.toNat j.toNat : Nat)], []))
  | _, _ => .no
def l17 : Ev.Loop := ⟨{ len := 49, slots := [0, 1, 2, 6, 7, 8, 9, 10] }, ofL L17⟩
def μ17 (vs : List AV) (_ : List (Option Row)) : Nat := match vs with
  | [_, _, _, _, _, _, .int _ i, .int _ j] => (j - i).toNat
  | _ => 0
theorem loop17 : LoopOK Try.prog G18 [(3, l17)] b17 l17 := by
  refine loopT g18.natOK rfl (KOK.nil (by kernel_rfl)) μ17 (fun ρ vs rs k r h => ?_)
  unfold L17 at h
  split at h
  · rename_i es s z y n i' j'
    obtain ⟨hc, hk⟩ := gd_some h
    simp only [Bool.and_eq_true, decide_eq_true_eq] at hc
    obtain ⟨c1, c2, c3, c4⟩ := hc
    obtain ⟨i, rfl⟩ : ∃ i : Nat, i' = i := ⟨i'.toNat, by omega⟩
    obtain ⟨j, rfl⟩ : ∃ j : Nat, j' = j := ⟨j'.toNat, by omega⟩
    simp only [Int.toNat_natCast] at hk
    refine Eq.trans (b := bif decide ((↑i : Int) < (↑j : Int)) then bif inb (IntKind.i64.wrap ((IntKind.u64.wrap (IntKind.i64.wrap ((↑i : Int) + (↑j : Int)))).fdiv ((2 : Int) ^ min (Int.toNat (1 : Int)) IntKind.u64.bits))) es.length then bif decide (cmpS (kN (es.getD (IntKind.i64.wrap ((IntKind.u64.wrap (IntKind.i64.wrap ((↑i : Int) + (↑j : Int)))).fdiv ((2 : Int) ^ min (Int.toNat (1 : Int)) IntKind.u64.bits))).toNat AV.unk)) s < (0 : Int)) then bif decide (((↑j : Int) - IntKind.i64.wrap (IntKind.i64.wrap ((IntKind.u64.wrap (IntKind.i64.wrap ((↑i : Int) + (↑j : Int)))).fdiv ((2 : Int) ^ min (Int.toNat (1 : Int)) IntKind.u64.bits)) + (1 : Int))).toNat < ((↑j : Int) - (↑i : Int)).toNat) then bif decide ((0 : Int) ≤ IntKind.i64.wrap (IntKind.i64.wrap ((IntKind.u64.wrap (IntKind.i64.wrap ((↑i : Int) + (↑j : Int)))).fdiv ((2 : Int) ^ min (Int.toNat (1 : Int)) IntKind.u64.bits)) + (1 : Int))) && (decide (IntKind.i64.wrap (IntKind.i64.wrap ((IntKind.u64.wrap (IntKind.i64.wrap ((↑i : Int) + (↑j : Int)))).fdiv ((2 : Int) ^ min (Int.toNat (1 : Int)) IntKind.u64.bits)) + (1 : Int)) ≤ (↑j : Int)) && (decide ((↑j : Int) ≤ (↑es.length : Int)) && decide (es.length ≤ (1000000 : Nat)))) then k (Ex.exit (0 : Nat)) [AV.slv (Sh.agg [Sh.str, (Sh.agg [Sh.int IntKind.i64, Sh.int IntKind.i64]).slice]) es, AV.str s, AV.fn (18 : Nat) [], AV.int IntKind.i64 z, AV.bool y, AV.int IntKind.i64 n, AV.int IntKind.i64 (↑(bs (ltN s es) (j - (IntKind.i64.wrap (IntKind.i64.wrap ((IntKind.u64.wrap (IntKind.i64.wrap ((↑i : Int) + (↑j : Int)))).fdiv ((2 : Int) ^ min (Int.toNat (1 : Int)) IntKind.u64.bits)) + (1 : Int))).toNat) (IntKind.i64.wrap (IntKind.i64.wrap ((IntKind.u64.wrap (IntKind.i64.wrap ((↑i : Int) + (↑j : Int)))).fdiv ((2 : Int) ^ min (Int.toNat (1 : Int)) IntKind.u64.bits)) + (1 : Int))).toNat j) : Int), AV.int IntKind.i64 (↑(bs (ltN s es) (j - (IntKind.i64.wrap (IntKind.i64.wrap ((IntKind.u64.wrap (IntKind.i64.wrap ((↑i : Int) + (↑j : Int)))).fdiv ((2 : Int) ^ min (Int.toNat (1 : Int)) IntKind.u64.bits)) + (1 : Int))).toNat) (IntKind.i64.wrap (IntKind.i64.wrap ((IntKind.u64.wrap (IntKind.i64.wrap ((↑i : Int) + (↑j : Int)))).fdiv ((2 : Int) ^ min (Int.toNat (1 : Int)) IntKind.u64.bits)) + (1 : Int))).toNat j) : Int)] [] else none else none else bif decide ((IntKind.i64.wrap ((IntKind.u64.wrap (IntKind.i64.wrap ((↑i : Int) + (↑j : Int)))).fdiv ((2 : Int) ^ min (Int.toNat (1 : Int)) IntKind.u64.bits)) - (↑i : Int)).toNat < ((↑j : Int) - (↑i : Int)).toNat) then bif decide ((0 : Int) ≤ (↑i : Int)) && (decide ((↑i : Int) ≤ IntKind.i64.wrap ((IntKind.u64.wrap (IntKind.i64.wrap ((↑i : Int) + (↑j : Int)))).fdiv ((2 : Int) ^ min (Int.toNat (1 : Int)) IntKind.u64.bits))) && (decide (IntKind.i64.wrap ((IntKind.u64.wrap (IntKind.i64.wrap ((↑i : Int) + (↑j : Int)))).fdiv ((2 : Int) ^ min (Int.toNat (1 : Int)) IntKind.u64.bits)) ≤ (↑es.length : Int)) && decide (es.length ≤ (1000000 : Nat)))) then k (Ex.exit (0 : Nat)) [AV.slv (Sh.agg [Sh.str, (Sh.agg [Sh.int IntKind.i64, Sh.int IntKind.i64]).slice]) es, AV.str s, AV.fn (18 : Nat) [], AV.int IntKind.i64 z, AV.bool y, AV.int IntKind.i64 n, AV.int IntKind.i64 (↑(bs (ltN s es) ((IntKind.i64.wrap ((IntKind.u64.wrap (IntKind.i64.wrap ((↑i : Int) + (↑j : Int)))).fdiv ((2 : Int) ^ min (Int.toNat (1 : Int)) IntKind.u64.bits))).toNat - i) i (IntKind.i64.wrap ((IntKind.u64.wrap (IntKind.i64.wrap ((↑i : Int) + (↑j : Int)))).fdiv ((2 : Int) ^ min (Int.toNat (1 : Int)) IntKind.u64.bits))).toNat) : Int), AV.int IntKind.i64 (↑(bs (ltN s es) ((IntKind.i64.wrap ((IntKind.u64.wrap (IntKind.i64.wrap ((↑i : Int) + (↑j : Int)))).fdiv ((2 : Int) ^ min (Int.toNat (1 : Int)) IntKind.u64.bits))).toNat - i) i (IntKind.i64.wrap ((IntKind.u64.wrap (IntKind.i64.wrap ((↑i : Int) + (↑j : Int)))).fdiv ((2 : Int) ^ min (Int.toNat (1 : Int)) IntKind.u64.bits))).toNat) : Int)] [] else none else none else none else k (Ex.exit (0 : Nat)) [AV.slv (Sh.agg [Sh.str, (Sh.agg [Sh.int IntKind.i64, Sh.int IntKind.i64]).slice]) es, AV.str s, AV.fn (18 : Nat) [], AV.int IntKind.i64 z, AV.bool y, AV.int IntKind.i64 n, AV.int IntKind.i64 (↑i : Int), AV.int IntKind.i64 (↑j : Int)] []) (by kernel_rfl) ?_
    rw [← hk]
    by_cases hlt : i < j
    · have hm := mid_eq i j (by omega)
      rw [bs_step _ i j hlt, hm]
      have hm1 : i ≤ (i + j) / 2 ∧ (i + j) / 2 < j := by omega
      generalize (i + j) / 2 = m at hm1
      have e1 : IntKind.i64.wrap ((m : Int) + 1) = ((m + 1 : Nat) : Int) := by rw [wrap_mid _ (by omega) (by omega)]; omega
      rw [e1]
      simp only [Int.toNat_natCast]
      refine Eq.trans (cond_t (by first | exact decide_eq_true (by omega) | exact inb_true (by omega) (by omega) | (simp only [Bool.and_eq_true, decide_eq_true_eq]; omega))) ?_
      refine Eq.trans (cond_t (by first | exact decide_eq_true (by omega) | exact inb_true (by omega) (by omega) | (simp only [Bool.and_eq_true, decide_eq_true_eq]; omega))) ?_
      show (bif ltN s es m then _ else _) = _
      cases ltN s es m
      · simp only [cond_false]
        refine Eq.trans (cond_t (by first | exact decide_eq_true (by omega) | exact inb_true (by omega) (by omega) | (simp only [Bool.and_eq_true, decide_eq_true_eq]; omega))) ?_
        refine Eq.trans (cond_t (by first | exact decide_eq_true (by omega) | exact inb_true (by omega) (by omega) | (simp only [Bool.and_eq_true, decide_eq_true_eq]; omega))) ?_
        rfl
      · simp only [cond_true]
        refine Eq.trans (cond_t (by first | exact decide_eq_true (by omega) | exact inb_true (by omega) (by omega) | (simp only [Bool.and_eq_true, decide_eq_true_eq]; omega))) ?_
        refine Eq.trans (cond_t (by first | exact decide_eq_true (by omega) | exact inb_true (by omega) (by omega) | (simp only [Bool.and_eq_true, decide_eq_true_eq]; omega))) ?_
        rfl
    · obtain rfl : i = j := by omega
      rw [decide_eq_false (by omega), show i - i = 0 from by omega]
      rfl
  · cases h
def atK (s : List UInt8) (es : List AV) : Nat := bs (ltN s es) es.length 0 es.length
def isK (s : List UInt8) (es : List AV) : Bool := decide (atK s es < es.length) && kN (es.getD (atK s es) .unk) == s
def F17 : List AV → Tr AV
  | [.slv (.agg [.str, .slice (.agg [.int .i64, .int .i64])]) es, .str s, .fn 18 []] => .gd (decide (es.length ≤ 1000000)) (.leaf (.tup [.int .i64 (atK s es : Nat), .bool (isK s es)]))
  | _ => .no
theorem ok17 : SumOK Try.prog 17 (ofT F17) ∧ SNat (ofT F17) := by
  refine fn1 (K := [(3, l17)]) (b := b17) (l := l17) g18 Try.func17 (by kernel_rfl) (by kernel_rfl) loop17 fun ρ avs k r h => ?_
  unfold F17 at h
  split at h
  · rename_i es s
    obtain ⟨hc, hk⟩ := gd_some h
    have hc' := of_decide_eq_true hc
    refine Eq.trans (b := bif decide ((0 : Int) ≤ (0 : Int)) && (decide ((0 : Int) ≤ (↑es.length : Int)) && (decide ((↑es.length : Int) ≤ (↑es.length : Int)) && decide (es.length ≤ (1000000 : Nat)))) then bif decide ((↑(bs (ltN s es) ((↑es.length : Int).toNat - Int.toNat (0 : Int)) (0 : Nat) (↑es.length : Int).toNat) : Int) < (↑es.length : Int)) then bif inb (↑(bs (ltN s es) ((↑es.length : Int).toNat - Int.toNat (0 : Int)) (0 : Nat) (↑es.length : Int).toNat) : Int) es.length then k (AV.tup [AV.int IntKind.i64 (↑(bs (ltN s es) ((↑es.length : Int).toNat - Int.toNat (0 : Int)) (0 : Nat) (↑es.length : Int).toNat) : Int), AV.bool (cmpS (kN (es.getD (↑(bs (ltN s es) ((↑es.length : Int).toNat - Int.toNat (0 : Int)) (0 : Nat) (↑es.length : Int).toNat) : Int).toNat AV.unk)) s == (0 : Int))]) else none else k (AV.tup [AV.int IntKind.i64 (↑(bs (ltN s es) ((↑es.length : Int).toNat - Int.toNat (0 : Int)) (0 : Nat) (↑es.length : Int).toNat) : Int), AV.bool false]) else none) (by kernel_rfl) ?_
    rw [← hk]
    refine Eq.trans (cond_t (by first | exact decide_eq_true (by omega) | exact inb_true (by omega) (by omega) | (simp only [Bool.and_eq_true, decide_eq_true_eq]; omega))) ?_
    have hle : atK s es ≤ es.length := (bs_le (ltN s es) es.length 0 es.length (Nat.zero_le _)).1
    show (fun m : Nat => (bif decide ((m : Int) < es.length) then (bif inb m es.length then k (.tup [.int .i64 m, .bool (cmpS (kN (es.getD m .unk)) s == 0)]) else none) else k (.tup [.int .i64 m, .bool false]))) (atK s es) = k (.tup [.int .i64 (atK s es : Nat), .bool (isK s es)])
    unfold isK
    generalize atK s es = m at hle
    dsimp only
    by_cases hlt : m < es.length
    · rw [decide_eq_true (by omega : (m : Int) < es.length), decide_eq_true hlt, inb_true (by omega) (by omega)]
      simp only [cond_true, Bool.true_and]
      rw [← cmpS_zero]
    · rw [decide_eq_false (by omega : ¬ (m : Int) < es.length), decide_eq_false hlt]
      rfl
  · cases h
/-! Clones -/
theorem byK : Try.prog.bytesOf 45 ≤ 1000 := of_decide_eq_true (by kernel_rfl)
theorem byU : Try.prog.bytesOf 36 ≤ 1000 := of_decide_eq_true (by kernel_rfl)
noncomputable def GF : Env := { pure := [], fork := true }
theorem gf : GOK Try.prog GF := GOK.flags g0
def F33 : List AV → List Row → Tr XOut
  | [.slv (.agg [.str, .slice (.agg [.int .i64, .int .i64])]) es], [] => .gd (decide (es.length ≤ 1000000)) (.leaf (.own RID, [], [.arr false sK 45 es none]))
  | _, _ => .no
theorem ok33 : XOK Try.prog 33 (ofX F33) ∧ XNat (ofX F33) := by
  refine ⟨xsum0 (H := [(2, 9999, 45)]) gf Try.func33 (by kernel_rfl) fun ρ avs rows k r h => ?_, xnat_ofX _⟩
  change (F33 avs rows).run _ = some r at h
  unfold F33 at h
  split at h
  · rename_i es
    obtain ⟨hc, hk⟩ := gd_some h
    have hc' := of_decide_eq_true hc
    refine ⟨by simp, fun rows' hsp => ?_⟩
    obtain rfl : rows' = [] := by cases rows' with | nil => rfl | cons a b => exact hsp.elim
    refine Eq.trans (b := bif es.isEmpty then both (k (AV.own (2251799813685248 : Nat)) [] [Row.arr false (Sh.agg [Sh.str, (Sh.agg [Sh.int IntKind.i64, Sh.int IntKind.i64]).slice]) (45 : Nat) [] none]) (bif roomB es.length (Try.prog.bytesOf (45 : Nat)) then k (AV.own (2251799813685248 : Nat)) [] [Row.arr false (Sh.agg [Sh.str, (Sh.agg [Sh.int IntKind.i64, Sh.int IntKind.i64]).slice]) (45 : Nat) es none] else none) else bif roomB es.length (Try.prog.bytesOf (45 : Nat)) then k (AV.own (2251799813685248 : Nat)) [] [Row.arr false (Sh.agg [Sh.str, (Sh.agg [Sh.int IntKind.i64, Sh.int IntKind.i64]).slice]) (45 : Nat) es none] else none) (by kernel_rfl) ?_
    rw [← hk, roomB_small (by omega) byK]
    cases es with
    | nil => exact both_self _
    | cons x l => rfl
  · cases h
def F34 : List AV → List Row → Tr XOut
  | [.slv (.agg [.int .i64, .int .i64]) es], [] => .gd (decide (es.length ≤ 1000000)) (.leaf (.own RID, [], [.arr false sU 36 es none]))
  | _, _ => .no
theorem ok34 : XOK Try.prog 34 (ofX F34) ∧ XNat (ofX F34) := by
  refine ⟨xsum0 (H := [(2, 9999, 36)]) gf Try.func34 (by kernel_rfl) fun ρ avs rows k r h => ?_, xnat_ofX _⟩
  change (F34 avs rows).run _ = some r at h
  unfold F34 at h
  split at h
  · rename_i es
    obtain ⟨hc, hk⟩ := gd_some h
    have hc' := of_decide_eq_true hc
    refine ⟨by simp, fun rows' hsp => ?_⟩
    obtain rfl : rows' = [] := by cases rows' with | nil => rfl | cons a b => exact hsp.elim
    refine Eq.trans (b := bif es.isEmpty then both (k (AV.own (2251799813685248 : Nat)) [] [Row.arr false (Sh.agg [Sh.int IntKind.i64, Sh.int IntKind.i64]) (36 : Nat) [] none]) (bif roomB es.length (Try.prog.bytesOf (36 : Nat)) then k (AV.own (2251799813685248 : Nat)) [] [Row.arr false (Sh.agg [Sh.int IntKind.i64, Sh.int IntKind.i64]) (36 : Nat) es none] else none) else bif roomB es.length (Try.prog.bytesOf (36 : Nat)) then k (AV.own (2251799813685248 : Nat)) [] [Row.arr false (Sh.agg [Sh.int IntKind.i64, Sh.int IntKind.i64]) (36 : Nat) es none] else none) (by kernel_rfl) ?_
    rw [← hk, roomB_small (by omega) byU]
    cases es with
    | nil => exact both_self _
    | cons x l => rfl
  · cases h
/-- The clone, one element of it held apart. -/
def F33f (f : Nat) : List AV → List Row → Tr XOut
  | [.slv (.agg [.str, .slice (.agg [.int .i64, .int .i64])]) es], [] => .gd (decide (es.length ≤ 1000000) && decide (f < es.length)) (.leaf (.own RID, [], [.foc false sK 45 (es.take f) (etaCells sK (es.getD f .unk)) (es.drop (f + 1))]))
  | _, _ => .no
theorem ok33f (f : Nat) : XOK Try.prog 33 (ofX (F33f f)) ∧ XNat (ofX (F33f f)) := XOK.focus ok33.1 fun avs rows => by
  unfold F33f
  split
  · rename_i es
    by_cases hf : f < es.length
    · refine .inr (.inr ⟨decide (es.length ≤ 1000000), _, .own RID, [], sK, 45, es.take f, es.getD f .unk, es.drop (f + 1), none, [], _, ?_, rfl, fun h => ?_, .inr rfl⟩)
      · show Tr.gd _ (Tr.leaf (AV.own RID, ([] : List (Option Row)), [Row.arr false sK 45 es none])) = _
        rw [← drop_getD hf, List.take_append_drop]
      · simp only [Bool.and_eq_true] at h
        exact h.1
    · exact .inr (.inl ⟨_, by rw [decide_eq_false hf, Bool.and_false]⟩)
  · exact .inl rfl
end Go.Proofs.Ythacpbjcgmbplaa

/-
  What a law is called with, taken apart by its shape; the frame of a law's statement.
-/
namespace Go.Ev
theorem has_int {k : IntKind} {v : AV} (h : has1 (.int k) v = true) : ∃ n, v = .int k n := by
  cases v <;> simp [has1] at h
  rename_i k' n
  exact ⟨n, by rw [h]⟩
theorem has_bool {v : AV} (h : has1 .bool v = true) : ∃ b, v = .bool b := by
  cases v <;> simp [has1] at h
  exact ⟨_, rfl⟩
theorem has_str {v : AV} (h : has1 .str v = true) : ∃ s, v = .str s := by
  cases v <;> simp [has1] at h
  exact ⟨_, rfl⟩
theorem has_slice {s : Sh} {v : AV} (h : has1 (.slice s) v = true) (hf : Fit v) : ∃ es, v = .slv s es ∧ small es.length = true ∧ (∀ e ∈ es, hasSh s e = true) ∧ ∀ e ∈ es, Fit e := by
  cases hf with
  | slv s' es hm hs hfe =>
    simp only [has1] at h
    have e := Sh.beq_eq _ _ h
    subst e
    exact ⟨es, rfl, decide_eq_true hm, hs, hfe⟩
  | _ => simp [has1] at h
theorem hass_cons {s : Sh} {l : List Sh} {cs : List AV} (h : hass (s :: l) cs = true) : ∃ c cs', cs = c :: cs' ∧ has1 s c = true ∧ hass l cs' = true := by
  cases cs with
  | nil => simp [hass] at h
  | cons c cs' => simp only [hass, Bool.and_eq_true] at h; exact ⟨c, cs', rfl, h.1, h.2⟩
theorem hass_nil {cs : List AV} (h : hass [] cs = true) : cs = [] := by
  cases cs with
  | nil => rfl
  | cons c cs' => simp [hass] at h
theorem has_agg {l : List Sh} {v : AV} (h : hasSh (.agg l) v = true) : ∃ cs, v = .agg cs ∧ hass l cs = true := by
  cases v <;> simp [hasSh] at h
  exact ⟨_, rfl, h⟩
theorem Fit.agg_inv {cs : List AV} (h : Fit (.agg cs)) : ∀ c ∈ cs, Fit c := by
  cases h with
  | agg _ h => exact h
theorem Fit.str_inv {s : List UInt8} (h : Fit (.str s)) : s.length ≤ 9223372036854775807 := by
  cases h with
  | str _ h => exact h
theorem Fit.int_inv {k : IntKind} {n : Int} (h : Fit (.int k n)) : (Lit.int k n).wf = true := by
  cases h with
  | int _ _ h => exact h
theorem hasAll_cons {s : Sh} {l : List Sh} {cs : List AV} (h : hasAll (s :: l) cs = true) : ∃ c cs', cs = c :: cs' ∧ hasSh s c = true ∧ hasAll l cs' = true := by
  cases cs with
  | nil => simp [hasAll] at h
  | cons c cs' => simp only [hasAll, Bool.and_eq_true] at h; exact ⟨c, cs', rfl, h.1, h.2⟩
theorem hasAll_nil {cs : List AV} (h : hasAll [] cs = true) : cs = [] := by
  cases cs with
  | nil => rfl
  | cons c cs' => simp [hasAll] at h
end Go.Ev
namespace Go.Proofs.Ythacpbjcgmbplaa
open Go.Ev

def bk (H : Type) : BK H := ⟨Rows.uptoBulk, Rows.uptoBulkAll, fun _ => rfl, fun l => by cases l <;> simp [Rows.uptoBulk], Nat.le_refl _, fun _ => rfl, fun _ _ => rfl, rfl, fun _ _ => rfl⟩
theorem own : ownKnob Try.prog.godebug = none := by kernel_rfl

end Go.Proofs.Ythacpbjcgmbplaa

namespace Go.Proofs.Ythacpbjcgmbplaa
open Go.Ev

def uE (e : AV) : AV := .agg [.int .i64 (uA e), .int .i64 (uN e)]
theorem canU {e : AV} (h : hasSh sU e = true) : uE e = e := by
  obtain ⟨cs, rfl, h1⟩ := has_agg h
  obtain ⟨c1, cs, rfl, a1, h1⟩ := hass_cons h1
  obtain ⟨c2, cs, rfl, a2, h1⟩ := hass_cons h1
  obtain rfl := hass_nil h1
  obtain ⟨x1, rfl⟩ := has_int a1
  obtain ⟨x2, rfl⟩ := has_int a2
  rfl
def oldU (now w : Int) (e : AV) : Bool := decide (IntKind.i64.wrap (now - uA e) ≥ w)
def oldN (now w : Int) (es : List AV) (i : Nat) : Bool := oldU now w (es.getD i .unk)
noncomputable def G24 : Env := { pure := [(24, evF Try.prog G0 [] Try.f24)] }
theorem g24 : GOK Try.prog G24 := GOK.also g0 (inl g0 Try.func24 (by kernel_rfl))
noncomputable def b37 : Code := ((Try.f37.body.map loopsOf).getD []).headD .skip
def L37 : List AV → List (Option Row) → Tr LOut
  | [.slv (.agg [.int .i64, .int .i64]) es, .fn 24 [.ref [.int .i64 now], .ref [.int .i64 w, .int .i64 m, .slv s0 ks]], .int .i64 z, .int .i64 n, .int .i64 i], [] =>
    .gd (cnt n i es.length) (sT (oldN now w es) es.length (fun q => .leaf (.ret, [.slv sU es, .fn 24 [.ref [.int .i64 now], .ref [.int .i64 w, .int .i64 m, .slv s0 ks]], .int .i64 (q : Nat), .int .i64 n, .int .i64 (q : Nat)], [])) (.leaf (.exit 0, [.slv sU es, .fn 24 [.ref [.int .i64 now], .ref [.int .i64 w, .int .i64 m, .slv s0 ks]], .int .i64 z, .int .i64 n, .int .i64 es.length], [])) i.toNat)
  | _, _ => .no
def l37 : Ev.Loop := ⟨{ len := 19, slots := [0, 1, 4, 7, 8] }, ofL L37⟩
def μ37 (vs : List AV) (_ : List (Option Row)) : Nat := match vs with
  | [_, _, _, .int _ n, .int _ i] => (n - i).toNat
  | _ => 0
theorem loop37 : LoopOK Try.prog G24 [(2, l37)] b37 l37 := by
  refine loopT g24.natOK rfl (KOK.nil (by kernel_rfl)) μ37 (fun ρ vs rs k r h => ?_)
  unfold L37 at h
  split at h
  · rename_i es now w m s0 ks z n i
    obtain ⟨hc, hk⟩ := gd_some h
    obtain ⟨rfl, hs, j, rfl, hj⟩ := cnt_spec hc
    rw [Int.toNat_natCast] at hk
    refine Eq.trans (b := bif decide ((↑j : Int) < (↑es.length : Int)) then bif inb (↑j : Int) es.length then bif decide (IntKind.i64.wrap (now - (uA (es.getD j AV.unk))) ≥ w) then k Ex.ret [AV.slv (Sh.agg [Sh.int IntKind.i64, Sh.int IntKind.i64]) es, AV.fn (24 : Nat) [AV.ref [AV.int IntKind.i64 now], AV.ref [AV.int IntKind.i64 w, AV.int IntKind.i64 m, AV.slv s0 ks]], AV.int IntKind.i64 (↑j : Int), AV.int IntKind.i64 (↑es.length : Int), AV.int IntKind.i64 (↑j : Int)] [] else bif decide (((↑es.length : Int) - IntKind.i64.wrap ((↑j : Int) + (1 : Int))).toNat < ((↑es.length : Int) - (↑j : Int)).toNat) then bif cnt (↑es.length : Int) (IntKind.i64.wrap ((↑j : Int) + (1 : Int))) es.length then bif (findN (oldN now w es) es.length (IntKind.i64.wrap ((↑j : Int) + (1 : Int))).toNat).isSome then k Ex.ret [AV.slv (Sh.agg [Sh.int IntKind.i64, Sh.int IntKind.i64]) es, AV.fn (24 : Nat) [AV.ref [AV.int IntKind.i64 now], AV.ref [AV.int IntKind.i64 w, AV.int IntKind.i64 m, AV.slv s0 ks]], AV.int IntKind.i64 (↑((findN (oldN now w es) es.length (IntKind.i64.wrap ((↑j : Int) + (1 : Int))).toNat).getD (0 : Nat)) : Int), AV.int IntKind.i64 (↑es.length : Int), AV.int IntKind.i64 (↑((findN (oldN now w es) es.length (IntKind.i64.wrap ((↑j : Int) + (1 : Int))).toNat).getD (0 : Nat)) : Int)] [] else k (Ex.exit (0 : Nat)) [AV.slv (Sh.agg [Sh.int IntKind.i64, Sh.int IntKind.i64]) es, AV.fn (24 : Nat) [AV.ref [AV.int IntKind.i64 now], AV.ref [AV.int IntKind.i64 w, AV.int IntKind.i64 m, AV.slv s0 ks]], AV.int IntKind.i64 z, AV.int IntKind.i64 (↑es.length : Int), AV.int IntKind.i64 (↑es.length : Int)] [] else none else none else none else k (Ex.exit (0 : Nat)) [AV.slv (Sh.agg [Sh.int IntKind.i64, Sh.int IntKind.i64]) es, AV.fn (24 : Nat) [AV.ref [AV.int IntKind.i64 now], AV.ref [AV.int IntKind.i64 w, AV.int IntKind.i64 m, AV.slv s0 ks]], AV.int IntKind.i64 z, AV.int IntKind.i64 (↑es.length : Int), AV.int IntKind.i64 (↑j : Int)] []) (by kernel_rfl) ?_
    rw [← hk]
    by_cases hlt : j < es.length
    · obtain ⟨e1, e2, e3, e4, e5⟩ := cnt_facts hlt hs
      rw [sT_step _ _ _ _ _ hlt]
      simp only [e1, e2, e3, e4, e5, cond_true, Int.toNat_natCast]
      rfl
    · obtain rfl : j = es.length := by omega
      rw [decide_eq_false (by omega), sT_end]
      rfl
  · cases h
def F37 : List AV → Tr AV
  | [.slv (.agg [.int .i64, .int .i64]) es, .fn 24 [.ref [.int .i64 now], .ref [.int .i64 w, .int .i64 _, .slv _ _]]] => .gd (small es.length) (.leaf (.int .i64 (idxZ (findN (oldN now w es) es.length 0))))
  | _ => .no
theorem idxZ_br {α : Type} (o : Option Nat) (k : AV → α) : (bif o.isSome then k (.int .i64 ((o.getD 0 : Nat) : Int)) else k (.int .i64 (-1))) = k (.int .i64 (idxZ o)) := by cases o <;> rfl
theorem ok37 : SumOK Try.prog 37 (ofT F37) ∧ SNat (ofT F37) := by
  refine fn1 (K := [(2, l37)]) (b := b37) (l := l37) g24 Try.func37 (by kernel_rfl) (by kernel_rfl) loop37 fun ρ avs k r h => ?_
  unfold F37 at h
  split at h
  · rename_i es now w m s0 ks
    obtain ⟨hc, hk⟩ := gd_some h
    refine Eq.trans (b := bif cnt (↑es.length : Int) (0 : Int) es.length then bif (findN (oldN now w es) es.length (0 : Nat)).isSome then k (AV.int IntKind.i64 (↑((findN (oldN now w es) es.length (0 : Nat)).getD (0 : Nat)) : Int)) else k (AV.int IntKind.i64 (-1 : Int)) else none) (by kernel_rfl) ?_
    rw [← hk, cnt_zero hc]
    exact idxZ_br _ k
  · cases h
/-! DeleteFunc -/
noncomputable def G23 : Env := { pure := (37, ofT F37) :: G24.pure }
theorem g23 : GOK Try.prog G23 := GOK.also g24 ok37
noncomputable def b23 : Code := ((Try.f23.body.map loopsOf).getD []).headD .skip
def L23 : List AV → List (Option Row) → Tr LOut
  | [.own p, .fn 24 [.ptr q1 0, .ptr q2 0], .int .i64 i, .int .i64 j], [some (.arr false (.agg [.int .i64, .int .i64]) e es sp), some (.box false [.int .i64 now]), some (.box false [.int .i64 w, .int .i64 m, .own q3]), some (.foc false (.agg [.str, .slice (.agg [.int .i64, .int .i64])]) e2 pre [.str nm, .own q4] post)] =>
    .gd (Nat.beq p PID && (Nat.beq q1 (PID + 1) && (Nat.beq q2 (PID + 2) && (Nat.beq q3 (PID + 3) && (Nat.beq q4 PID && decide (0 ≤ i ∧ i < j ∧ j ≤ es.length ∧ es.length ≤ 1000000))))))
      (.leaf (.exit 0, [.own PID, .fn 24 [.ptr (PID + 1) 0, .ptr (PID + 2) 0], .int .i64 (delN (oldU now w) uE (es.length - j.toNat) es i.toNat j.toNat).2, .int .i64 es.length], [some (.arr false sU e (delN (oldU now w) uE (es.length - j.toNat) es i.toNat j.toNat).1 sp), some (.box false [.int .i64 now]), some (.box false [.int .i64 w, .int .i64 m, .own (PID + 3)]), some (.foc false sK e2 pre [.str nm, .own PID] post)]))
  | _, _ => .no
def l23 : Ev.Loop := ⟨{ len := 42, slots := [0, 1, 5, 6], rows := [PID, PID + 1, PID + 2, PID + 3] }, ofL L23⟩
def μ23 (vs : List AV) (rs : List (Option Row)) : Nat := match vs, rs with
  | [_, _, _, .int _ j], some (.arr _ _ _ es _) :: _ => ((es.length : Int) - j).toNat
  | _, _ => 0
theorem loop23 : LoopOK Try.prog G23 [(5, l23)] b23 l23 := by
  refine loopT g23.natOK rfl (KOK.nil (by kernel_rfl)) μ23 (fun ρ vs rs k r h => ?_)
  unfold L23 at h
  split at h
  · rename_i p q1 q2 i' j' e es sp now w m q3 e2 pre nm q4 post
    obtain ⟨hc, hk⟩ := gd_some h
    simp only [Bool.and_eq_true] at hc
    obtain ⟨c1, c2, d1, d2, d3, c3⟩ := hc
    obtain ⟨c3, c4, c5, c6⟩ := of_decide_eq_true c3
    obtain rfl := Nat.eq_of_beq_eq_true c1
    obtain rfl := Nat.eq_of_beq_eq_true c2
    obtain rfl := Nat.eq_of_beq_eq_true d1
    obtain rfl := Nat.eq_of_beq_eq_true d2
    obtain rfl := Nat.eq_of_beq_eq_true d3
    obtain ⟨i, rfl⟩ : ∃ i : Nat, i' = i := ⟨i'.toNat, by omega⟩
    obtain ⟨j, rfl⟩ : ∃ j : Nat, j' = j := ⟨j'.toNat, by omega⟩
    simp only [Int.toNat_natCast] at hk
    refine Eq.trans (b := bif decide ((↑j : Int) < (↑es.length : Int)) then bif inb (↑j : Int) es.length then bif decide (j < es.length) then bif !decide (IntKind.i64.wrap (now - (uA (es.getD j AV.unk))) ≥ w) then bif inb (↑i : Int) es.length then bif decide (i < es.length) then bif decide (((↑(es.set i (mkAV (Sh.agg [Sh.int IntKind.i64, Sh.int IntKind.i64]) [AV.int IntKind.i64 (uA (es.getD j AV.unk)), AV.int IntKind.i64 ((es.getD j AV.unk).cells.tail.headD AV.unk).toInt])).length : Int) - IntKind.i64.wrap ((↑j : Int) + (1 : Int))).toNat < ((↑es.length : Int) - (↑j : Int)).toNat) then bif PID.beq PID && ((PID + (1 : Nat)).beq (PID + (1 : Nat)) && ((PID + (2 : Nat)).beq (PID + (2 : Nat)) && ((PID + (3 : Nat)).beq (PID + (3 : Nat)) && (PID.beq PID && decide ((0 : Int) ≤ IntKind.i64.wrap ((↑i : Int) + (1 : Int)) ∧ IntKind.i64.wrap ((↑i : Int) + (1 : Int)) < IntKind.i64.wrap ((↑j : Int) + (1 : Int)) ∧ IntKind.i64.wrap ((↑j : Int) + (1 : Int)) ≤ (↑(es.set i (mkAV (Sh.agg [Sh.int IntKind.i64, Sh.int IntKind.i64]) [AV.int IntKind.i64 (uA (es.getD j AV.unk)), AV.int IntKind.i64 ((es.getD j AV.unk).cells.tail.headD AV.unk).toInt])).length : Int) ∧ (es.set i (mkAV (Sh.agg [Sh.int IntKind.i64, Sh.int IntKind.i64]) [AV.int IntKind.i64 (uA (es.getD j AV.unk)), AV.int IntKind.i64 ((es.getD j AV.unk).cells.tail.headD AV.unk).toInt])).length ≤ (1000000 : Nat)))))) then k (Ex.exit (0 : Nat)) [AV.own (1125899906842624 : Nat), AV.fn (24 : Nat) [AV.ptr (1125899906842625 : Nat) (0 : Nat), AV.ptr (1125899906842626 : Nat) (0 : Nat)], AV.int IntKind.i64 (↑(delN (oldU now w) uE ((es.set i (mkAV (Sh.agg [Sh.int IntKind.i64, Sh.int IntKind.i64]) [AV.int IntKind.i64 (uA (es.getD j AV.unk)), AV.int IntKind.i64 ((es.getD j AV.unk).cells.tail.headD AV.unk).toInt])).length - (IntKind.i64.wrap ((↑j : Int) + (1 : Int))).toNat) (es.set i (mkAV (Sh.agg [Sh.int IntKind.i64, Sh.int IntKind.i64]) [AV.int IntKind.i64 (uA (es.getD j AV.unk)), AV.int IntKind.i64 ((es.getD j AV.unk).cells.tail.headD AV.unk).toInt])) (IntKind.i64.wrap ((↑i : Int) + (1 : Int))).toNat (IntKind.i64.wrap ((↑j : Int) + (1 : Int))).toNat).snd : Int), AV.int IntKind.i64 (↑(es.set i (mkAV (Sh.agg [Sh.int IntKind.i64, Sh.int IntKind.i64]) [AV.int IntKind.i64 (uA (es.getD j AV.unk)), AV.int IntKind.i64 ((es.getD j AV.unk).cells.tail.headD AV.unk).toInt])).length : Int)] [some (Row.arr false (Sh.agg [Sh.int IntKind.i64, Sh.int IntKind.i64]) e (delN (oldU now w) uE ((es.set i (mkAV (Sh.agg [Sh.int IntKind.i64, Sh.int IntKind.i64]) [AV.int IntKind.i64 (uA (es.getD j AV.unk)), AV.int IntKind.i64 ((es.getD j AV.unk).cells.tail.headD AV.unk).toInt])).length - (IntKind.i64.wrap ((↑j : Int) + (1 : Int))).toNat) (es.set i (mkAV (Sh.agg [Sh.int IntKind.i64, Sh.int IntKind.i64]) [AV.int IntKind.i64 (uA (es.getD j AV.unk)), AV.int IntKind.i64 ((es.getD j AV.unk).cells.tail.headD AV.unk).toInt])) (IntKind.i64.wrap ((↑i : Int) + (1 : Int))).toNat (IntKind.i64.wrap ((↑j : Int) + (1 : Int))).toNat).fst sp), some (Row.box false [AV.int IntKind.i64 now]), some (Row.box false [AV.int IntKind.i64 w, AV.int IntKind.i64 m, AV.own (1125899906842627 : Nat)]), some (Row.foc false (Sh.agg [Sh.str, (Sh.agg [Sh.int IntKind.i64, Sh.int IntKind.i64]).slice]) e2 pre [AV.str nm, AV.own (1125899906842624 : Nat)] post)] else none else none else none else none else bif decide (((↑es.length : Int) - IntKind.i64.wrap ((↑j : Int) + (1 : Int))).toNat < ((↑es.length : Int) - (↑j : Int)).toNat) then bif PID.beq PID && ((PID + (1 : Nat)).beq (PID + (1 : Nat)) && ((PID + (2 : Nat)).beq (PID + (2 : Nat)) && ((PID + (3 : Nat)).beq (PID + (3 : Nat)) && (PID.beq PID && decide ((0 : Int) ≤ (↑i : Int) ∧ (↑i : Int) < IntKind.i64.wrap ((↑j : Int) + (1 : Int)) ∧ IntKind.i64.wrap ((↑j : Int) + (1 : Int)) ≤ (↑es.length : Int) ∧ es.length ≤ (1000000 : Nat)))))) then k (Ex.exit (0 : Nat)) [AV.own (1125899906842624 : Nat), AV.fn (24 : Nat) [AV.ptr (1125899906842625 : Nat) (0 : Nat), AV.ptr (1125899906842626 : Nat) (0 : Nat)], AV.int IntKind.i64 (↑(delN (oldU now w) uE (es.length - (IntKind.i64.wrap ((↑j : Int) + (1 : Int))).toNat) es i (IntKind.i64.wrap ((↑j : Int) + (1 : Int))).toNat).snd : Int), AV.int IntKind.i64 (↑es.length : Int)] [some (Row.arr false (Sh.agg [Sh.int IntKind.i64, Sh.int IntKind.i64]) e (delN (oldU now w) uE (es.length - (IntKind.i64.wrap ((↑j : Int) + (1 : Int))).toNat) es i (IntKind.i64.wrap ((↑j : Int) + (1 : Int))).toNat).fst sp), some (Row.box false [AV.int IntKind.i64 now]), some (Row.box false [AV.int IntKind.i64 w, AV.int IntKind.i64 m, AV.own (1125899906842627 : Nat)]), some (Row.foc false (Sh.agg [Sh.str, (Sh.agg [Sh.int IntKind.i64, Sh.int IntKind.i64]).slice]) e2 pre [AV.str nm, AV.own (1125899906842624 : Nat)] post)] else none else none else none else none else k (Ex.exit (0 : Nat)) [AV.own (1125899906842624 : Nat), AV.fn (24 : Nat) [AV.ptr (1125899906842625 : Nat) (0 : Nat), AV.ptr (1125899906842626 : Nat) (0 : Nat)], AV.int IntKind.i64 (↑i : Int), AV.int IntKind.i64 (↑j : Int)] [some (Row.arr false (Sh.agg [Sh.int IntKind.i64, Sh.int IntKind.i64]) e es sp), some (Row.box false [AV.int IntKind.i64 now]), some (Row.box false [AV.int IntKind.i64 w, AV.int IntKind.i64 m, AV.own (1125899906842627 : Nat)]), some (Row.foc false (Sh.agg [Sh.str, (Sh.agg [Sh.int IntKind.i64, Sh.int IntKind.i64]).slice]) e2 pre [AV.str nm, AV.own (1125899906842624 : Nat)] post)]) (by kernel_rfl) ?_
    rw [← hk]
    by_cases hlt : j < es.length
    · have w1 : IntKind.i64.wrap ((j : Int) + 1) = ((j + 1 : Nat) : Int) := by rw [wrap_mid _ (by omega) (by omega)]; omega
      have w2 : IntKind.i64.wrap ((i : Int) + 1) = ((i + 1 : Nat) : Int) := by rw [wrap_mid _ (by omega) (by omega)]; omega
      have hd := delN_succ (oldU now w) uE (es.length - (j + 1)) es i j
      rw [show es.length - (j + 1) + 1 = es.length - j from by omega] at hd
      rw [decide_eq_true (by omega : (j : Int) < es.length), inb_true (by omega) (by omega), decide_eq_true hlt, inb_true (by omega : (0 : Int) ≤ i) (by omega : (i : Int) < es.length), decide_eq_true (by omega : i < es.length), w1, w2, hd]
      simp only [cond_true, Int.toNat_natCast, List.length_set]
      show (bif !oldU now w (es.getD j .unk) then _ else _) = _
      cases oldU now w (es.getD j .unk)
      · simp only [cond_true, cond_false, Bool.not_false]
        refine Eq.trans (cond_t (decide_eq_true (by omega))) (Eq.trans (cond_t (and_t (Nat.beq_refl _) (and_t (Nat.beq_refl _) (and_t (Nat.beq_refl _) (and_t (Nat.beq_refl _) (and_t (Nat.beq_refl _) (decide_eq_true (by omega)))))))) ?_)
        rfl
      · simp only [cond_true, cond_false, Bool.not_true]
        refine Eq.trans (cond_t (decide_eq_true (by omega))) (Eq.trans (cond_t (and_t (Nat.beq_refl _) (and_t (Nat.beq_refl _) (and_t (Nat.beq_refl _) (and_t (Nat.beq_refl _) (and_t (Nat.beq_refl _) (decide_eq_true (by omega)))))))) ?_)
        rfl
    · obtain rfl : j = es.length := by omega
      rw [decide_eq_false (by omega), show es.length - es.length = 0 from by omega]
      rfl
  · cases h
def F23 : List AV → List Row → Tr XOut
  | [.own p, .fn 24 [.ptr q1 0, .ptr q2 0]], [.arr false (.agg [.int .i64, .int .i64]) 36 es _, .box false [.int .i64 now], .box false [.int .i64 w, .int .i64 m, .own q3], .foc false (.agg [.str, .slice (.agg [.int .i64, .int .i64])]) e2 pre [.str nm, .own q4] post] =>
    .gd (Nat.beq p PID && (Nat.beq q1 (PID + 1) && (Nat.beq q2 (PID + 2) && (Nat.beq q3 (PID + 3) && (Nat.beq q4 PID && (decide (es.length ≤ 1000000) && es.all (hasSh sU)))))))
      (.leaf (.own RID, [none, some (.box false [.int .i64 now]), some (.box false [.int .i64 w, .int .i64 m, .own (PID + 3)]), some (.foc false sK e2 pre [.str nm, .own PID] post)], [.arr false sU 36 (es.filter fun x => !oldU now w x) none]))
  | [.slz (.agg [.int .i64, .int .i64]), .fn 24 [.ptr q1 0, .ptr q2 0]], [.box false [.int .i64 now], .box false [.int .i64 w, .int .i64 m, .own q3], .foc false (.agg [.str, .slice (.agg [.int .i64, .int .i64])]) e2 pre [.str nm, .slz (.agg [.int .i64, .int .i64])] post] =>
    .gd (Nat.beq q1 PID && (Nat.beq q2 (PID + 1) && Nat.beq q3 (PID + 2)))
      (.leaf (.own RID, [some (.box false [.int .i64 now]), some (.box false [.int .i64 w, .int .i64 m, .own (PID + 2)]), some (.foc false sK e2 pre [.str nm, .slz sU] post)], [.arr false sU 36 [] none]))
  | _, _ => .no
theorem ok23 : XOK Try.prog 23 (ofX F23) ∧ XNat (ofX F23) := by
  refine ⟨xsum1 (K := [(5, l23)]) (H := [(4, 9999, 36)]) (b := b23) (l := l23) g23 Try.func23 (by kernel_rfl) (by kernel_rfl) loop23 fun ρ avs rows k r h => ?_, xnat_ofX _⟩
  change (F23 avs rows).run _ = some r at h
  unfold F23 at h
  split at h
  · rename_i p q1 q2 es csp now w m q3 e2 pre nm q4 post
    obtain ⟨hc, hk⟩ := gd_some h
    simp only [Bool.and_eq_true] at hc
    obtain ⟨c1, c2, d1, d2, d3, c3, c4⟩ := hc
    have c3 := of_decide_eq_true c3
    have hca : ∀ x ∈ es, uE x = x := fun x hx => canU (List.all_eq_true.1 c4 x hx)
    obtain rfl := Nat.eq_of_beq_eq_true c1
    obtain rfl := Nat.eq_of_beq_eq_true c2
    obtain rfl := Nat.eq_of_beq_eq_true d1
    obtain rfl := Nat.eq_of_beq_eq_true d2
    obtain rfl := Nat.eq_of_beq_eq_true d3
    refine ⟨by simp, fun rows' hsp => ?_⟩
    obtain ⟨sp, rfl⟩ : ∃ sp, rows' = [.arr false sU 36 es (some sp), .box false [.int .i64 now], .box false [.int .i64 w, .int .i64 m, .own (PID + 3)], .foc false sK e2 pre [.str nm, .own PID] post] := by
      match rows', hsp with
      | [r1, r2, r3, r4], ⟨⟨sp, h1, _⟩, h2, h3, h4, _⟩ => exact ⟨sp, by rw [h1, h2, h3, h4]⟩
    refine Eq.trans (b := delTree (oldU now w) uE (zeroE Try.prog 36) es (findN (oldN now w es) es.length 0) (fun i j => Nat.beq PID PID && (Nat.beq (PID + 1) (PID + 1) && (Nat.beq (PID + 2) (PID + 2) && (Nat.beq (PID + 3) (PID + 3) && (Nat.beq PID PID && decide (0 ≤ i ∧ i < j ∧ j ≤ es.length ∧ es.length ≤ 1000000)))))) fun l => k (.own RID) [none, some (.box false [.int .i64 now]), some (.box false [.int .i64 w, .int .i64 m, .own (PID + 3)]), some (.foc false sK e2 pre [.str nm, .own PID] post)] [.arr false sU 36 l none]) (by kernel_rfl) ?_
    refine Eq.trans (delTree_eq rfl c3 hca fun i hi => and_t (Nat.beq_refl _) (and_t (Nat.beq_refl _) (and_t (Nat.beq_refl _) (and_t (Nat.beq_refl _) (and_t (Nat.beq_refl _) (decide_eq_true (by omega))))))) ?_
    exact hk
  · rename_i q1 q2 now w m q3 e2 pre nm post
    obtain ⟨hc, hk⟩ := gd_some h
    simp only [Bool.and_eq_true] at hc
    obtain ⟨c1, c2, d1⟩ := hc
    obtain rfl := Nat.eq_of_beq_eq_true c1
    obtain rfl := Nat.eq_of_beq_eq_true c2
    obtain rfl := Nat.eq_of_beq_eq_true d1
    refine ⟨by simp, fun rows' hsp => ?_⟩
    obtain rfl : rows' = [.box false [.int .i64 now], .box false [.int .i64 w, .int .i64 m, .own (PID + 2)], .foc false sK e2 pre [.str nm, .slz sU] post] := by
      match rows', hsp with
      | [r2, r3, r4], ⟨h2, h3, h4, _⟩ => rw [h2, h3, h4]
    refine Eq.trans (b := k (AV.own (2251799813685248 : Nat)) [some (Row.box false [AV.int IntKind.i64 now]), some (Row.box false [AV.int IntKind.i64 w, AV.int IntKind.i64 m, AV.own (1125899906842626 : Nat)]), some (Row.foc false (Sh.agg [Sh.str, (Sh.agg [Sh.int IntKind.i64, Sh.int IntKind.i64]).slice]) e2 pre [AV.str nm, AV.slz (Sh.agg [Sh.int IntKind.i64, Sh.int IntKind.i64])] post)] [Row.arr false (Sh.agg [Sh.int IntKind.i64, Sh.int IntKind.i64]) (36 : Nat) [] none]) (by kernel_rfl) ?_
    exact hk
  · cases h
end Go.Proofs.Ythacpbjcgmbplaa
