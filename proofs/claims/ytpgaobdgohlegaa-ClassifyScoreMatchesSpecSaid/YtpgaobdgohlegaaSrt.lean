/-
  Lists in order: an element put in its place, what is found, equality by what is found.
-/
import Derived.Test.YtpgaobdgohlegaaFind
namespace Go.Ev

/-- A strict order of keys. -/
structure SO {K : Type} (lt : K → K → Bool) : Prop where
  irr : ∀ a, lt a a = false
  trans : ∀ {a b c}, lt a b = true → lt b c = true → lt a c = true
  tot : ∀ {a b}, lt a b = false → lt b a = false → a = b
theorem SO.asymm {K : Type} {lt : K → K → Bool} (O : SO lt) {a b : K} (h : lt a b = true) : lt b a = false := by
  cases h' : lt b a
  · rfl
  · have := O.trans h h'; rw [O.irr] at this; cases this
theorem SO.ne {K : Type} {lt : K → K → Bool} (O : SO lt) {a b : K} (h : lt a b = true) : a ≠ b := by
  rintro rfl; rw [O.irr] at h; cases h
theorem SO.ge {K : Type} {lt : K → K → Bool} (O : SO lt) {a b : K} (h : lt a b = false) (hn : a ≠ b) : lt b a = true := by
  cases h' : lt b a
  · exact absurd (O.tot h h') hn
  · rfl
variable {α K : Type}
def Srt (nm : α → K) (lt : K → K → Bool) (es : List α) : Prop := es.Pairwise fun a b => lt (nm a) (nm b) = true
/-- An element takes its place; one of the same key goes. -/
def ins (nm : α → K) (lt : K → K → Bool) (es : List α) (x : α) : List α := es.filter (fun e => lt (nm e) (nm x)) ++ x :: es.filter (fun e => lt (nm x) (nm e))
def lk [DecidableEq K] (nm : α → K) (s : K) (es : List α) : Option α := es.find? fun e => decide (nm e = s)

theorem split_filter {p : α → Bool} {es : List α} {n : Nat} (hn : n ≤ es.length) (h1 : ∀ i (h : i < es.length), i < n → p es[i] = true) (h2 : ∀ i (h : i < es.length), n ≤ i → p es[i] = false) : es.take n = es.filter p ∧ es.drop n = es.filter (fun e => !p e) := by
  have a1 : (es.take n).filter p = es.take n := List.filter_eq_self.2 fun x hx => by
    obtain ⟨i, hi, rfl⟩ := List.getElem_of_mem hx
    rw [List.length_take] at hi
    rw [List.getElem_take]
    exact h1 i (by omega) (by omega)
  have a2 : (es.drop n).filter p = [] := List.filter_eq_nil_iff.2 fun x hx => by
    obtain ⟨i, hi, rfl⟩ := List.getElem_of_mem hx
    rw [List.length_drop] at hi
    rw [List.getElem_drop, h2 _ (by omega) (by omega)]
    exact Bool.false_ne_true
  have a3 : (es.take n).filter (fun e => !p e) = [] := List.filter_eq_nil_iff.2 fun x hx => by
    obtain ⟨i, hi, rfl⟩ := List.getElem_of_mem hx
    rw [List.length_take] at hi
    rw [List.getElem_take, h1 i (by omega) (by omega)]
    exact Bool.false_ne_true
  have a4 : (es.drop n).filter (fun e => !p e) = es.drop n := List.filter_eq_self.2 fun x hx => by
    obtain ⟨i, hi, rfl⟩ := List.getElem_of_mem hx
    rw [List.length_drop] at hi
    rw [List.getElem_drop, h2 _ (by omega) (by omega)]
    rfl
  have e : es = es.take n ++ es.drop n := (List.take_append_drop n es).symm
  constructor
  · conv => rhs; rw [e, List.filter_append, a1, a2, List.append_nil]
  · conv => rhs; rw [e, List.filter_append, a3, a4, List.nil_append]
theorem srt_get {nm : α → K} {lt : K → K → Bool} {es : List α} (h : Srt nm lt es) {i j : Nat} (hi : i < es.length) (hj : j < es.length) (hij : i < j) : lt (nm es[i]) (nm es[j]) = true := List.pairwise_iff_getElem.1 h i j hi hj hij
theorem srt_of_get {nm : α → K} {lt : K → K → Bool} {es : List α} (h : ∀ i j (hi : i < es.length) (hj : j < es.length), i < j → lt (nm es[i]) (nm es[j]) = true) : Srt nm lt es := List.pairwise_iff_getElem.2 h
/-- The order of neighbours is enough. -/
theorem srt_of_step {nm : α → K} {lt : K → K → Bool} (O : SO lt) {es : List α} (h : ∀ i (hi : i + 1 < es.length), lt (nm es[i]) (nm es[i + 1]) = true) : Srt nm lt es := by
  refine srt_of_get fun i j hi hj hij => ?_
  obtain ⟨d, rfl⟩ : ∃ d, j = i + 1 + d := ⟨j - (i + 1), by omega⟩
  clear hij
  induction d with
  | zero => exact h i hj
  | succ d ih => exact O.trans (ih (by omega)) (h (i + 1 + d) hj)
theorem ins_mem {nm : α → K} {lt : K → K → Bool} (O : SO lt) {es : List α} {x y : α} : y ∈ ins nm lt es x ↔ y = x ∨ (y ∈ es ∧ nm y ≠ nm x) := by
  unfold ins
  simp only [List.mem_append, List.mem_filter, List.mem_cons]
  constructor
  · rintro (⟨h1, h2⟩ | rfl | ⟨h1, h2⟩)
    · exact .inr ⟨h1, O.ne h2⟩
    · exact .inl rfl
    · exact .inr ⟨h1, fun e => O.ne h2 e.symm⟩
  · rintro (rfl | ⟨h1, h2⟩)
    · exact .inr (.inl rfl)
    · cases h3 : lt (nm y) (nm x)
      · exact .inr (.inr ⟨h1, O.ge h3 h2⟩)
      · exact .inl ⟨h1, rfl⟩
theorem ins_srt {nm : α → K} {lt : K → K → Bool} (O : SO lt) {es : List α} {x : α} (h : Srt nm lt es) : Srt nm lt (ins nm lt es x) := by
  unfold ins Srt
  rw [List.pairwise_append, List.pairwise_cons]
  refine ⟨h.sublist List.filter_sublist, ⟨fun y hy => (List.mem_filter.1 hy).2, h.sublist List.filter_sublist⟩, fun a ha b hb => ?_⟩
  have h1 := (List.mem_filter.1 ha).2
  rcases List.mem_cons.1 hb with rfl | hb
  · exact h1
  · exact O.trans h1 (List.mem_filter.1 hb).2
theorem srt_ext {nm : α → K} {lt : K → K → Bool} (O : SO lt) : ∀ {l m : List α}, Srt nm lt l → Srt nm lt m → (∀ x, x ∈ l ↔ x ∈ m) → l = m
  | [], [], _, _, _ => rfl
  | [], b :: m, _, _, h => by have := (h b).2 (by simp); cases this
  | a :: l, [], _, _, h => by have := (h a).1 (by simp); cases this
  | a :: l, b :: m, h1, h2, h => by
    have h1' := List.pairwise_cons.1 h1
    have h2' := List.pairwise_cons.1 h2
    have e : a = b := by
      have ha := (h a).1 (by simp)
      have hb := (h b).2 (by simp)
      rcases List.mem_cons.1 ha with rfl | ha
      · rfl
      · rcases List.mem_cons.1 hb with rfl | hb
        · rfl
        · have := O.asymm (h1'.1 b hb)
          rw [h2'.1 a ha] at this
          cases this
    subst e
    rw [srt_ext O h1'.2 h2'.2 fun x => ?_]
    constructor
    · intro hx
      rcases List.mem_cons.1 ((h x).1 (by simp [hx])) with rfl | hy
      · have := h1'.1 x hx; rw [O.irr] at this; cases this
      · exact hy
    · intro hx
      rcases List.mem_cons.1 ((h x).2 (by simp [hx])) with rfl | hy
      · have := h2'.1 x hx; rw [O.irr] at this; cases this
      · exact hy
theorem srt_inj {nm : α → K} {lt : K → K → Bool} (O : SO lt) {es : List α} (h : Srt nm lt es) {x y : α} (hx : x ∈ es) (hy : y ∈ es) (e : nm x = nm y) : x = y := by
  obtain ⟨i, hi, rfl⟩ := List.getElem_of_mem hx
  obtain ⟨j, hj, rfl⟩ := List.getElem_of_mem hy
  rcases Nat.lt_trichotomy i j with h1 | h1 | h1
  · have := srt_get h hi hj h1; rw [e, O.irr] at this; cases this
  · subst h1; rfl
  · have := srt_get h hj hi h1; rw [e, O.irr] at this; cases this
theorem look_mem [DecidableEq K] {nm : α → K} {s : K} {es : List α} {x : α} (h : lk nm s es = some x) : x ∈ es ∧ nm x = s :=
  ⟨List.mem_of_find?_eq_some h, by simpa using List.find?_some h⟩
theorem look_none [DecidableEq K] {nm : α → K} {s : K} {es : List α} : lk nm s es = none ↔ ∀ x ∈ es, nm x ≠ s := by
  unfold lk
  rw [List.find?_eq_none]
  simp
theorem look_of_mem [DecidableEq K] {nm : α → K} {lt : K → K → Bool} (O : SO lt) {es : List α} (h : Srt nm lt es) {x : α} (hx : x ∈ es) : lk nm (nm x) es = some x := by
  cases hl : lk nm (nm x) es with
  | none => exact absurd rfl (look_none.1 hl x hx)
  | some y => obtain ⟨h1, h2⟩ := look_mem hl; rw [srt_inj O h h1 hx h2]
theorem look_iff [DecidableEq K] {nm : α → K} {lt : K → K → Bool} (O : SO lt) {es : List α} (h : Srt nm lt es) {x : α} {s : K} : lk nm s es = some x ↔ x ∈ es ∧ nm x = s :=
  ⟨look_mem, fun ⟨h1, h2⟩ => h2 ▸ look_of_mem O h h1⟩
theorem look_ins [DecidableEq K] {nm : α → K} {lt : K → K → Bool} (O : SO lt) {es : List α} (h : Srt nm lt es) (x : α) (s : K) : lk nm s (ins nm lt es x) = if s = nm x then some x else lk nm s es := by
  by_cases e : s = nm x
  · rw [if_pos e, look_iff O (ins_srt O h), ins_mem O]
    exact ⟨.inl rfl, e.symm⟩
  · rw [if_neg e]
    cases hl : lk nm s es with
    | none =>
      rw [look_none] at hl ⊢
      intro y hy
      rcases (ins_mem O).1 hy with rfl | ⟨h1, _⟩
      · exact fun h => e h.symm
      · exact hl y h1
    | some y =>
      obtain ⟨h1, h2⟩ := look_mem hl
      rw [look_iff O (ins_srt O h), ins_mem O]
      exact ⟨.inr ⟨h1, by rw [h2]; exact e⟩, h2⟩
theorem srt_look_ext [DecidableEq K] {nm : α → K} {lt : K → K → Bool} (O : SO lt) {l m : List α} (h1 : Srt nm lt l) (h2 : Srt nm lt m) (h : ∀ s, lk nm s l = lk nm s m) : l = m :=
  srt_ext O h1 h2 fun x => ⟨fun hx => (look_mem ((h (nm x)).symm.trans (look_of_mem O h1 hx))).1, fun hx => (look_mem ((h (nm x)).trans (look_of_mem O h2 hx))).1⟩
/-- Put at its place, where no element has its key. -/
theorem ins_put {nm : α → K} {lt : K → K → Bool} (O : SO lt) {es : List α} {x : α} {n : Nat} (hn : n ≤ es.length) (h1 : ∀ i (h : i < es.length), i < n → lt (nm es[i]) (nm x) = true) (h2 : ∀ i (h : i < es.length), n ≤ i → lt (nm es[i]) (nm x) = false) (hx : ∀ y ∈ es, nm y ≠ nm x) : es.take n ++ x :: es.drop n = ins nm lt es x := by
  obtain ⟨a1, a2⟩ := split_filter (p := fun e => lt (nm e) (nm x)) hn h1 h2
  unfold ins
  rw [a1, a2]
  congr 2
  refine List.filter_congr fun y hy => ?_
  cases h3 : lt (nm y) (nm x)
  · rw [O.ge h3 (hx y hy)]; rfl
  · rw [O.asymm h3]; rfl
/-- Put in the place of the one that has its key. -/
theorem ins_set {nm : α → K} {lt : K → K → Bool} (O : SO lt) {es : List α} {x : α} {n : Nat} (hs : Srt nm lt es) (hn : n < es.length) (e : nm es[n] = nm x) : es.set n x = ins nm lt es x := by
  have a1 := (split_filter (es := es) (p := fun y => lt (nm y) (nm x)) (n := n) (by omega) (fun i hi h => by rw [← e]; exact srt_get hs hi hn h) (fun i hi h => by
    rcases Nat.eq_or_lt_of_le h with rfl | h
    · rw [e, O.irr]
    · rw [← e]; exact O.asymm (srt_get hs hn hi h))).1
  have a2 := (split_filter (es := es) (p := fun y => !lt (nm x) (nm y)) (n := n + 1) (by omega) (fun i hi h => by
    rcases Nat.eq_or_lt_of_le (Nat.le_of_lt_succ h) with rfl | h
    · rw [e, O.irr]; rfl
    · rw [← e, O.asymm (srt_get hs hi hn h)]; rfl) (fun i hi h => by rw [← e, srt_get hs hn hi (by omega)]; rfl)).2
  unfold ins
  rw [← a1, List.set_eq_take_append_cons_drop, if_pos hn, a2]
  simp
theorem ins_len_new {nm : α → K} {lt : K → K → Bool} (O : SO lt) {es : List α} {x : α} (hx : ∀ y ∈ es, nm y ≠ nm x) : (ins nm lt es x).length = es.length + 1 := by
  unfold ins
  rw [List.length_append, List.length_cons]
  induction es with
  | nil => rfl
  | cons a l ih =>
    have ih := ih fun y hy => hx y (by simp [hy])
    have ha := hx a (by simp)
    cases h3 : lt (nm a) (nm x)
    · have h4 := O.ge h3 ha
      simp only [List.filter_cons, h3, h4, Bool.false_eq_true, if_false, if_true, List.length_cons]
      omega
    · have h4 := O.asymm h3
      simp only [List.filter_cons, h3, h4, Bool.false_eq_true, if_false, if_true, List.length_cons]
      omega
theorem ins_len_old {nm : α → K} {lt : K → K → Bool} (O : SO lt) {es : List α} {x y : α} (hs : Srt nm lt es) (hy : y ∈ es) (e : nm y = nm x) : (ins nm lt es x).length = es.length := by
  obtain ⟨i, hi, rfl⟩ := List.getElem_of_mem hy
  rw [← ins_set O hs hi e, List.length_set]
/-- How many come ahead of a key. -/
def posn (nm : α → K) (lt : K → K → Bool) (x : K) (es : List α) : Nat := (es.filter fun e => lt (nm e) x).length
theorem posn_le (nm : α → K) (lt : K → K → Bool) (x : K) (es : List α) : posn nm lt x es ≤ es.length := List.length_filter_le _ _
theorem posn_spec {nm : α → K} {lt : K → K → Bool} (O : SO lt) {es : List α} (h : Srt nm lt es) (x : K) : (∀ i (hi : i < es.length), i < posn nm lt x es → lt (nm es[i]) x = true) ∧ ∀ i (hi : i < es.length), posn nm lt x es ≤ i → lt (nm es[i]) x = false := by
  unfold posn
  induction es with
  | nil => exact ⟨fun i hi => by simp at hi, fun i hi => by simp at hi⟩
  | cons e r ih =>
    have h' := List.pairwise_cons.1 h
    obtain ⟨i1, i2⟩ := ih h'.2
    cases he : lt (nm e) x
    · have hr : ∀ y ∈ r, lt (nm y) x = false := fun y hy => by
        cases hy2 : lt (nm y) x
        · rfl
        · have := O.trans (h'.1 y hy) hy2; rw [he] at this; cases this
      have hz : (List.filter (fun e => lt (nm e) x) (e :: r)).length = 0 := by
        rw [List.filter_cons, he, List.filter_eq_nil_iff.2 fun y hy => by rw [hr y hy]; exact Bool.false_ne_true]
        rfl
      rw [hz]
      refine ⟨fun i _ hi => by omega, fun i hi _ => ?_⟩
      cases i with
      | zero => exact he
      | succ i => exact hr _ (List.getElem_mem _)
    · have hz : (List.filter (fun e => lt (nm e) x) (e :: r)).length = (r.filter fun e => lt (nm e) x).length + 1 := by
        rw [List.filter_cons, he]
        rfl
      rw [hz]
      refine ⟨fun i hi h3 => ?_, fun i hi h3 => ?_⟩
      · cases i with
        | zero => exact he
        | succ i => exact i1 i (by simpa using hi) (by omega)
      · cases i with
        | zero => omega
        | succ i => exact i2 i (by simpa using hi) (by omega)
theorem posn_found {nm : α → K} {lt : K → K → Bool} (O : SO lt) {es : List α} (h : Srt nm lt es) {x : K} {q : Nat} (hq : q < es.length) (e : nm es[q] = x) : posn nm lt x es = q := by
  obtain ⟨h1, h2⟩ := posn_spec O h x
  rcases Nat.lt_trichotomy (posn nm lt x es) q with h4 | h4 | h4
  · have a1 := h2 _ (by omega) (Nat.le_refl _)
    have a2 := srt_get h (by omega) hq h4
    rw [e] at a2
    rw [a1] at a2
    cases a2
  · exact h4
  · have a1 := h1 q hq h4
    rw [e, O.irr] at a1
    cases a1
theorem posn_ins {nm : α → K} {lt : K → K → Bool} (O : SO lt) {es : List α} (h : Srt nm lt es) {x : α} (hx : ∀ y ∈ es, nm y ≠ nm x) : es.take (posn nm lt (nm x) es) ++ x :: es.drop (posn nm lt (nm x) es) = ins nm lt es x := by
  obtain ⟨h1, h2⟩ := posn_spec O h (nm x)
  exact ins_put O (posn_le _ _ _ _) h1 h2 hx
theorem ins_cons {nm : α → K} {lt : K → K → Bool} (O : SO lt) {e x : α} {r : List α} (hs : Srt nm lt (e :: r)) : ins nm lt (e :: r) x = bif lt (nm e) (nm x) then e :: ins nm lt r x else bif lt (nm x) (nm e) then x :: e :: r else x :: r := by
  have hs' := List.pairwise_cons.1 hs
  unfold ins
  have key : lt (nm e) (nm x) = false → r.filter (fun y => lt (nm y) (nm x)) = [] ∧ r.filter (fun y => lt (nm x) (nm y)) = r := fun h => by
    have h5 : ∀ y ∈ r, lt (nm x) (nm y) = true := fun y hy => by
      by_cases h6 : nm e = nm x
      · rw [← h6]; exact hs'.1 y hy
      · exact O.trans (O.ge h h6) (hs'.1 y hy)
    exact ⟨List.filter_eq_nil_iff.2 fun y hy => by rw [O.asymm (h5 y hy)]; exact Bool.false_ne_true, List.filter_eq_self.2 h5⟩
  cases h1 : lt (nm e) (nm x)
  · obtain ⟨k1, k2⟩ := key h1
    cases h2 : lt (nm x) (nm e)
    · simp [List.filter_cons, h1, h2, k1, k2]
    · simp [List.filter_cons, h1, h2, k1, k2]
  · have h2 := O.asymm h1
    simp [List.filter_cons, h1, h2]
end Go.Ev
