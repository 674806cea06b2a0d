/-
  States of the evaluator and of the model; what a row holds; values made free of rows.
-/
import Derived.Test.YtpgaobdgohlegaaEvC
namespace Go.Ev
open Go.RowKit

/-- Some blocks are as they were; nothing outside the memory has changed. -/
structure Kept (B : Nat → Prop) (w w' : World) : Prop where
  os : w'.os = w.os
  tape : w'.tape = w.tape
  output : w'.output = w.output
  size : w.heap.size ≤ w'.heap.size
  block : ∀ k, B k → w'.heap[k]? = w.heap[k]?
theorem Kept.refl (B : Nat → Prop) (w : World) : Kept B w w := ⟨rfl, rfl, rfl, Nat.le_refl _, fun _ _ => rfl⟩
theorem Kept.trans {B : Nat → Prop} {a b c : World} (h : Kept B a b) (k : Kept B b c) : Kept B a c :=
  ⟨k.os.trans h.os, k.tape.trans h.tape, k.output.trans h.output, Nat.le_trans h.size k.size, fun i hi => (k.block i hi).trans (h.block i hi)⟩
theorem Kept.of_below {B : Nat → Prop} {w w' : World} {n : Nat} (h : Below n w w') (hB : ∀ b, B b → b < n) : Kept B w w' := ⟨h.os, h.tape, h.output, h.size, fun k hk => h.block k (hB k hk)⟩
theorem Kept.below {w w' : World} {n : Nat} (h : Kept (fun b => b < n) w w') : Below n w w' := ⟨h.os, h.tape, h.output, h.size, h.block⟩
theorem Kept.of_grown {B : Nat → Prop} {w w' : World} {row : Option Nat} (h : w.grownBy w' row) (hB : ∀ b, B b → b < w.heap.size) (hr : ∀ k, row = some k → ¬ B k) : Kept B w w' :=
  ⟨h.os, h.tape, h.output, h.size, fun k hk => h.block k (hB k hk) (fun e => hr k e.symm hk)⟩

/-- A row in memory. 'og': the block that it lies in. 'B': the blocks that the call leaves alone. -/
def RowRel (w : World) (S : Nat → Prop) (B : Nat → Prop) (β : Bet) (id : Nat) (og : Option Nat) : Row → Prop
  | .box imm cs => ∃ (g : Nat) (vs : List Value) (t : TypeId), og = some g ∧ β id = some (.pointer (some ⟨g, 0, none⟩), 1) ∧ w.heap[g]? = some (.cells vs.toArray t (0, 0)) ∧
      (∀ u ∈ vs, u.oneCell' = true) ∧ VRels w S β cs vs ∧ (imm = false → ¬ S g) ∧ (imm = true → S g) ∧ ¬ B g
  | .arr imm s e es csp => 0 < s.width ∧ ∃ (v : Value) (sp : List AV) (xs : List Value), (∀ x ∈ es ++ sp, hasSh s x = true) ∧ (∀ c, csp = some c → c = sp) ∧ β id = some (v, s.width) ∧ (∀ u ∈ xs, u.oneCell' = true) ∧
      VRels w S nob (flat (es ++ sp)) xs ∧
      ((es = [] ∧ sp = [] ∧ og = none ∧ ∃ A, v = .slice A 0 0) ∨
       ∃ (g : Nat), og = some g ∧ v = .slice (some ⟨g, 0, none⟩) es.length (es.length + sp.length) ∧ ¬ B g ∧ w.heap[g]? = some (.cells xs.toArray e (0, 0)) ∧ es.length + sp.length ≤ maxLen ∧
         (imm = false → ¬ S g) ∧ (imm = true → S g))

/-- What a call leaves alone: these blocks, and the places of the rows that it was handed. -/
structure Ctx where
  B : Nat → Prop
  bet : Bet := nob
instance : CoeFun Ctx fun _ => Nat → Prop := ⟨Ctx.B⟩
instance : Coe Ctx (Nat → Prop) := ⟨Ctx.B⟩

structure Rel (w : World) (S : Nat → Prop) (B : Ctx) (β : Bet) (og : Nat → Option Nat) (st : St) (a : Act) : Prop where
  tm : VRels w S β st.tm a.tmps.toList
  df : a.defers = []
  row : ∀ id r, lookup st.rows id = some r → RowRel w S B β id (og id) r
  inj : ∀ id id' g, og id = some g → og id' = some g → id = id'
  lt : ∀ id g, og id = some g → g < w.heap.size
  used : ∀ id x, β id = some x → id ∈ st.used
  one : ∀ id x, β id = some x → x.1.oneCell' = true
  Slt : ∀ b, S b → b < w.heap.size
  Ble : ∀ b, B b → b < w.heap.size
  pid : ∀ id x, PID ≤ id → β id = some x → B.bet id = some x

theorem flat_length {s : Sh} : ∀ (es : List AV), (∀ x ∈ es, hasSh s x = true) → (flat es).length = es.length * s.width
  | [], _ => by simp [flat]
  | e :: es, h => by
    have h1 := hasSh_width s e (h e (by simp))
    have h2 := flat_length (s := s) es (fun x hx => h x (by simp [hx]))
    simp only [flat, List.flatMap_cons, List.length_append, List.length_cons] at h2 ⊢
    rw [h1, h2, Nat.add_mul, Nat.one_mul, Nat.add_comm]

theorem flat_append (es fs : List AV) : flat (es ++ fs) = flat es ++ flat fs := by simp [flat]

/-- The cells of one element. -/
theorem flat_at {s : Sh} : ∀ (es : List AV) (i : Nat) (e : AV), (∀ x ∈ es, hasSh s x = true) → es[i]? = some e → ((flat es).drop (i * s.width)).take s.width = e.cells
  | [], i, e, _, h => by simp at h
  | x :: es, 0, e, hs, h => by
    simp at h
    subst h
    have hw := hasSh_width s x (hs x (by simp))
    simp only [flat, List.flatMap_cons, Nat.zero_mul, List.drop_zero]
    rw [← hw]
    simp
  | x :: es, i + 1, e, hs, h => by
    have hw := hasSh_width s x (hs x (by simp))
    have ih := flat_at es i e (fun y hy => hs y (by simp [hy])) (by simpa using h)
    rw [← ih]
    simp only [flat, List.flatMap_cons]
    rw [Nat.add_mul, Nat.one_mul, Nat.add_comm, ← List.drop_drop, ← hw]
    simp

theorem VRel.keepS {w : World} {S S' : Nat → Prop} {β : Bet} {c : AV} {v : Value} (h : VRel w S β c v) (hS : ∀ b, S b → S' b) : VRel w S' β c v := h.mono hS (fun _ _ => rfl) (fun _ _ h => h)
theorem VRels.keepS {w : World} {S S' : Nat → Prop} {β : Bet} {cs : List AV} {vs : List Value} (h : VRels w S β cs vs) (hS : ∀ b, S b → S' b) : VRels w S' β cs vs := h.mono hS (fun _ _ => rfl) (fun _ _ h => h)

theorem add_lit (g j : Nat) : (⟨g, 0, none⟩ : Addr).add j = ⟨g, j, none⟩ := by unfold Addr.add; split <;> simp_all
theorem add_lit' (g o j : Nat) : (⟨g, o, none⟩ : Addr).add j = ⟨g, o + j, none⟩ := by unfold Addr.add; split <;> simp_all

theorem add_add (x : Addr) (i j : Nat) : (x.add i).add j = x.add (i + j) := by
  unfold Addr.add
  by_cases hi : i = 0 <;> by_cases hj : j = 0 <;> simp [hi, hj, Nat.add_assoc]

theorem flat_drop {s : Sh} : ∀ (es : List AV) (l : Nat), (∀ x ∈ es, hasSh s x = true) → flat (es.drop l) = (flat es).drop (l * s.width)
  | es, 0, _ => by simp
  | [], l + 1, _ => by simp [flat]
  | e :: es, l + 1, hs => by
    have hw := hasSh_width s e (hs e (by simp))
    have := flat_drop es l (fun x hx => hs x (by simp [hx]))
    simp only [List.drop_succ_cons, this]
    simp only [flat, List.flatMap_cons]
    rw [Nat.add_mul, Nat.one_mul, Nat.add_comm, ← List.drop_drop, ← hw]
    simp
theorem flat_take {s : Sh} : ∀ (es : List AV) (l : Nat), (∀ x ∈ es, hasSh s x = true) → flat (es.take l) = (flat es).take (l * s.width)
  | es, 0, _ => by simp [flat]
  | [], l + 1, _ => by simp [flat]
  | e :: es, l + 1, hs => by
    have hw := hasSh_width s e (hs e (by simp))
    have := flat_take es l (fun x hx => hs x (by simp [hx]))
    simp only [List.take_succ_cons]
    simp only [flat, List.flatMap_cons] at this ⊢
    have e1 : List.take (e.cells.length + l * e.cells.length) e.cells = e.cells := List.take_of_length_le (by omega)
    rw [this, Nat.add_mul, Nat.one_mul, Nat.add_comm, ← hw, List.take_append, e1]
    simp

section part
variable {w : World} {S : Nat → Prop} {β : Bet}
theorem VRel.slv_inv {s : Sh} {es : List AV} {v : Value} (h : VRel w S β (.slv s es) v) : ∃ (A : Option Addr) (c : Nat) (ad : Addr) (xs : List Value), v = .slice A es.length c ∧ (∀ e ∈ es, hasSh s e = true) ∧ es.length ≤ c ∧ c ≤ maxLen ∧
    (es ≠ [] → A = some ad ∧ S ad.block) ∧ VRels w S nob (flat es) xs ∧ (∀ u ∈ xs, u.oneCell' = true) ∧ (∀ (j : Nat) (u : Value), xs[j]? = some u → w.cell? (ad.add j) = some u) := by
  cases h with
  | slv _ _ _ A c ad xs hs hc hm hA hl h1 hx hh => exact ⟨A, c, ad, xs, rfl, hs, hc, hm, hA, ⟨hl, hh⟩, h1, hx⟩

/-- A part of a slice that nobody writes. -/
theorem slv_part {s : Sh} {es : List AV} {v : Value} (h : VRel w S β (.slv s es) v) (β' : Bet) {l hh : Nat} (hlh : l ≤ hh) (hhl : hh ≤ es.length) :
    ∃ A c, v = .slice A es.length c ∧ es.length ≤ c ∧ VRel w S β' (.slv s ((es.drop l).take (hh - l))) (.slice (if c = l then A else A.map (·.add (l * s.width))) (hh - l) (c - l)) := by
  obtain ⟨A, c, ad, xs, rfl, hs, hc, hm, hA, hv, h1, hx⟩ := h.slv_inv
  refine ⟨A, c, rfl, hc, ?_⟩
  have hs' : ∀ e ∈ (es.drop l).take (hh - l), hasSh s e = true := fun e he => hs e (List.mem_of_mem_drop (List.mem_of_mem_take he))
  have hlen : ((es.drop l).take (hh - l)).length = hh - l := by simp; omega
  have hfl : flat ((es.drop l).take (hh - l)) = ((flat es).drop (l * s.width)).take ((hh - l) * s.width) := by
    rw [flat_take (s := s) _ _ (fun x hx => hs x (List.mem_of_mem_drop hx)), flat_drop es l hs]
  have hvv := (hv.drop (l * s.width)).take ((hh - l) * s.width)
  rw [← hfl] at hvv
  have := VRel.slv (w := w) (S := S) β' s ((es.drop l).take (hh - l)) (if c = l then A else A.map (·.add (l * s.width))) (c - l) (ad.add (l * s.width)) ((xs.drop (l * s.width)).take ((hh - l) * s.width)) hs' (by rw [hlen]; omega) (by omega)
    (fun hne => ?_) hvv.1 (fun u hu => h1 u (List.mem_of_mem_drop (List.mem_of_mem_take hu))) (fun j u hu => ?_) hvv.2
  · rwa [hlen] at this
  · have hpos : 0 < hh - l := by
      rcases Nat.eq_zero_or_pos (hh - l) with h0 | h0
      · rw [h0] at hne; simp at hne
      · exact h0
    have hne' : es ≠ [] := by rintro rfl; simp at hhl; omega
    obtain ⟨rfl, hS⟩ := hA hne'
    rw [if_neg (by omega)]
    exact ⟨rfl, by rw [add_block]; exact hS⟩
  · rw [List.getElem?_take] at hu
    split at hu
    · rw [List.getElem?_drop] at hu
      rw [add_add]
      exact hx _ u hu
    · cases hu

end part

/-- The blocks of some rows, beside those that may be looked at. -/
def With (S : Nat → Prop) (og : Nat → Option Nat) (ids : List Nat) (b : Nat) : Prop := S b ∨ ∃ id ∈ ids, og id = some b
theorem With.left {S : Nat → Prop} {og : Nat → Option Nat} {ids : List Nat} {b : Nat} (h : S b) : With S og ids b := .inl h
theorem With.sub {S : Nat → Prop} {og : Nat → Option Nat} {ids ids' : List Nat} (hs : ∀ i ∈ ids, i ∈ ids') {b : Nat} (h : With S og ids b) : With S og ids' b :=
  h.imp id fun ⟨i, hi, hb⟩ => ⟨i, hs i hi, hb⟩

theorem row_cell {w : World} {g : Nat} {cur : Array Value} {e : TypeId} (h : w.heap[g]? = some (.cells cur e (0, 0))) (j : Nat) : w.cell? ⟨g, j, none⟩ = cur[j]? := by simp [World.cell?, h]

/-- An array's row: its elements alone. -/
theorem RowRel.arr_old {w : World} {S : Nat → Prop} {B : Nat → Prop} {β : Bet} {id : Nat} {og : Option Nat} {imm : Bool} {s : Sh} {e : TypeId} {es : List AV} {csp : Option (List AV)} (h : RowRel w S B β id og (.arr imm s e es csp)) :
    0 < s.width ∧ (∀ x ∈ es, hasSh s x = true) ∧ ∃ (v : Value) (xs : List Value), β id = some (v, s.width) ∧ (∀ u ∈ xs, u.oneCell' = true) ∧ VRels w S nob (flat es) xs ∧
      ((es = [] ∧ og = none ∧ ∃ A, v = .slice A 0 0) ∨
       ∃ (g cap : Nat) (cur : Array Value), og = some g ∧ v = .slice (some ⟨g, 0, none⟩) es.length cap ∧ ¬ B g ∧ w.heap[g]? = some (.cells cur e (0, 0)) ∧ es.length ≤ cap ∧ cap ≤ maxLen ∧
         cur.size = cap * s.width ∧ cur.toList.take (es.length * s.width) = xs ∧ (imm = false → ¬ S g) ∧ (imm = true → S g)) := by
  obtain ⟨hpos, v, sp, xs, hshA, _, hb, h1A, hvA, hor⟩ := h
  have hsh : ∀ x ∈ es, hasSh s x = true := fun x hx => hshA x (List.mem_append_left _ hx)
  have hv : VRels w S nob (flat es) (xs.take (es.length * s.width)) := by
    have := hvA.take (es.length * s.width)
    rw [flat_append, List.take_append_of_le_length (by rw [flat_length es hsh]; exact Nat.le_refl _), List.take_of_length_le (by rw [flat_length es hsh]; exact Nat.le_refl _)] at this
    exact this
  refine ⟨hpos, hsh, v, _, hb, fun u hu => h1A u (List.mem_of_mem_take hu), hv, ?_⟩
  rcases hor with ⟨he, hsp, ho, hA⟩ | ⟨g, hog, rfl, hB, hh, hm, hi, hj⟩
  · exact .inl ⟨he, ho, hA⟩
  · refine .inr ⟨g, _, xs.toArray, hog, rfl, hB, hh, by omega, hm, ?_, by simp, hi, hj⟩
    rw [List.size_toArray, hvA.1, flat_length _ hshA, List.length_append]

/-- An array's row, as a slice that nobody writes. -/
theorem arr_slv {w : World} {S S' : Nat → Prop} {B : Nat → Prop} {β : Bet} {id : Nat} {og : Option Nat} {imm : Bool} {s : Sh} {e : TypeId} {es : List AV} {csp : Option (List AV)} (h : RowRel w S B β id og (.arr imm s e es csp))
    (hS : ∀ b, S b → S' b) (hg : ∀ g, og = some g → S' g) (β' : Bet) : ∃ v, β id = some (v, s.width) ∧ VRel w S' β' (.slv s es) v ∧
      ∀ i off, i < es.length → ∃ g n c, v = .slice (some ⟨g, 0, none⟩) n c ∧ VRel w S' β' (.eref s es i off) (.pointer (some ⟨g, i * s.width + off, none⟩)) := by
  obtain ⟨hpos, v, sp, xs, hshA, _, hb, h1A, hvA, hor⟩ := h
  have hsh : ∀ x ∈ es, hasSh s x = true := fun x hx => hshA x (List.mem_append_left _ hx)
  refine ⟨v, hb, ?_⟩
  rcases hor with ⟨he, hsp, _, A, rfl⟩ | ⟨g, hog, rfl, _, hh, hm, _⟩
  · subst he
    exact ⟨.slv β' s [] A 0 default [] (by simp) (by simp) (by decide) (fun h => absurd rfl h) (by simp [flat]) (by simp) (by simp) (by simp [flat]), fun i off hi => by simp at hi⟩
  · have hv : VRels w S' nob (flat es) (xs.take (es.length * s.width)) := by
      have := (hvA.keepS hS).take (es.length * s.width)
      rw [flat_append, List.take_append_of_le_length (by rw [flat_length es hsh]; exact Nat.le_refl _), List.take_of_length_le (by rw [flat_length es hsh]; exact Nat.le_refl _)] at this
      exact this
    have h1 : ∀ u ∈ xs.take (es.length * s.width), u.oneCell' = true := fun u hu => h1A u (List.mem_of_mem_take hu)
    have hcell : ∀ (j : Nat) (u : Value), (xs.take (es.length * s.width))[j]? = some u → w.cell? ((⟨g, 0, none⟩ : Addr).add j) = some u := by
      intro j u hu
      rw [add_lit, row_cell hh]
      rw [List.getElem?_take] at hu
      split at hu
      · simpa using hu
      · cases hu
    refine ⟨.slv β' s es _ _ ⟨g, 0, none⟩ _ hsh (by omega) hm (fun _ => ⟨rfl, hg g hog⟩) hv.1 h1 hcell hv.2, fun i off hi => ⟨g, es.length, _, rfl, ?_⟩⟩
    have := VRel.eref β' s es i off ⟨g, 0, none⟩ _ hi hsh (hg g hog) hv.1 h1 hcell hv.2
    rwa [add_lit] at this

section pur
variable {w : World} {S : Nat → Prop} {B : Nat → Prop} {β : Bet} {og : Nat → Option Nat} {rows : List (Nat × Row)}

theorem purL_sound {f : AV → Option (AV × List Nat)} (hf : ∀ v v' ids u, f v = some (v', ids) → VRel w S β v u → VRel w (With S og ids) nob v' u) :
    ∀ (cs : List AV) (p : List AV × List Nat) (us : List Value), purL f cs = some p → VRels w S β cs us → VRels w (With S og p.2) nob p.1 us
  | [], p, us, h, hv => by simp [purL] at h; subst h; rw [hv.inv_nil]; exact VRels.nil
  | c :: cs, p, us, h, hv => by
    obtain ⟨u, us', rfl, h0, hs⟩ := hv.inv
    simp only [purL] at h
    cases hc : f c with
    | none => simp [hc] at h
    | some q =>
      cases hq : purL f cs with
      | none => simp [hc, hq] at h
      | some r =>
        simp [hc, hq] at h
        subst h
        exact VRels.cons ((hf c q.1 q.2 u hc h0).keepS fun b => With.sub (by simp +contextual)) ((purL_sound hf cs r us' hq hs).keepS fun b => With.sub (by simp +contextual))

theorem pur1_sound (hrow : ∀ id r, lookup rows id = some r → RowRel w S B β id (og id) r) :
    ∀ (n : Nat) (v v' : AV) (ids : List Nat) (u : Value), pur1 rows n v = some (v', ids) → VRel w S β v u → VRel w (With S og ids) nob v' u := by
  intro n
  induction n with
  | zero => intro v v' ids u h; simp [pur1] at h
  | succ n ih =>
    intro v v' ids u h hv
    have hL := purL_sound (w := w) (S := S) (β := β) (og := og) (f := pur1 rows n) (fun v v' ids u h hv => ih v v' ids u h hv)
    cases hv with
    | unk _ v => simp [pur1] at h
    | undef => simp [pur1] at h; obtain ⟨rfl, rfl⟩ := h; exact .undef _
    | int _ k m => simp [pur1] at h; obtain ⟨rfl, rfl⟩ := h; exact .int _ k m
    | bool _ b => simp [pur1] at h; obtain ⟨rfl, rfl⟩ := h; exact .bool _ b
    | ubool _ b => simp [pur1] at h; obtain ⟨rfl, rfl⟩ := h; exact .ubool _ b
    | str _ s => simp [pur1] at h; obtain ⟨rfl, rfl⟩ := h; exact .str _ s
    | agg _ cs vs hl h1 hh =>
      simp only [pur1] at h
      cases hp : purL (pur1 rows n) cs with
      | none => simp [hp] at h
      | some p =>
        simp [hp] at h
        obtain ⟨rfl, rfl⟩ := h
        have := hL cs p vs hp ⟨hl, hh⟩
        exact .agg _ p.1 vs this.1 h1 this.2
    | tup _ cs vs hl hh =>
      simp only [pur1] at h
      cases hp : purL (pur1 rows n) cs with
      | none => simp [hp] at h
      | some p =>
        simp [hp] at h
        obtain ⟨rfl, rfl⟩ := h
        have := hL cs p vs hp ⟨hl, hh⟩
        exact .tup _ p.1 vs this.1 this.2
    | slv _ s es A c a xs hs hc hm hA hl h1 hx hh =>
      simp [pur1] at h; obtain ⟨rfl, rfl⟩ := h
      exact (VRel.slv nob s es A c a xs hs hc hm hA hl h1 hx hh).keepS fun b => With.left
    | slz _ s A => simp [pur1] at h; obtain ⟨rfl, rfl⟩ := h; exact .slz _ s A
    | eref _ s es i off a xs hi hs hSa hl h1 hx hh =>
      simp [pur1] at h; obtain ⟨rfl, rfl⟩ := h
      exact (VRel.eref nob s es i off a xs hi hs hSa hl h1 hx hh).keepS fun b => With.left
    | ref _ cs a xs hSa hl h1 hx hh =>
      simp [pur1] at h; obtain ⟨rfl, rfl⟩ := h
      exact (VRel.ref nob cs a xs hSa hl h1 hx hh).keepS fun b => With.left
    | ptr _ id off g wd hbt =>
      simp only [pur1] at h
      cases hr : lookup rows id with
      | none => simp [hr] at h
      | some r =>
        cases r with
        | arr _ _ _ _ _ => simp [hr] at h
        | box imm cs =>
          obtain ⟨g', vs, t, hog, hb, hh, h1, hvs, _⟩ := hrow id _ hr
          have hgg : g' = g := by rw [hbt] at hb; simp at hb; exact hb.1.symm
          subst hgg
          simp only [hr] at h
          cases hp : purL (pur1 rows n) cs with
          | none => simp [hp] at h
          | some p =>
            simp [hp] at h
            obtain ⟨rfl, rfl⟩ := h
            have hq := ((hL cs p vs hp hvs).keepS (S' := With S og (id :: p.2)) fun b => With.sub (by simp +contextual)).drop off
            refine .ref _ _ _ (vs.drop off) (.inr ⟨id, by simp, hog⟩) hq.1 (fun u hu => h1 u (List.mem_of_mem_drop hu)) (fun j u hu => ?_) hq.2
            rw [add_lit', row_cell hh]
            simpa using hu
    | eptr _ id i off g m c wd hbt =>
      simp only [pur1] at h
      cases hr : lookup rows id with
      | none => simp [hr] at h
      | some r =>
        cases r with
        | box _ _ => simp [hr] at h
        | arr imm s e es csp =>
          simp [hr] at h
          obtain ⟨hi, rfl, rfl⟩ := h
          obtain ⟨v, hb, _, he⟩ := arr_slv (hrow id _ hr) (S' := With S og [id]) (fun b => With.left) (fun g hg => .inr ⟨id, by simp, hg⟩) nob
          rw [hbt] at hb
          simp only [Option.some.injEq, Prod.mk.injEq] at hb
          obtain ⟨rfl, rfl⟩ := hb
          obtain ⟨g', n', c', hv, hr'⟩ := he i off hi
          simp at hv
          obtain ⟨rfl, _, _⟩ := hv
          exact hr'
    | own _ id v wd hbt =>
      simp only [pur1] at h
      cases hr : lookup rows id with
      | none => simp [hr] at h
      | some r =>
        cases r with
        | box _ _ => simp [hr] at h
        | arr imm s e es csp =>
          simp [hr] at h
          obtain ⟨rfl, rfl⟩ := h
          obtain ⟨v', hb, hv, _⟩ := arr_slv (hrow id _ hr) (S' := With S og [id]) (fun b => With.left) (fun g hg => .inr ⟨id, by simp, hg⟩) nob
          rw [hbt] at hb
          simp at hb
          rw [hb.1]
          exact hv
    | sub _ id lo n A m c wd hbt =>
      simp only [pur1] at h
      cases hr : lookup rows id with
      | none => simp [hr] at h
      | some r =>
        cases r with
        | box _ _ => simp [hr] at h
        | arr imm s e es csp =>
          simp [hr] at h
          obtain ⟨hle, rfl, rfl⟩ := h
          obtain ⟨v', hb, hv, _⟩ := arr_slv (hrow id _ hr) (S' := With S og [id]) (fun b => With.left) (fun g hg => .inr ⟨id, by simp, hg⟩) nob
          rw [hbt] at hb
          simp only [Option.some.injEq, Prod.mk.injEq] at hb
          obtain ⟨rfl, rfl⟩ := hb
          obtain ⟨A', c', he, hc', hv'⟩ := slv_part hv nob (l := lo) (hh := lo + n) (by omega) hle
          cases he
          rw [Nat.add_sub_cancel_left] at hv'
          exact hv'
    | fn _ f cs vs hl hh =>
      simp only [pur1] at h
      cases hp : purL (pur1 rows n) cs with
      | none => simp [hp] at h
      | some p =>
        simp [hp] at h
        obtain ⟨rfl, rfl⟩ := h
        have := hL cs p vs hp ⟨hl, hh⟩
        exact .fn _ f p.1 vs this.1 this.2
end pur

/-! ### 'force' is the identity -/
theorem AV.force_eq {α : Type} (v : AV) : ∀ k : AV → α, v.force k = k v := by
  induction v using AV.rec (motive_2 := fun cs => ∀ k : List AV → α, AV.forces cs k = k cs) with
  | nil => rename_i k; simp [AV.forces]
  | cons c cs ih1 ih2 => rename_i k; simp [AV.forces, ih1, ih2]
  | _ => intro k; simp_all [AV.force]
theorem AV.forces_eq {α : Type} : ∀ (cs : List AV) (k : List AV → α), AV.forces cs k = k cs
  | [], k => by simp [AV.forces]
  | c :: cs, k => by simp [AV.forces, AV.force_eq, AV.forces_eq cs]
theorem forceRows_eq {α : Type} : ∀ (rows : List (Nat × Row)) (k : List (Nat × Row) → α), forceRows rows k = k rows
  | [], k => by simp [forceRows]
  | (i, .box im cs) :: rest, k => by simp [forceRows, Row.force, AV.forces_eq, forceRows_eq rest]
  | (i, .arr im s e es sp) :: rest, k => by simp [forceRows, Row.force, forceRows_eq rest]
theorem forceL_eq {α : Type} : ∀ (l : List Nat) (k : List Nat → α), forceL l k = k l
  | [], k => by simp [forceL]
  | i :: l, k => by simp [forceL, forceL_eq l]
theorem St.force_eq {α : Type} (st : St) (k : St → α) : st.force k = k st := by simp [St.force, AV.forces_eq, forceRows_eq, forceL_eq]

/-! ### Rows by their numbers -/
theorem lookup_setRow (rows : List (Nat × Row)) (id : Nat) (r : Row) (i : Nat) : lookup (setRow rows id r) i = if i = id then some r else lookup rows i := by
  induction rows with
  | nil => simp only [setRow, lookup]; by_cases h : id = i <;> simp [h, eq_comm]
  | cons x rest ih =>
    obtain ⟨j, x⟩ := x
    simp only [setRow]
    by_cases hj : j = id
    · subst hj
      simp only [if_pos, lookup]
      by_cases h : j = i <;> simp [h, eq_comm]
      intro h'; exact absurd h'.symm h
    · simp only [if_neg hj, lookup, ih]
      by_cases h : j = i
      · subst h; simp [hj]
      · simp [h]
theorem lookup_delRow (rows : List (Nat × Row)) (id i : Nat) : lookup (delRow rows id) i = if i = id then none else lookup rows i := by
  induction rows with
  | nil => simp [delRow, lookup]
  | cons x rest ih =>
    obtain ⟨j, x⟩ := x
    simp only [delRow]
    by_cases hj : j = id
    · subst hj
      simp only [if_pos, ih, lookup]
      by_cases h : i = j
      · simp [h]
      · rw [if_neg h, if_neg h, if_neg (fun e => h e.symm)]
    · simp only [if_neg hj, lookup, ih]
      by_cases h : j = i
      · subst h; simp [hj]
      · simp [h]
theorem lookup_setImm (ids : List Nat) (rows : List (Nat × Row)) (i : Nat) : lookup (setImm ids rows) i = (lookup rows i).map fun r => if ids.contains i then r.freeze else r := by
  induction rows with
  | nil => simp [setImm, lookup]
  | cons x rest ih =>
    obtain ⟨j, x⟩ := x
    simp only [setImm, lookup, ih]
    by_cases h : j = i
    · subst h; simp
    · simp [h]

end Go.Ev
