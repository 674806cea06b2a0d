/-
  What the evaluator's data stand for in the model's memory, and that it stays so.
-/
import Derived.Test.YtpgaobdgohlegaaEvB
import Derived.WalkKit
import Derived.Maps.AppendAt
namespace Go.Ev
open Go.RowKit

/-- The rows' places: a variable's address, or a slice's value; and how many cells an element has. -/
abbrev Bet := Nat → Option (Value × Nat)

def flat (es : List AV) : List AV := es.flatMap AV.cells

def nob : Bet := fun _ => none

inductive VRel (w : World) (S : Nat → Prop) : Bet → AV → Value → Prop
  | unk (β : Bet) (v : Value) : VRel w S β .unk v
  | undef (β : Bet) : VRel w S β .undef Go.undef
  | int (β : Bet) (k : IntKind) (n : Int) : VRel w S β (.int k n) (.int k n)
  | bool (β : Bet) (b : Bool) : VRel w S β (.bool b) (.bool b)
  | ubool (β : Bet) (b : Bool) : VRel w S β .ubool (.bool b)
  | str (β : Bet) (s : List UInt8) : VRel w S β (.str s) (.string ⟨s.toArray⟩)
  | agg (β : Bet) (cs : List AV) (vs : List Value) (hl : vs.length = cs.length) (h1 : ∀ u ∈ vs, u.oneCell' = true)
      (h : ∀ (j : Nat) (c : AV) (u : Value), cs[j]? = some c → vs[j]? = some u → VRel w S β c u) : VRel w S β (.agg cs) (.agg vs.toArray)
  | tup (β : Bet) (cs : List AV) (vs : List Value) (hl : vs.length = cs.length)
      (h : ∀ (j : Nat) (c : AV) (u : Value), cs[j]? = some c → vs[j]? = some u → VRel w S β c u) : VRel w S β (.tup cs) (.tuple vs.toArray)
  | slv (β : Bet) (s : Sh) (es : List AV) (A : Option Addr) (c : Nat) (a : Addr) (xs : List Value) (hs : ∀ e ∈ es, hasSh s e = true) (hc : es.length ≤ c) (hm : c ≤ maxLen)
      (hA : es ≠ [] → A = some a ∧ S a.block) (hl : xs.length = (flat es).length) (h1 : ∀ u ∈ xs, u.oneCell' = true)
      (hx : ∀ (j : Nat) (u : Value), xs[j]? = some u → w.cell? (a.add j) = some u)
      (h : ∀ (j : Nat) (c : AV) (u : Value), (flat es)[j]? = some c → xs[j]? = some u → VRel w S nob c u) : VRel w S β (.slv s es) (.slice A es.length c)
  | slz (β : Bet) (s : Sh) (A : Option Addr) : VRel w S β (.slz s) (.slice A 0 0)
  | eref (β : Bet) (s : Sh) (es : List AV) (i off : Nat) (a : Addr) (xs : List Value) (hi : i < es.length) (hs : ∀ e ∈ es, hasSh s e = true)
      (hS : S a.block) (hl : xs.length = (flat es).length) (h1 : ∀ u ∈ xs, u.oneCell' = true)
      (hx : ∀ (j : Nat) (u : Value), xs[j]? = some u → w.cell? (a.add j) = some u)
      (h : ∀ (j : Nat) (c : AV) (u : Value), (flat es)[j]? = some c → xs[j]? = some u → VRel w S nob c u) :
      VRel w S β (.eref s es i off) (.pointer (some (a.add (i * s.width + off))))
  | ref (β : Bet) (cs : List AV) (a : Addr) (xs : List Value) (hS : S a.block) (hl : xs.length = cs.length) (h1 : ∀ u ∈ xs, u.oneCell' = true)
      (hx : ∀ (j : Nat) (u : Value), xs[j]? = some u → w.cell? (a.add j) = some u)
      (h : ∀ (j : Nat) (c : AV) (u : Value), cs[j]? = some c → xs[j]? = some u → VRel w S nob c u) : VRel w S β (.ref cs) (.pointer (some a))
  | ptr (β : Bet) (id off g wd : Nat) (hb : β id = some (.pointer (some ⟨g, 0, none⟩), wd)) : VRel w S β (.ptr id off) (.pointer (some ⟨g, off, none⟩))
  | eptr (β : Bet) (id i off g n c wd : Nat) (hb : β id = some (.slice (some ⟨g, 0, none⟩) n c, wd)) : VRel w S β (.eptr id i off) (.pointer (some ⟨g, i * wd + off, none⟩))
  | own (β : Bet) (id : Nat) (v : Value) (wd : Nat) (hb : β id = some (v, wd)) : VRel w S β (.own id) v
  | sub (β : Bet) (id lo len : Nat) (A : Option Addr) (n c wd : Nat) (hb : β id = some (.slice A n c, wd)) : VRel w S β (.sub id lo len) (.slice (if c = lo then A else A.map (·.add (lo * wd))) len (c - lo))
  | fn (β : Bet) (f : Nat) (cs : List AV) (vs : List Value) (hl : vs.length = cs.length)
      (h : ∀ (j : Nat) (c : AV) (u : Value), cs[j]? = some c → vs[j]? = some u → VRel w S β c u) : VRel w S β (.fn f cs) (.func (.func f) #[] vs.toArray)

/-- Lists of values, one by one. -/
def VRels (w : World) (S : Nat → Prop) (β : Bet) (cs : List AV) (vs : List Value) : Prop :=
  vs.length = cs.length ∧ ∀ (j : Nat) (c : AV) (u : Value), cs[j]? = some c → vs[j]? = some u → VRel w S β c u

theorem add_block (a : Addr) (j : Nat) : (a.add j).block = a.block := by unfold Addr.add; split <;> rfl
theorem cells_keep {w w' : World} {S : Nat → Prop} (hw : ∀ b, S b → w'.heap[b]? = w.heap[b]?) (a : Addr) (xs : List Value) (hs : S a.block)
    (hx : ∀ (j : Nat) (u : Value), xs[j]? = some u → w.cell? (a.add j) = some u) (j : Nat) (u : Value) (hu : xs[j]? = some u) : w'.cell? (a.add j) = some u :=
  (World.cell?_of_block (w := w) (by rw [add_block]; exact hw _ hs)).trans (hx j u hu)

theorem VRel.mono {w w' : World} {S S' : Nat → Prop} {β : Bet} {c : AV} {v : Value} (h : VRel w S β c v)
    (hS : ∀ b, S b → S' b) (hw : ∀ b, S b → w'.heap[b]? = w.heap[b]?) : ∀ {β' : Bet}, (∀ id x, β id = some x → β' id = some x) → VRel w' S' β' c v := by
  induction h with
  | unk β v => intro β' _; exact .unk β' v
  | undef => intro β' _; exact .undef β'
  | int β k n => intro β' _; exact .int β' k n
  | bool β b => intro β' _; exact .bool β' b
  | ubool β b => intro β' _; exact .ubool β' b
  | str β s => intro β' _; exact .str β' s
  | agg β cs vs hl h1 _ ih => intro β' hb; exact .agg β' cs vs hl h1 fun j c u hc hu => ih j c u hc hu hb
  | tup β cs vs hl _ ih => intro β' hb; exact .tup β' cs vs hl fun j c u hc hu => ih j c u hc hu hb
  | slv β s es A c a xs hs hc hm hA hl h1 hx _ ih =>
    intro β' _
    refine .slv β' s es A c a xs hs hc hm (fun hne => ⟨(hA hne).1, hS _ (hA hne).2⟩) hl h1 ?_ fun j c u hc hu => ih j c u hc hu fun _ _ h => h
    rcases es with _ | ⟨e, es⟩
    · intro j u hu
      have : xs = [] := List.eq_nil_of_length_eq_zero (by simpa [flat] using hl)
      subst this
      simp at hu
    · exact cells_keep hw a xs (hA (by simp)).2 hx
  | slz β s A => intro β' _; exact .slz β' s A
  | eref β s es i off a xs hi hs hSa hl h1 hx _ ih => intro β' _; exact .eref β' s es i off a xs hi hs (hS _ hSa) hl h1 (cells_keep hw a xs hSa hx) fun j c u hc hu => ih j c u hc hu fun _ _ h => h
  | ref β cs a xs hSa hl h1 hx _ ih => intro β' _; exact .ref β' cs a xs (hS _ hSa) hl h1 (cells_keep hw a xs hSa hx) fun j c u hc hu => ih j c u hc hu fun _ _ h => h
  | ptr β id off g wd hbt => intro β' hb; exact .ptr β' id off g wd (hb _ _ hbt)
  | eptr β id i off g n c wd hbt => intro β' hb; exact .eptr β' id i off g n c wd (hb _ _ hbt)
  | own β id v wd hbt => intro β' hb; exact .own β' id v wd (hb _ _ hbt)
  | sub β id lo len A n c wd hbt => intro β' hb; exact .sub β' id lo len A n c wd (hb _ _ hbt)
  | fn β f cs vs hl _ ih => intro β' hb; exact .fn β' f cs vs hl fun j c u hc hu => ih j c u hc hu hb

theorem VRels.mono {β β' : Bet} {w w' : World} {S S' : Nat → Prop} {cs : List AV} {vs : List Value} (h : VRels w S β cs vs)
    (hS : ∀ b, S b → S' b) (hw : ∀ b, S b → w'.heap[b]? = w.heap[b]?) (hb : ∀ id x, β id = some x → β' id = some x) : VRels w' S' β' cs vs :=
  ⟨h.1, fun j c u hc hu => (h.2 j c u hc hu).mono hS hw hb⟩

theorem VRels.nil {β : Bet} {w : World} {S : Nat → Prop} : VRels w S β [] [] := ⟨rfl, fun j c u hc => by simp at hc⟩
theorem VRels.cons {β : Bet} {w : World} {S : Nat → Prop} {c : AV} {cs : List AV} {v : Value} {vs : List Value} (h : VRel w S β c v) (hs : VRels w S β cs vs) : VRels w S β (c :: cs) (v :: vs) := by
  refine ⟨by simp [hs.1], fun j x u hx hu => ?_⟩
  cases j with
  | zero => simp at hx hu; subst hx; subst hu; exact h
  | succ j => simp at hx hu; exact hs.2 j x u hx hu
theorem VRels.inv {β : Bet} {w : World} {S : Nat → Prop} {c : AV} {cs : List AV} {vs : List Value} (h : VRels w S β (c :: cs) vs) : ∃ v vs', vs = v :: vs' ∧ VRel w S β c v ∧ VRels w S β cs vs' := by
  cases vs with
  | nil => have := h.1; simp at this
  | cons v vs' => exact ⟨v, vs', rfl, h.2 0 c v rfl rfl, by have := h.1; simpa using this, fun j x u hx hu => h.2 (j + 1) x u (by simpa using hx) (by simpa using hu)⟩
theorem VRels.inv_nil {β : Bet} {w : World} {S : Nat → Prop} {vs : List Value} (h : VRels w S β [] vs) : vs = [] := List.eq_nil_of_length_eq_zero (by simpa using h.1)
theorem VRels.append {β : Bet} {w : World} {S : Nat → Prop} {cs ds : List AV} {vs us : List Value} (h : VRels w S β cs vs) (h' : VRels w S β ds us) : VRels w S β (cs ++ ds) (vs ++ us) := by
  induction cs generalizing vs with
  | nil => rw [h.inv_nil]; simpa using h'
  | cons c cs ih => obtain ⟨v, vs', rfl, hv, hvs⟩ := h.inv; exact VRels.cons hv (ih hvs)
theorem VRels.drop {β : Bet} {w : World} {S : Nat → Prop} {cs : List AV} {vs : List Value} (h : VRels w S β cs vs) (n : Nat) : VRels w S β (cs.drop n) (vs.drop n) :=
  ⟨by simp [h.1], fun j c u hc hu => h.2 (n + j) c u (by simpa using hc) (by simpa using hu)⟩
theorem VRels.take {β : Bet} {w : World} {S : Nat → Prop} {cs : List AV} {vs : List Value} (h : VRels w S β cs vs) (n : Nat) : VRels w S β (cs.take n) (vs.take n) := by
  refine ⟨by simp [h.1], fun j c u hc hu => ?_⟩
  rw [List.getElem?_take] at hc hu
  split at hc
  · rename_i hj; rw [if_pos hj] at hu; exact h.2 j c u hc hu
  · cases hc
theorem VRels.at_ {β : Bet} {w : World} {S : Nat → Prop} {cs : List AV} {vs : List Value} (h : VRels w S β cs vs) {j : Nat} {c : AV} (hc : cs[j]? = some c) : ∃ u, vs[j]? = some u ∧ VRel w S β c u := by
  have hj : j < vs.length := by rw [h.1]; exact (List.getElem?_eq_some_iff.1 hc).1
  exact ⟨vs[j], List.getElem?_eq_getElem hj, h.2 j c _ hc (List.getElem?_eq_getElem hj)⟩

/-- A value of one cell is no aggregate. -/
theorem VRel.laid {β : Bet} {w : World} {S : Nat → Prop} {c : AV} {v : Value} (h : VRel w S β c v) (hb : c.laidB = true) (hown : ∀ id x, β id = some x → x.1.oneCell' = true) :
    ∃ us : List Value, v.cells = us.toArray ∧ VRels w S β c.cells us ∧ ∀ u ∈ us, u.oneCell' = true := by
  have one : ∀ (c : AV) (v : Value), c.cells = [c] → v.cells = #[v] → v.oneCell' = true → VRel w S β c v →
      ∃ us : List Value, v.cells = us.toArray ∧ VRels w S β c.cells us ∧ ∀ u ∈ us, u.oneCell' = true := fun c v hc hv h1 h =>
    ⟨[v], by simp [hv], by rw [hc]; exact VRels.cons h VRels.nil, by simpa using h1⟩
  cases h with
  | unk _ v => simp [AV.laidB] at hb
  | undef _ => simp [AV.laidB] at hb
  | int _ k n => exact one _ _ rfl rfl rfl (.int _ k n)
  | bool _ b => exact one _ _ rfl rfl rfl (.bool _ b)
  | ubool _ b => exact one _ _ rfl rfl rfl (.ubool _ b)
  | str _ s => exact one _ _ rfl rfl rfl (.str _ s)
  | agg _ cs vs hl h1 h => exact ⟨vs, rfl, ⟨hl, h⟩, h1⟩
  | tup _ cs vs hl h => simp [AV.laidB] at hb
  | slv _ s es A c a xs hs hc hm hA hl h1 hx h => exact one _ _ rfl rfl rfl (.slv _ s es A c a xs hs hc hm hA hl h1 hx h)
  | slz _ s A => exact one _ _ rfl rfl rfl (.slz _ s A)
  | eref _ s es i off a xs hi hs hSa hl h1 hx h => exact one _ _ rfl rfl rfl (.eref _ s es i off a xs hi hs hSa hl h1 hx h)
  | ref _ cs a xs hSa hl h1 hx h => exact one _ _ rfl rfl rfl (.ref _ cs a xs hSa hl h1 hx h)
  | ptr _ id off g wd hbt => exact one _ _ rfl rfl rfl (.ptr _ id off g wd hbt)
  | eptr _ id i off g n c wd hbt => exact one _ _ rfl rfl rfl (.eptr _ id i off g n c wd hbt)
  | own _ id v wd hbt =>
    have h1 := hown _ _ hbt
    have hv : v.cells = #[v] := by cases v <;> first | rfl | (simp [Value.oneCell'] at h1)
    exact one _ _ rfl hv h1 (.own _ id v wd hbt)
  | sub _ id lo len A n c wd hbt => exact one _ _ rfl rfl rfl (.sub _ id lo len A n c wd hbt)
  | fn _ f cs vs hl h => exact one _ _ rfl rfl rfl (.fn _ f cs vs hl h)

/-! ### Shapes -/
theorem hass_length : ∀ (l : List Sh) (cs : List AV), hass l cs = true → cs.length = l.length
  | [], [], _ => rfl
  | [], _ :: _, h => by simp [hass] at h
  | _ :: _, [], h => by simp [hass] at h
  | s :: l, c :: cs, h => by simp [hass] at h; simp [hass_length l cs h.2]
theorem has1_cells (s : Sh) (v : AV) (h : has1 s v = true) : v.cells = [v] ∧ s.cells = [s] := by
  cases s <;> cases v <;> simp [has1] at h <;> exact ⟨rfl, rfl⟩
theorem hasSh_hass (s : Sh) (v : AV) (h : hasSh s v = true) : hass s.cells v.cells = true := by
  have one : ∀ s : Sh, has1 s v = true → hass s.cells v.cells = true := fun s h' => by
    obtain ⟨e1, e2⟩ := has1_cells s v h'
    rw [e1, e2]
    simp [hass, h']
  cases s with
  | agg l => cases v <;> simp [hasSh] at h; exact h
  | other => cases v <;> simp [hasSh, has1] at h
  | int k => exact one (.int k) h
  | bool => exact one .bool h
  | str => exact one .str h
  | slice s => exact one (.slice s) h
theorem hasSh_width (s : Sh) (v : AV) (h : hasSh s v = true) : v.cells.length = s.width := hass_length _ _ (hasSh_hass s v h)

theorem Sh.beq_eq : ∀ (s t : Sh), Sh.beq s t = true → s = t := by
  intro s
  induction s using Sh.rec (motive_2 := fun l => ∀ l', Sh.beqs l l' = true → l = l') with
  | int k => intro t h; cases t <;> simp [Sh.beq] at h; rw [h]
  | bool => intro t h; cases t <;> simp [Sh.beq] at h; rfl
  | str => intro t h; cases t <;> simp [Sh.beq] at h; rfl
  | slice s ih => intro t h; cases t <;> simp [Sh.beq] at h; rw [ih _ h]
  | agg l ih => intro t h; cases t <;> simp [Sh.beq] at h; rw [ih _ h]
  | other => intro t h; cases t <;> simp [Sh.beq] at h
  | nil => rename_i l' h; cases l' <;> simp [Sh.beqs] at h; rfl
  | cons a l iha ihl => rename_i l' h; cases l' <;> simp [Sh.beqs] at h; rw [iha _ h.1, ihl _ h.2]

end Go.Ev
