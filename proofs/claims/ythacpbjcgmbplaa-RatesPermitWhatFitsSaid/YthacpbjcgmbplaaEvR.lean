/-
  A region in whatever order its edges allow. Second part: two operations that no edge orders may change places.
-/
import Derived.Test.YthacpbjcgmbplaaEvO
/-
  Code, calls: what the evaluator says of a function is so.
-/
namespace Go.Ev
open Go.RowKit

section norm
variable {w0 w : World} {S0 : Nat → Prop} {B : Ctx} {st : St} {a : Act}

theorem RelX.mask (h : RelX w0 S0 B st a w) (slots ids : List Nat) : RelX w0 S0 B (mask slots ids st) a w := by
  obtain ⟨S, β, og, hR, hO⟩ := h
  exact ⟨S, _, og, hR.mask slots ids, hO⟩

theorem getD_some {tm : List AV} {t : Nat} {v : AV} (h : tm.getD t .unk = v) (hne : v ≠ .unk) : tm[t]? = some v := by
  cases ht : tm[t]? with
  | none => simp [List.getD, ht] at h; exact absurd h.symm hne
  | some c => simp [List.getD, ht] at h; rw [h]

theorem arr_set_self {tmps : Array Value} {i : Nat} (h : i < tmps.size) : tmps.setIfInBounds i tmps[i] = tmps := by
  apply Array.ext'
  rw [Array.toList_setIfInBounds]
  have := List.set_getElem_self (as := tmps.toList) (i := i) (by simpa using h)
  simpa using this

theorem RelX.home1 (h : RelX w0 S0 B st a w) (x : Nat × Nat × TypeId) : RelX w0 S0 B (home1 st x) a w := by
  obtain ⟨S, β, og, hR, hO⟩ := h
  unfold Go.Ev.home1
  split
  · exact RelX.mask ⟨S, β, og, hR, hO⟩ _ _
  split
  · exact ⟨S, β, og, hR, hO⟩
  · rename_i hc
    have hf : Fresh x.2.1 st.used := by
      simp only [Bool.or_eq_true, not_or, Bool.not_eq_true] at hc
      exact ⟨by simpa using hc.1, Nat.lt_of_not_le fun h => by rw [Nat.ble_eq_true_of_le h] at hc; simp at hc⟩
    split
    · rename_i id hid
      split
      · rename_i r hl
        obtain ⟨h1, h2⟩ := hR.rename hl hf
        have ht := getD_some hid (by simp)
        obtain ⟨u, hu, hv⟩ := hR.tm.at_ ht
        have := h1.put (some x.1) (v := .own x.2.1) (u := u) (h2 u hv)
        have hput : (a.put (some x.1) u) = a := by
          obtain ⟨hlt, he⟩ := List.getElem?_eq_some_iff.1 hu
          have hlt' : x.1 < a.tmps.size := by simpa using hlt
          have he' : a.tmps[x.1] = u := by simpa using he
          simp only [Act.put]
          congr 1
          rw [← he']
          exact arr_set_self hlt'
        rw [hput] at this
        exact ⟨S, _, _, this, hO⟩
      · exact ⟨S, β, og, hR, hO⟩
    · rename_i s hs
      split
      · rename_i hw
        have ht := getD_some hs (by simp)
        obtain ⟨u, hu, hv⟩ := hR.tm.at_ ht
        cases hv with
        | slz _ _ A =>
          obtain ⟨h1, h2⟩ := hR.promote x.2.2 A hf (by rw [Nat.blt_eq] at hw; exact hw)
          have := h1.put (some x.1) (v := .own x.2.1) (u := .slice A 0 0) h2
          have hput : (a.put (some x.1) (.slice A 0 0)) = a := by
            obtain ⟨hlt, he⟩ := List.getElem?_eq_some_iff.1 hu
            have hlt' : x.1 < a.tmps.size := by simpa using hlt
            have he' : a.tmps[x.1] = .slice A 0 0 := by simpa using he
            simp only [Act.put]
            congr 1
            rw [← he']
            exact arr_set_self hlt'
          rw [hput] at this
          exact ⟨S, _, _, this, hO⟩
      · exact ⟨S, β, og, hR, hO⟩
    · rename_i id n hs
      split
      · rename_i s e es csp hl
        split
        · rename_i hle
          have hle' : n ≤ es.length := Nat.le_of_ble_eq_true hle
          have ht := getD_some hs (by simp)
          obtain ⟨u, hu, hv⟩ := hR.tm.at_ ht
          have hrow := hR.row id _ hl
          obtain ⟨A, c, hbt, hc, hcl, hA⟩ := arr_val hrow
          have huv := sub_val hbt hv
          have hu1 : u = .slice A n c := by
            rw [huv]
            rcases Nat.eq_zero_or_pos c with h0 | h0
            · rw [if_pos h0]; rfl
            · obtain ⟨g, rfl, _⟩ := hA h0
              rw [if_neg (by omega)]
              simp [Addr.add]
          have hfree := hrow.free rfl
          have hN := hR.moved (site := x.2.1) (id := id) hf none (World.grownBy.refl w _) hfree (x := u) (wd := s.width) (o' := og id) (v := .unk) (u := undef) (r1 := .arr false s e (es.take n) none) (by rw [hu1]; rfl) (fun g hg => ⟨.inl hg, hR.lt id g hg⟩) ?_ (.unk _ _)
          · have := hN.put (some x.1) (v := .own x.2.1) (u := u) (.own _ _ _ _ (upd_same _ _ _))
            have hput : ((a.put none undef).put (some x.1) u) = a := by
              obtain ⟨hlt, he⟩ := List.getElem?_eq_some_iff.1 hu
              have hlt' : x.1 < a.tmps.size := by simpa using hlt
              have he' : a.tmps[x.1] = u := by simpa using he
              simp only [Act.put]
              congr 1
              rw [← he']
              exact arr_set_self hlt'
            rw [hput] at this
            exact ⟨S, _, _, this, hO⟩
          · obtain ⟨hp, v, sp, xs, hshS, hcs, hbt', h1, hvs, hor⟩ := hrow
            rw [hbt] at hbt'
            simp only [Option.some.injEq, Prod.mk.injEq, and_true] at hbt'
            subst hbt'
            have hsplit : es.take n ++ (es.drop n ++ sp) = es ++ sp := by rw [← List.append_assoc, List.take_append_drop]
            have hlt : (es.take n).length = n := by rw [List.length_take]; omega
            have hld : (es.drop n ++ sp).length = es.length - n + sp.length := by simp
            refine ⟨hp, u, es.drop n ++ sp, xs, by rw [hsplit]; exact hshS, (fun c h => by cases h), upd_same _ _ _, h1, by rw [hsplit]; exact hvs, ?_⟩
            rcases hor with ⟨rfl, rfl, ho, A', hA'⟩ | ⟨g, ho, hvv, hBg, hh, hmx, hi1, _⟩
            · cases hA'
              refine .inl ⟨by simp, by simp, ho, A, ?_⟩
              rw [hu1]
              simp at hle'
              rw [hle']
            · cases hvv
              refine .inr ⟨g, ho, ?_, hBg, hh, ?_, hi1, (fun h => by cases h)⟩
              · rw [hu1, hlt, hld]; congr 1; omega
              · rw [hlt, hld]; omega
        · exact ⟨S, β, og, hR, hO⟩
      · exact ⟨S, β, og, hR, hO⟩
    · exact ⟨S, β, og, hR, hO⟩

/-- A variable's cell is described otherwise. -/
theorem Rel.setBox {S : Nat → Prop} {β : Bet} {og : Nat → Option Nat} (h : Rel w S B β og st a) {b c : Nat} {im : Bool} {cs : List AV} {v v' : AV} (hl : lookup st.rows b = some (.box im cs)) (hv : cs[c]? = some v) (hvv : ∀ u, VRel w S β v u → VRel w S β v' u) :
    Rel w S B β og ⟨st.tm, setRow st.rows b (.box im (cs.set c v')), st.used⟩ a := by
  refine ⟨h.tm, h.df, fun i y hy => ?_, h.inj, h.lt, h.used, h.one, h.Slt, h.Ble, h.pid⟩
  rw [lookup_setRow] at hy
  by_cases e : i = b
  · subst e
    simp only [if_pos] at hy
    cases hy
    obtain ⟨g, vs, t, ho, hb, hh, h1, hvs, rest⟩ := h.row i _ hl
    refine ⟨g, vs, t, ho, hb, hh, h1, ?_, rest⟩
    obtain ⟨u, hu, hr⟩ := hvs.at_ hv
    have := hvs.set c (hvv u hr)
    obtain ⟨hlt, he⟩ := List.getElem?_eq_some_iff.1 hu
    rwa [← he, List.set_getElem_self hlt] at this
  · rw [if_neg e] at hy
    exact h.row i y hy

/-- The same of the element of an array that is held apart. -/
theorem Rel.setFoc {S : Nat → Prop} {β : Bet} {og : Nat → Option Nat} (h : Rel w S B β og st a) {b c : Nat} {im : Bool} {s : Sh} {e : TypeId} {pre cs post : List AV} {v v' : AV} (hl : lookup st.rows b = some (.foc im s e pre cs post)) (hv : cs[c]? = some v) (hvv : ∀ u, VRel w S β v u → VRel w S β v' u) :
    Rel w S B β og ⟨st.tm, setRow st.rows b (.foc im s e pre (cs.set c v') post), st.used⟩ a := by
  refine ⟨h.tm, h.df, fun i y hy => ?_, h.inj, h.lt, h.used, h.one, h.Slt, h.Ble, h.pid⟩
  rw [lookup_setRow] at hy
  by_cases e' : i = b
  · subst e'
    simp only [if_pos] at hy
    cases hy
    obtain ⟨hp, hcl, g, sp, xs, us, ys, h1, h2, ho, hb, h3, vx, vu, vy, rest⟩ := h.row i _ hl
    refine ⟨hp, by rw [List.length_set]; exact hcl, g, sp, xs, us, ys, h1, h2, ho, hb, h3, vx, ?_, vy, rest⟩
    obtain ⟨u, hu, hr⟩ := vu.at_ hv
    have := vu.set c (hvv u hr)
    obtain ⟨hlt, he⟩ := List.getElem?_eq_some_iff.1 hu
    rwa [← he, List.set_getElem_self hlt] at this
  · rw [if_neg e'] at hy
    exact h.row i y hy

theorem RelX.home2 (h : RelX w0 S0 B st a w) (x : Nat × Nat × Nat × TypeId) : RelX w0 S0 B (home2 st x) a w := by
  obtain ⟨S, β, og, hR, hO⟩ := h
  unfold Go.Ev.home2
  split
  · exact ⟨S, β, og, hR, hO⟩
  · rename_i hc
    have hf : Fresh x.2.2.1 st.used := by
      simp only [Bool.or_eq_true, not_or, Bool.not_eq_true] at hc
      exact ⟨by simpa using hc.1, Nat.lt_of_not_le fun h => by rw [Nat.ble_eq_true_of_le h] at hc; simp at hc⟩
    split
    · rename_i im cs hb
      have hbu : x.1 ≠ x.2.2.1 := by
        intro e
        obtain ⟨g, vs, t, _, hbt, _⟩ := hR.row x.1 _ hb
        exact hf.1 (by rw [← e]; exact hR.used _ _ hbt)
      split
      · rename_i id hid
        split
        · rename_i r hl
          split
          · exact ⟨S, β, og, hR, hO⟩
          · rename_i hne
            obtain ⟨h1, h2⟩ := hR.rename hl hf
            have ht := getD_some hid (by simp)
            refine ⟨S, _, _, h1.setBox (b := x.1) (c := x.2.1) (im := im) (cs := cs) (v := .own id) ?_ ht ?_, hO⟩
            · show lookup (setRow (delRow st.rows id) x.2.2.1 r) x.1 = _
              rw [lookup_setRow, if_neg hbu, lookup_delRow, if_neg (fun e => hne e.symm)]
              exact hb
            · intro u hu
              cases hu with
              | own _ _ _ wd hbt =>
                refine h2 u ?_
                by_cases e : id = x.2.2.1
                · exfalso
                  have h0 := hR.row id r hl
                  cases r with
                  | box _ _ => obtain ⟨_, _, _, _, hbt', _⟩ := h0; exact hf.1 (by rw [← e]; exact hR.used _ _ hbt')
                  | arr _ _ _ _ _ => obtain ⟨_, _, _, _, _, _, hbt', _⟩ := h0; exact hf.1 (by rw [← e]; exact hR.used _ _ hbt')
                  | foc _ _ _ _ _ _ => obtain ⟨_, _, _, _, _, _, _, _, _, _, hbt', _⟩ := h0; exact hf.1 (by rw [← e]; exact hR.used _ _ hbt')
                · rw [upd_other _ _ _ _ e] at hbt
                  exact .own _ id u wd hbt
        · exact ⟨S, β, og, hR, hO⟩
      · rename_i s hs
        split
        · rename_i hw
          have ht := getD_some hs (by simp)
          obtain ⟨g, vs, t, hog, hbt, hhh, h1c, hvs, hrest⟩ := hR.row x.1 _ hb
          obtain ⟨u, hu, hv⟩ := hvs.at_ ht
          cases hv with
          | slz _ _ A =>
            obtain ⟨h1, h2⟩ := hR.promote x.2.2.2 A hf (by rw [Nat.blt_eq] at hw; exact hw)
            have hβ : ∀ i y, β i = some y → upd β x.2.2.1 (some (.slice A 0 0, s.width)) i = some y := fun i y hy => by
              have hne : i ≠ x.2.2.1 := fun e => hf.1 (by rw [← e]; exact hR.used i y hy)
              rw [upd_other _ _ _ _ hne]; exact hy
            refine ⟨S, _, _, ⟨h1.tm, h1.df, fun i y hy => ?_, h1.inj, h1.lt, h1.used, h1.one, h1.Slt, h1.Ble, h1.pid⟩, hO⟩
            rw [lookup_setRow] at hy
            by_cases e : i = x.1
            · subst e
              simp only [if_pos] at hy
              cases hy
              rw [upd_other _ _ _ _ hbu]
              refine ⟨g, vs, t, hog, hβ _ _ hbt, hhh, h1c, ?_, hrest⟩
              have := (hvs.mono (fun _ h => h) (fun _ _ => rfl) hβ).set x.2.1 h2
              obtain ⟨hlt, he⟩ := List.getElem?_eq_some_iff.1 hu
              have hsame : vs.set x.2.1 (.slice A 0 0) = vs := by rw [← he]; exact List.set_getElem_self hlt
              rw [hsame] at this
              exact this
            · rw [if_neg e] at hy
              exact h1.row i y hy
        · exact ⟨S, β, og, hR, hO⟩
      · exact ⟨S, β, og, hR, hO⟩
    · rename_i im s e pre cs post hb
      have hbu : x.1 ≠ x.2.2.1 := by
        intro e
        obtain ⟨_, _, _, _, _, _, _, _, _, _, hbt, _⟩ := hR.row x.1 _ hb
        exact hf.1 (by rw [← e]; exact hR.used _ _ hbt)
      split
      · rename_i id hid
        split
        · rename_i r hl
          split
          · exact ⟨S, β, og, hR, hO⟩
          · rename_i hne
            obtain ⟨h1, h2⟩ := hR.rename hl hf
            have ht := getD_some hid (by simp)
            refine ⟨S, _, _, h1.setFoc (b := x.1) (c := x.2.1) (im := im) (cs := cs) (v := .own id) ?_ ht ?_, hO⟩
            · show lookup (setRow (delRow st.rows id) x.2.2.1 r) x.1 = _
              rw [lookup_setRow, if_neg hbu, lookup_delRow, if_neg (fun e => hne e.symm)]
              exact hb
            · intro u hu
              cases hu with
              | own _ _ _ wd hbt =>
                refine h2 u ?_
                by_cases e : id = x.2.2.1
                · exfalso
                  have h0 := hR.row id r hl
                  cases r with
                  | box _ _ => obtain ⟨_, _, _, _, hbt', _⟩ := h0; exact hf.1 (by rw [← e]; exact hR.used _ _ hbt')
                  | arr _ _ _ _ _ => obtain ⟨_, _, _, _, _, _, hbt', _⟩ := h0; exact hf.1 (by rw [← e]; exact hR.used _ _ hbt')
                  | foc _ _ _ _ _ _ => obtain ⟨_, _, _, _, _, _, _, _, _, _, hbt', _⟩ := h0; exact hf.1 (by rw [← e]; exact hR.used _ _ hbt')
                · rw [upd_other _ _ _ _ e] at hbt
                  exact .own _ id u wd hbt
        · exact ⟨S, β, og, hR, hO⟩
      · exact ⟨S, β, og, hR, hO⟩
    · exact ⟨S, β, og, hR, hO⟩

theorem foldl_rel {α : Type} {f : St → α → St} (hf : ∀ st x, RelX w0 S0 B st a w → RelX w0 S0 B (f st x) a w) : ∀ (l : List α) (st : St), RelX w0 S0 B st a w → RelX w0 S0 B (l.foldl f st) a w
  | [], _, h => h
  | x :: l, st, h => foldl_rel hf l _ (hf st x h)

theorem RelX.norm (h : RelX w0 S0 B st a w) (N : Norm) : RelX w0 S0 B (norm N st) a w := by
  unfold Go.Ev.norm
  refine RelX.mask (foldl_rel (fun st x h => RelX.home2 h x) _ _ (foldl_rel (fun st x h => RelX.home1 h x) _ _ ?_)) _ _
  exact h.mask _ _

theorem setAll_at : ∀ (is : List Nat) (vs tm : List AV) (j : Nat) (v : AV), (setAll tm is vs)[j]? = some v → tm[j]? = some v ∨ ∃ n : Nat, is[n]? = some j ∧ vs[n]? = some v
  | [], vs, tm, j, v, h => by simp only [setAll] at h; exact .inl h
  | i :: is, [], tm, j, v, h => by simp [setAll] at h; exact .inl h
  | i :: is, x :: vs, tm, j, v, h => by
    simp only [setAll] at h
    rcases setAll_at is vs _ j v h with h | ⟨n, h1, h2⟩
    · rw [List.getElem?_set] at h
      split at h
      · rename_i e
        split at h
        · cases h; exact .inr ⟨0, by simp [e], rfl⟩
        · cases h
      · exact .inl h
    · exact .inr ⟨n + 1, by simpa using h1, by simpa using h2⟩
theorem setAll_length : ∀ (is : List Nat) (vs tm : List AV), (setAll tm is vs).length = tm.length
  | [], vs, tm => by simp only [setAll]
  | i :: is, [], tm => rfl
  | i :: is, x :: vs, tm => by simp [setAll, setAll_length is vs]
theorem lookup_putRows (rows : List (Nat × Row)) : ∀ (is : List Nat) (id : Nat) (r : Row), lookup (putRows is (is.map fun i => lookup rows i)) id = some r → lookup rows id = some r
  | [], id, r, h => by simp [putRows, lookup] at h
  | i :: is, id, r, h => by
    simp only [List.map_cons] at h
    cases hl : lookup rows i with
    | none => rw [hl] at h; exact lookup_putRows rows is id r h
    | some x =>
      rw [hl] at h
      simp only [putRows, lookup] at h
      split at h
      · rename_i e; cases h; rw [← e]; exact hl
      · exact lookup_putRows rows is id r h
theorem maskFrom_length (keep ids : List Nat) : ∀ (i : Nat) (tm : List AV), (maskFrom keep ids i tm).length = tm.length
  | _, [] => rfl
  | i, v :: vs => by simp [maskFrom, maskFrom_length keep ids (i + 1) vs]
theorem home1_length (st : St) (x : Nat × Nat × TypeId) : (home1 st x).tm.length = st.tm.length := by
  unfold home1
  repeat' split
  all_goals simp [dropRow, mask, maskFrom_length]
theorem home2_length (st : St) (x : Nat × Nat × Nat × TypeId) : (home2 st x).tm.length = st.tm.length := by
  unfold home2
  repeat' split
  all_goals rfl
theorem foldl_length {α : Type} {f : St → α → St} (hf : ∀ st x, (f st x).tm.length = st.tm.length) : ∀ (l : List α) (st : St), (l.foldl f st).tm.length = st.tm.length
  | [], _ => rfl
  | x :: l, st => by rw [List.foldl_cons, foldl_length hf l, hf]
theorem norm_length (N : Norm) (st : St) : (norm N st).tm.length = st.tm.length := by
  unfold norm mask
  simp only [maskFrom_length]
  rw [foldl_length home2_length, foldl_length home1_length]
  simp only [maskFrom_length]

/-- The slots and rows that a loop keeps. -/
theorem RelX.expand (h : RelX w0 S0 B st a w) (N : Norm) (hl : st.tm.length = N.len) : RelX w0 S0 B (Go.Ev.expand N (valsOf N (Go.Ev.norm N st)) (rowsN N (Go.Ev.norm N st))) a w := by
  obtain ⟨S, β, og, hR, hO⟩ := h.norm N
  refine ⟨S, β, og, ⟨⟨?_, fun j c u hc hu => ?_⟩, hR.df, fun id r hr => hR.row id r (lookup_putRows _ _ _ _ hr), hR.inj, hR.lt, fun id x hx => ?_, hR.one, hR.Slt, hR.Ble, hR.pid⟩, hO⟩
  · simp only [Go.Ev.expand, setAll_length, List.length_replicate]
    rw [hR.tm.1, norm_length, hl]
  · rcases setAll_at _ _ _ _ _ hc with h1 | ⟨n, h1, h2⟩
    · have := (List.mem_replicate.1 (List.mem_of_getElem? h1)).2
      subst this
      exact .unk _ _
    · simp only [valsOf, List.getElem?_map, h1, Option.map_some, Option.some.injEq] at h2
      rw [← h2]
      cases hj : (Go.Ev.norm N st).tm[j]? with
      | none => simp only [List.getD, hj, Option.getD_none]; exact .unk _ _
      | some c' => simp only [List.getD, hj, Option.getD_some]; exact hR.tm.2 j c' u hj hu
  · exact hR.used id x hx

end norm

section code
variable {P : Program} {w0 : World} {S0 : Nat → Prop} {B : Ctx} {Γ : Env} {K : List (Nat × Loop)}

def exOf : Ex → Exit
  | .normal => .normal
  | .exit id => .exit id
  | .ret => .ret

/-- A region in whatever order its edges allow. -/
def DrawOK (P : Program) (Γ : Env) : Prop :=
  ∀ (ρ : Type) (w0 : World) (S0 : Nat → Prop) (B : Ctx) (id : Nat) (ops : Array Oper) (k : St → Option ρ) (r : ρ) (st : St) (a : Act) (w : World) (Q : Exit → Act → World → Prop), ops.size ≤ 64 → regOK Γ ops st.tm = true → id < 67108864 →
    evOps P Γ id ops.toList (some (ancTab ops.toList)) k 0 ops.toList st = some r → RelX w0 S0 B st a w → (∀ st a w, k st = some r → RelX w0 S0 B st a w → Q .normal a w) → (Code.region id ops true).wp P Q a w

/-! ### Loops -/
def LoopOK (P : Program) (Γ : Env) (K : List (Nat × Loop)) (b : Code) (l : Loop) : Prop :=
  (∀ (ρ : Type) (vs : List AV) (rs : List (Option Row)) (k : Ex → List AV → List (Option Row) → Option ρ) (r : ρ), l.L ρ vs rs k = some r →
    ∃ m p, iter l.N (fun st => evC P Γ K b (Ex × St) st fun e st' => some (e, st')) m vs rs = some p ∧ k p.1 p.2.1 p.2.2 = some r) ∧
  ∀ (ρ : Type) (vs : List AV) (rs : List (Option Row)) (k : Ex → List AV → List (Option Row) → Option ρ), l.L ρ vs rs k = (l.L (Ex × List AV × List (Option Row)) vs rs fun e v x => some (e, v, x)).bind fun q => k q.1 q.2.1 q.2.2
def KOK (P : Program) (Γ : Env) (K : List (Nat × Loop)) (c : Code) : Prop := ∀ b ∈ loopsOf c, ∀ l, findIn K (firstRegion b) = some l → LoopOK P Γ K b l
theorem KOK.seqL {c d : Code} (h : KOK P Γ K (.seq c d)) : KOK P Γ K c := fun b hb => h b (by simp [loopsOf, hb])
theorem KOK.seqR {c d : Code} (h : KOK P Γ K (.seq c d)) : KOK P Γ K d := fun b hb => h b (by simp [loopsOf, hb])
theorem KOK.condL {x : Operand} {c d : Code} (h : KOK P Γ K (.cond x c d)) : KOK P Γ K c := fun b hb => h b (by simp [loopsOf, hb])
theorem KOK.condR {x : Operand} {c d : Code} (h : KOK P Γ K (.cond x c d)) : KOK P Γ K d := fun b hb => h b (by simp [loopsOf, hb])
theorem KOK.block {i : Nat} {c : Code} (h : KOK P Γ K (.block i c)) : KOK P Γ K c := fun b hb => h b (by simp [loopsOf, hb])
theorem KOK.loop {c : Code} (h : KOK P Γ K (.loop c)) : KOK P Γ K c := fun b hb => h b (by simp [loopsOf, hb])

theorem evC_sound (hΓ : GOK P Γ) (hD : DrawOK P Γ) : ∀ (c : Code), KOK P Γ K c → ∀ (ρ : Type) (st : St) (k : Ex → St → Option ρ) (r : ρ) (a : Act) (w : World) (Q : Exit → Act → World → Prop), evC P Γ K c ρ st k = some r → RelX w0 S0 B st a w →
    (∀ e st a w, k e st = some r → RelX w0 S0 B st a w → Q (exOf e) a w) → c.wp P Q a w := by
  intro c
  induction c with
  | skip => intro _ ρ st k r a w Q h hR hk; exact wp_skip (hk .normal st a w h hR)
  | label l => intro _ ρ st k r a w Q h hR hk; exact wp_label (hk .normal st a w h hR)
  | region id ops draw =>
    intro hKc ρ st k r a w Q h hR hk
    simp only [evC] at h
    split at h
    · rename_i hsz
      split at h
      · rename_i hd
        split at h
        · rename_i hok
          subst hd
          simp only [Bool.and_eq_true] at hok
          exact hD ρ w0 S0 B id ops _ r st a w Q (Nat.le_of_ble_eq_true hsz) hok.1 (Nat.blt_eq ▸ hok.2) h hR (fun st a w hs hx => hk .normal st a w hs hx)
        · cases h
      · rename_i hd
        have hd' : draw = false := by simpa using hd
        subst hd'
        exact wp_region_list (evOps_sound hΓ (fun st a w hs hx => hk .normal st a w hs hx) ops.toList 0 st a w h hR)
    · cases h
  | seq x z ihx ihz =>
    intro hKc ρ st k r a w Q h hR hk
    refine wp_seq (ihx hKc.seqL ρ st _ r a w _ h hR fun e st' a' w' he hx => ?_)
    cases e with
    | normal => exact ihz hKc.seqR ρ st' k r a' w' Q he hx hk
    | exit id => exact hk (.exit id) st' a' w' he hx
    | ret => exact hk .ret st' a' w' he hx
  | cond c x z ihx ihz =>
    intro hKc ρ st k r a w Q h hR hk
    simp only [evC] at h
    split at h
    · rename_i t hc
      have hcv : a.eval c = .bool t := by
        obtain ⟨S, β, og, hR', _⟩ := hR
        have := val_rel hR'.tm c
        rw [hc] at this
        exact this.bool_inv
      refine wp_cond hcv ?_
      cases t with
      | true => exact ihx hKc.condL ρ st k r a w Q h hR hk
      | false => exact ihz hKc.condR ρ st k r a w Q h hR hk
    · rename_i hc
      split at h
      · obtain ⟨h1, h2⟩ := both_some h
        obtain ⟨t, hcv⟩ : ∃ t, a.eval c = .bool t := by
          obtain ⟨S, β, og, hR', _⟩ := hR
          have := val_rel hR'.tm c
          rw [hc] at this
          generalize hu : a.eval c = u at this
          cases this with
          | ubool _ b => exact ⟨b, rfl⟩
        refine wp_cond hcv ?_
        cases t with
        | true => exact ihx hKc.condL ρ st k r a w Q h1 hR hk
        | false => exact ihz hKc.condR ρ st k r a w Q h2 hR hk
      · cases h
    · cases h
  | block id b ih =>
    intro hKc ρ st k r a w Q h hR hk
    refine wp_block (ih hKc.block ρ st _ r a w _ h hR fun e st' a' w' he hx => ?_)
    cases e with
    | normal => exact hk .normal st' a' w' he hx
    | ret => exact hk .ret st' a' w' he hx
    | exit i =>
      simp only at he
      simp only [exOf, Exit.inBlock]
      split at he
      · rename_i e; rw [if_pos e]; exact hk .normal st' a' w' he hx
      · rename_i e; rw [if_neg e]; exact hk (.exit i) st' a' w' he hx
  | loop b ih =>
    intro hKc ρ st k r a w Q h hR hk
    simp only [evC] at h
    split at h
    · rename_i l hl
      split at h
      · rename_i hlen
        have hlen' : st.tm.length = l.N.len := Nat.eq_of_beq_eq_true hlen
        rw [St.force_eq] at h
        obtain ⟨m, p, hp, hkp⟩ := (hKc b (by simp [loopsOf]) l hl).1 ρ _ _ _ r h
        refine wp_loop_rounds m ?_
        have key : ∀ m vs rs a w, iter l.N (fun st => evC P Γ K b (Ex × St) st fun e st' => some (e, st')) m vs rs = some p → RelX w0 S0 B (expand l.N vs rs) a w → Code.rounds P b Q m a w := by
          intro m
          induction m with
          | zero => intro vs rs a w hi; simp [iter] at hi
          | succ m ihm =>
            intro vs rs a w hi hR
            rw [rounds_succ]
            simp only [iter] at hi
            cases hb : evC P Γ K b (Ex × St) (expand l.N vs rs) fun e st' => some (e, st') with
            | none => simp [hb] at hi
            | some q =>
              simp only [hb] at hi
              split at hi
              · rename_i hql
                have hql' : q.2.tm.length = l.N.len := Nat.eq_of_beq_eq_true hql
                refine ih hKc.loop (Ex × St) _ _ q a w _ hb hR fun e st' a' w' he hx => ?_
                simp only [Option.some.injEq] at he
                subst he
                have hout : RelX w0 S0 B (expand l.N (valsOf l.N (norm l.N st')) (rowsN l.N (norm l.N st'))) a' w' := hx.expand l.N hql'
                cases e with
                | normal => exact ihm _ _ a' w' hi hout
                | exit id => simp only [Option.some.injEq] at hi; subst hi; exact hk (.exit id) _ a' w' hkp hout
                | ret => simp only [Option.some.injEq] at hi; subst hi; exact hk .ret _ a' w' hkp hout
              · cases hi
        exact key m _ _ a w hp (hR.expand l.N hlen')
      · cases h
    · cases h
  | exit id => intro _ ρ st k r a w Q h hR hk; exact wp_exit (hk (.exit id) st a w h hR)
  | ret => intro _ ρ st k r a w Q h hR hk; exact wp_ret (hk .ret st a w h hR)
  | rangeFunc f params assign body _ _ => intro _ ρ st k r a w Q h; simp [evC] at h
  | scope b _ => intro _ ρ st k r a w Q h; simp [evC] at h
  | goto l => intro _ ρ st k r a w Q h; simp [evC] at h
  | refuse why => intro _ ρ st k r a w Q h; simp [evC] at h

/-! ### Results -/
def resRun (tmps : Array Value) : ResultVar → Sem Value
  | .tmp t => pure (tmps.getD t undef)
  | .cell ad t => do loadVar t (← asAddr (tmps.getD ad undef))

theorem resultOf_sound {w : World} {S : Nat → Prop} {β : Bet} {og : Nat → Option Nat} {st : St} {a : Act} (hR : Rel w S B β og st a) {rv : ResultVar} {v : AV} (h : resultOf P st.rows st.tm rv = some v) :
    ∃ u, (resRun a.tmps rv).run P w = .ok u w ∧ VRel w S β v u := by
  cases rv with
  | tmp t =>
    simp only [resultOf, Option.some.injEq] at h
    subst h
    exact ⟨_, rfl, getD_rel hR.tm t⟩
  | cell t ty =>
    simp only [resultOf] at h
    have hg := getD_rel hR.tm t
    split at h
    · rename_i id off hp
      rw [hp] at hg
      split at h
      · rename_i im cs hl
        obtain ⟨g, vs, t', ho, hb, hh, h1, hvs, _⟩ := hR.row id _ hl
        generalize he : a.tmps.getD t undef = u at hg
        cases hg with
        | ptr _ _ _ g' wd hb' =>
          rw [hb] at hb'
          simp at hb'
          obtain ⟨rfl, _⟩ := hb'
          have hload := load_sound (P := P) (t := ty) (cs := cs.drop off) (z := fun x => some x) (r := v) (w := w) (S := S) (β := β) (ad := ⟨g, off, none⟩) (xs := vs.drop off) h (hvs.drop off) (fun u hu => h1 u (List.mem_of_mem_drop hu)) (fun j u hu => by
            rw [add_lit', row_cell (Lies.plain hh (m := true))]; simpa using hu)
          obtain ⟨v', u, hv', hvu, hrun⟩ := hload
          cases hv'
          refine ⟨u, ?_, hvu⟩
          simp only [resRun, he, asAddr, pure_bind]
          exact hrun
      · cases h
    · cases h

theorem resultsOf_sound {w : World} {S : Nat → Prop} {β : Bet} {og : Nat → Option Nat} {st : St} {a : Act} (hR : Rel w S B β og st a) : ∀ (rs : List ResultVar) (vs : List AV), resultsOf P st.rows st.tm rs = some vs →
    ∃ us, (rs.mapM (resRun a.tmps)).run P w = .ok us w ∧ VRels w S β vs us
  | [], vs, h => by simp [resultsOf] at h; subst h; exact ⟨[], by simp, VRels.nil⟩
  | rv :: rs, vs, h => by
    simp only [resultsOf] at h
    cases h1 : resultOf P st.rows st.tm rv with
    | none => simp [h1] at h
    | some v =>
      cases h2 : resultsOf P st.rows st.tm rs with
      | none => simp [h1, h2] at h
      | some vs' =>
        simp [h1, h2] at h
        subst h
        obtain ⟨u, hu, hvu⟩ := resultOf_sound hR h1
        obtain ⟨us, hus, hvs⟩ := resultsOf_sound hR rs vs' h2
        refine ⟨u :: us, ?_, VRels.cons hvu hvs⟩
        rw [List.mapM_cons]
        simp only [Sem.run_bind]
        rw [hu]
        simp only [Result.andThen_ok]
        rw [hus]
        rfl

theorem finish_sound {ρ : Type} {w : World} {st : St} {a : Act} (hX : RelX w0 S0 B st a w) {fn : Func} {k : AV → Option ρ} {r : ρ} (h : finish P fn st k = some r) :
    ∃ v u S', k v = some r ∧ (results fn a.tmps).run P w = .ok u w ∧ VRel w S' nob v u ∧ (∀ b, S' b → S0 b ∨ ¬ B b) ∧ (∀ b, S' b → b < w.heap.size) := by
  obtain ⟨S, β, og, hR, hO⟩ := hX
  rw [finish_eq] at h
  unfold finish0 at h
  cases h1 : resultsOf P st.rows st.tm fn.results.toList with
  | none => simp [h1] at h
  | some vs =>
    cases h2 : purL (pur1 st.rows depth) vs with
    | none => simp [h1, h2] at h
    | some p =>
      simp only [h1, h2] at h
      obtain ⟨us, hus, hvs⟩ := resultsOf_sound hR _ _ h1
      have hp := purL_sound (w := w) (S := S) (β := β) (og := og) (f := pur1 st.rows depth) (pur1_sound hR.row depth) _ _ _ h2 hvs
      replace hp := nzs_rel hp
      have hin : ∀ id ∈ p.2, ∃ r, lookup st.rows id = some r := purL_in (rows := st.rows) (pur1_in depth) _ _ h2
      have hOF := hO.freeze hR p.2 hin
      have hFr := hR.freeze p.2
      have hres : (results fn a.tmps).run P w = .ok (if h : us.toArray.size = 1 then us.toArray[0] else .tuple us.toArray) w := by
        show (do let vs ← fn.results.mapM (resRun a.tmps); pure (if h : vs.size = 1 then vs[0] else .tuple vs) : Sem Value).run P w = _
        rw [Array.mapM_eq_mapM_toList]
        simp only [Sem.run_bind, Sem.run_map]
        rw [hus]
        rfl
      refine ⟨_, _, With S og p.2, h, hres, ?_, hOF.sin, hFr.Slt⟩
      unfold one
      split
      · rename_i x hx
        rw [hx] at hp
        obtain ⟨u, us', rfl, hu, hn⟩ := hp.inv
        rw [hn.inv_nil]
        simpa using hu
      · rename_i hx
        have hne : us.length ≠ 1 := by
          rw [hp.1]
          intro hl
          match hq : AV.nzs p.1, hl with
          | [x], _ => exact hx x hq
        have : ¬ us.toArray.size = 1 := by simpa using hne
        rw [dif_neg this]
        exact .tup _ _ _ hp.1 hp.2

/-- WHAT THE EVALUATOR SAYS OF A FUNCTION IS SO. -/
theorem sumOK_of (hΓ : GOK P Γ) (hD : DrawOK P Γ) {f : FuncId} {fn : Func} (hfn : P.funcs[f]? = some fn) {F : Summ} (hF : ∀ ρ avs k r, F ρ avs k = some r → ∃ K, (∀ c, fn.body = some c → KOK P Γ K c) ∧ evF P Γ K fn ρ avs k = some r) : SumOK P f F := by
  intro ρ w S avs args k r hS hv hrun
  obtain ⟨K, hKc, he⟩ := hF ρ avs k r hrun
  unfold evF at he
  cases hb : fn.body with
  | none => simp [hb] at he
  | some c =>
    simp only [hb, St.force_eq] at he
    refine Goes.of hfn hb (calls_of_wp hfn hb ?_)
    have hrep : ∀ m, VRels w S nob (List.replicate m AV.undef) (List.replicate m undef) := by
      intro m
      induction m with
      | zero => exact VRels.nil
      | succ m ih => exact VRels.cons (.undef _) ih
    have hX : RelX w S ⟨fun b => b < w.heap.size, nob⟩ (St.mk (avs ++ List.replicate (fn.ntmps - avs.length) .undef) [] []) { tmps := args.toArray ++ Array.replicate (fn.ntmps - args.toArray.size) undef, defers := [] } w := by
      refine ⟨S, nob, fun _ => none, ⟨?_, rfl, fun id r hr => by simp [lookup] at hr, fun _ _ _ h => by (cases h), fun _ _ h => by (cases h), fun _ _ h => by (cases h), fun _ _ h => by (cases h), hS, fun _ h => h, fun _ _ _ h => by cases h⟩, ⟨Kept.refl _ _, fun _ h => .inl h, fun _ h => h⟩⟩
      have : (args.toArray ++ Array.replicate (fn.ntmps - args.toArray.size) undef).toList = args ++ List.replicate (fn.ntmps - avs.length) undef := by simp [hv.1]
      show VRels w S nob _ (args.toArray ++ Array.replicate (fn.ntmps - args.toArray.size) undef).toList
      rw [this]
      exact hv.append (hrep _)
    refine evC_sound hΓ hD c (hKc c hb) ρ _ _ _ _ w _ he hX fun e st' a' w' hk hx => ?_
    have fin : finish P fn st' k = some r → a'.defers = [] ∧ ∃ v, (results fn a'.tmps).run P w' = .ok v w' ∧ ∃ u v' S', Ending.returned v = Ending.returned u ∧ k v' = some r ∧ Below w.heap.size w w' ∧ (∀ b, S' b → S b ∨ w.heap.size ≤ b) ∧ (∀ b, S' b → b < w'.heap.size) ∧ VRel w' S' nob v' u := fun hf => by
      obtain ⟨v', u, S', hk', hrun, hv', hs1, hs2⟩ := finish_sound hx hf
      obtain ⟨S2, β, og, hR, hO⟩ := hx
      exact ⟨hR.df, u, hrun, u, v', S', rfl, hk', hO.bel.below, fun b hb => (hs1 b hb).imp id fun h => Nat.le_of_not_lt h, hs2, hv'⟩
    cases e with
    | ret => exact fin hk
    | normal => exact fin hk
    | exit id => cases hk

/-! ### Calls that are handed rows -/
theorem paramRows_at (rows : List (Nat × Row)) : ∀ (n b j : Nat) (x : Option Row), (paramRows rows n b)[j]? = some x → x = lookup rows (b + j)
  | 0, b, j, x, h => by simp [paramRows] at h
  | n + 1, b, j, x, h => by
    cases j with
    | zero => simp [paramRows] at h; exact h.symm
    | succ j =>
      simp only [paramRows, List.getElem?_cons_succ] at h
      rw [paramRows_at rows n (b + 1) j x h]
      congr 1
      omega
theorem rowsOf_at (rows : List (Nat × Row)) : ∀ (ids : List Nat) (rs : List Row), rowsOf rows ids = some rs → ∀ (j : Nat) (r : Row), rs[j]? = some r → ∃ i, ids[j]? = some i ∧ lookup rows i = some r
  | [], rs, h, j, r, hj => by simp [rowsOf] at h; subst h; simp at hj
  | i :: is, rs, h, j, r, hj => by
    simp only [rowsOf] at h
    split at h
    · cases h
    · rename_i q hq
      split at h
      · rename_i r' hr
        cases h
        cases j with
        | zero => simp at hj; subst hj; exact ⟨i, rfl, hr⟩
        | succ j => simpa using rowsOf_at rows is q hq j r (by simpa using hj)
      · cases h

theorem finishX_sound {ρ : Type} {w : World} {st : St} {a : Act} (hX : RelX w0 S0 B st a w) {np : Nat} (hdom : ∀ id x, B.bet id = some x → id < RID) {fn : Func} {k : AV → List (Option Row) → List Row → Option ρ} {r : ρ} (h : finishX P fn np st k = some r) :
    ∃ u, (results fn a.tmps).run P w = .ok u w ∧ ∃ v prow nrow S' β' og', k v prow nrow = some r ∧ After w0 S0 B B.bet prow nrow v u w S' β' og' := by
  obtain ⟨S, β, og, hR, hO⟩ := hX
  unfold finishX at h
  split at h
  · cases h
  · rename_i vs h1
    split at h
    · cases h
    · rename_i p h2
      obtain ⟨p1, fz⟩ := p
      simp only at h
      generalize hids : (reach (setImm fz st.rows) depth (p1 ++ cellsOfRows (paramRows (setImm fz st.rows) np PID)) []).filter (fun i => Nat.blt i PID) = ids at h
      have hlt : ∀ i ∈ ids, i < PID := fun i hi => by
        rw [← hids] at hi
        have := (List.mem_filter.1 hi).2
        exact Nat.blt_eq ▸ this
      split at h
      · cases h
      · rename_i nrow hn
        split at h
        · rename_i hc
          simp only [Bool.and_eq_true] at hc
          obtain ⟨hnd, hnp, hsm⟩ := hc
          have hnd' := nodupB_spec ids hnd
          obtain ⟨us, hus, hvs⟩ := resultsOf_sound hR _ _ h1
          have hp := purL_soundX (w := w) (S := S) (β := β) (og := og) (f := opn1 st.rows depth) (opn1_sound hR.row depth) _ _ _ h2 hvs
          have hin : ∀ id ∈ fz, ∃ r, lookup st.rows id = some r := purL_in (rows := st.rows) (opn1_in depth) _ _ h2
          have hOF := hO.freeze hR fz hin
          have hFr := hR.freeze fz
          have hPR : PID + 1000000 < RID := by decide
          have hnp' : np ≤ 1000000 := Nat.le_of_ble_eq_true hnp
          have hm : ∀ id x j, β id = some x → toR ids id = some j → (if j < RID then (if PID ≤ j then β j else none) else (ids[j - RID]?).bind β) = some x := fun id x j hx hj => by
            unfold toR at hj
            split at hj
            · rename_i hle
              cases hj
              have hle' : PID ≤ id := Nat.le_of_ble_eq_true hle
              rw [if_pos (hdom id x (hR.pid id x hle' hx)), if_pos hle']
              exact hx
            · cases hi : idx ids id with
              | none => simp [hi] at hj
              | some jj =>
                simp [hi] at hj
                subst hj
                rw [if_neg (by omega), Nat.add_sub_cancel_left, idx_some ids id jj hi]
                exact hx
          have hren := rens_rel (w := w) (S := With S og fz) (β := β) (β' := fun j => if j < RID then (if PID ≤ j then β j else none) else (ids[j - RID]?).bind β) hm hp
          replace hren := nzs_rel hren
          have hres : (results fn a.tmps).run P w = .ok (if h : us.toArray.size = 1 then us.toArray[0] else .tuple us.toArray) w := by
            show (do let vs ← fn.results.mapM (resRun a.tmps); pure (if h : vs.size = 1 then vs[0] else .tuple vs) : Sem Value).run P w = _
            rw [Array.mapM_eq_mapM_toList]
            simp only [Sem.run_bind, Sem.run_map]
            rw [hus]
            rfl
          refine ⟨_, hres, _, _, _, With S og fz, (fun j => if j < RID then (if PID ≤ j then β j else none) else (ids[j - RID]?).bind β), (fun j => if j < RID then (if PID ≤ j then og j else none) else (ids[j - RID]?).bind og), h, ⟨hO.bel, fun b hb => .inl (hO.sub b hb), hOF.sin, ?_, fun j r hj => ?_, fun j r hj => ?_, fun id id' g hg hg' => ?_, fun id g hg => ?_, fun id x hx => ?_, hFr.Slt, fun id x hlt hx => ?_⟩⟩
          · unfold one
            split
            · rename_i x hx
              rw [hx] at hren
              obtain ⟨u, us', rfl, hu, hn⟩ := hren.inv
              rw [hn.inv_nil]
              simpa using hu
            · rename_i hx
              have hne : us.length ≠ 1 := by
                rw [hren.1]
                intro hl
                match hq : AV.nzs (AV.rens (toR ids) p1), hl with
                | [x], _ => exact hx x hq
              have : ¬ us.toArray.size = 1 := by simpa using hne
              rw [dif_neg this]
              exact .tup _ _ _ hren.1 hren.2
          · rw [List.getElem?_map] at hj
            cases hq : (paramRows (setImm fz st.rows) np PID)[j]? with
            | none => simp [hq] at hj
            | some x =>
              have hx := paramRows_at _ _ _ _ _ hq
              have hjl : j < np := by
                have : (paramRows (setImm fz st.rows) np PID).length = np := by
                  have aux : ∀ n b, (paramRows (setImm fz st.rows) n b).length = n := by
                    intro n
                    induction n with
                    | zero => intro b; rfl
                    | succ n ih => intro b; simp [paramRows, ih]
                  exact aux np PID
                rw [← this]
                exact (List.getElem?_eq_some_iff.1 hq).1
              simp only [hq, Option.map_some, Option.some.injEq] at hj
              cases x with
              | none => simp at hj
              | some r0 =>
                simp only [Option.map_some, Option.some.injEq] at hj
                subst hj
                have h0 := (hFr.row (PID + j) r0 hx.symm).forget
                have e1 : (if PID + j < RID then (if PID ≤ PID + j then og (PID + j) else none) else (ids[PID + j - RID]?).bind og) = og (PID + j) := by rw [if_pos (by omega), if_pos (by omega)]
                rw [e1]
                refine h0.ren hm (fun x hx => ?_) (fun g _ h => h)
                rw [if_pos (by omega), if_pos (by omega)]
                exact hx
          · rw [List.getElem?_map] at hj
            cases hq : nrow[j]? with
            | none => simp [hq] at hj
            | some r0 =>
              simp only [hq, Option.map_some, Option.some.injEq] at hj
              subst hj
              obtain ⟨i, hi, hl⟩ := rowsOf_at _ _ _ hn j r0 hq
              have h0 := (hFr.row i r0 hl).forget
              have e1 : (if RID + j < RID then (if PID ≤ RID + j then og (RID + j) else none) else (ids[RID + j - RID]?).bind og) = og i := by rw [if_neg (by omega), Nat.add_sub_cancel_left, hi]; rfl
              rw [e1]
              refine h0.ren hm (fun x hx => ?_) (fun g _ h => h)
              rw [if_neg (by omega), Nat.add_sub_cancel_left, hi]
              exact hx
          · have cl : ∀ id, (if id < RID then (if PID ≤ id then og id else none) else (ids[id - RID]?).bind og) = some g → (PID ≤ id ∧ id < RID ∧ og id = some g) ∨ (∃ j i, id = RID + j ∧ ids[j]? = some i ∧ i < PID ∧ og i = some g) := fun id h => by
              split at h
              · split at h
                · rename_i h1 h2; exact .inl ⟨h2, h1, h⟩
                · cases h
              · rename_i h1
                cases hi : ids[id - RID]? with
                | none => simp [hi] at h
                | some i => exact .inr ⟨id - RID, i, by omega, hi, hlt i (List.mem_of_getElem? hi), by simpa [hi] using h⟩
            rcases cl id hg with ⟨a1, a2, a3⟩ | ⟨j, i, rfl, a2, a3, a4⟩ <;> rcases cl id' hg' with ⟨b1, b2, b3⟩ | ⟨j', i', rfl, b2, b3, b4⟩
            · exact hR.inj id id' g a3 b3
            · have := hR.inj id i' g a3 b4; omega
            · have := hR.inj i id' g a4 b3; omega
            · have := hR.inj i i' g a4 b4
              subst this
              rw [hnd' j j' i a2 b2]
          · split at hg
            · split at hg
              · exact hR.lt _ g hg
              · cases hg
            · cases hi : ids[id - RID]? with
              | none => simp [hi] at hg
              | some i => exact hR.lt i g (by simpa [hi] using hg)
          · split at hx
            · split at hx
              · exact hR.one _ x hx
              · cases hx
            · cases hi : ids[id - RID]? with
              | none => simp [hi] at hx
              | some i => exact hR.one i x (by simpa [hi] using hx)
          · rw [if_pos hlt] at hx
            split at hx
            · rename_i hle; exact hR.pid id x hle hx
            · cases hx
        · cases h

/-- What lies behind the elements of the rows that a call is handed. -/
def Spared : List Row → List Row → Prop
  | [], [] => True
  | .box i cs :: rs, r :: rs' => r = .box i cs ∧ Spared rs rs'
  | .foc i s e p cs q :: rs, r :: rs' => r = .foc i s e p cs q ∧ Spared rs rs'
  | .arr i s e es csp :: rs, r :: rs' => (∃ sp, r = .arr i s e es (some sp) ∧ (∀ x ∈ es ++ sp, hasSh s x = true) ∧ ∀ c, csp = some c → c = sp) ∧ Spared rs rs'
  | _, _ => False
theorem spared_of {w : World} {S B : Nat → Prop} {β : Bet} {og : Nat → Option Nat} : ∀ (rs : List Row) (b : Nat), (∀ (j : Nat) (r : Row), rs[j]? = some r → RowRel w S B β (b + j) (og (b + j)) r) → ∃ rs', Spared rs rs' ∧ rs'.length = rs.length ∧ ∀ (j : Nat) (r : Row), rs'[j]? = some r → RowRel w S B β (b + j) (og (b + j)) r
  | [], b, _ => ⟨[], trivial, rfl, fun j r h => by simp at h⟩
  | r :: rs, b, h => by
    obtain ⟨rs', i1, i2, i3⟩ := spared_of rs (b + 1) (fun j r hj => by have := h (j + 1) r (by simpa using hj); rwa [show b + (j + 1) = b + 1 + j from by omega] at this)
    have key : ∀ r', RowRel w S B β b (og b) r' → ∀ (j : Nat) (x : Row), (r' :: rs')[j]? = some x → RowRel w S B β (b + j) (og (b + j)) x := fun r' hr' j x hj => by
      cases j with
      | zero => simp at hj; subst hj; exact hr'
      | succ j => have := i3 j x (by simpa using hj); rwa [show b + 1 + j = b + (j + 1) from by omega] at this
    have h0 := h 0 r rfl
    cases r with
    | box i cs => exact ⟨.box i cs :: rs', ⟨rfl, i1⟩, by simp [i2], key _ h0⟩
    | foc i s e p cs q => exact ⟨.foc i s e p cs q :: rs', ⟨rfl, i1⟩, by simp [i2], key _ h0⟩
    | arr i s e es csp =>
      obtain ⟨hp, v, sp, xs, hsh, hcs, rest⟩ := h0
      exact ⟨.arr i s e es (some sp) :: rs', ⟨⟨sp, rfl, hsh, hcs⟩, i1⟩, by simp [i2], key _ ⟨hp, v, sp, xs, hsh, (fun c hc => by cases hc; rfl), rest⟩⟩
theorem lookup_zipIds' : ∀ (rs : List Row) (b j : Nat) (r : Row), rs[j]? = some r → lookup (zipIds b rs) (b + j) = some r
  | [], b, j, r, h => by simp at h
  | x :: rs, b, j, r, h => by
    cases j with
    | zero => simp at h; simp [zipIds, lookup, h]
    | succ j =>
      have := lookup_zipIds' rs (b + 1) j r (by simpa using h)
      simp only [zipIds, lookup]
      rw [if_neg (by omega), show b + (j + 1) = b + 1 + j from by omega]
      exact this

theorem homeK_eq {ρ : Type} {st : St} {x : Nat × Nat × TypeId} {k : St → Option ρ} {r : ρ} (h : homeK st x k = some r) : k (home1 st x) = some r := by
  unfold homeK at h
  unfold home1
  split at h
  · rename_i hc; rw [if_pos hc]; exact h
  rename_i hc0
  rw [if_neg hc0]
  split at h
  · rename_i hc; rw [if_pos hc]; exact h
  · rename_i hc
    rw [if_neg hc]
    split at h
    · rename_i id n hs
      rw [hs]
      simp only
      split at h
      · rename_i s e es csp hl
        obtain ⟨hb, h⟩ := bif_some h
        simp only [hb, if_true]
        exact h
      · exact h
    · unfold home1 at h
      rw [if_neg hc0, if_neg hc] at h
      exact h
theorem homes_eq {ρ : Type} : ∀ {H : List (Nat × Nat × TypeId)} {st : St} {k : St → Option ρ} {r : ρ}, homes H st k = some r → k (H.foldl home1 st) = some r
  | [], _, _, _, h => h
  | _ :: H, _, _, _, h => homes_eq (H := H) (homeK_eq h)
/-- WHAT THE EVALUATOR SAYS OF A FUNCTION THAT IS HANDED ROWS IS SO. -/
theorem xok_of (hΓ : GOK P Γ) (hD : DrawOK P Γ) {f : FuncId} {fn : Func} (hfn : P.funcs[f]? = some fn) {F : SummX} (hF : ∀ ρ avs rows k r, F ρ avs rows k = some r → rows.length ≤ 1000000 ∧ ∀ rows', Spared rows rows' → ∃ K H, (∀ c, fn.body = some c → KOK P Γ K c) ∧ evFX P Γ K H fn ρ avs rows' k = some r) : XOK P f F := by
  intro ρ w S B β og avs rows args k r hH hSB hdom hv hrun
  obtain ⟨hsm, hF'⟩ := hF ρ avs rows k r hrun
  obtain ⟨rows', hsp, hlen, hrow'⟩ := spared_of (w := w) (S := S) (B := B) (β := β) (og := og) rows PID (fun j r hj => hH.row _ _ (lookup_zipIds' rows PID j r hj))
  obtain ⟨K, H, hKc, he⟩ := hF' rows' hsp
  have hPR : PID + 1000000 < RID := by decide
  unfold evFX at he
  cases hb : fn.body with
  | none => simp [hb] at he
  | some c =>
    simp only [hb, St.force_eq] at he
    refine Goes.of hfn hb (calls_of_wp hfn hb ?_)
    have hrep : ∀ m, VRels w S β (List.replicate m AV.undef) (List.replicate m undef) := by
      intro m
      induction m with
      | zero => exact VRels.nil
      | succ m ih => exact VRels.cons (.undef _) ih
    have hX : RelX w S ⟨B, β⟩ (St.mk (avs ++ List.replicate (fn.ntmps - avs.length) .undef) (zipIds PID rows') (List.range' PID rows'.length)) { tmps := args.toArray ++ Array.replicate (fn.ntmps - args.toArray.size) undef, defers := [] } w := by
      refine ⟨S, β, og, ⟨?_, rfl, fun id r hr => ?_, hH.inj, hH.lt, fun id x hx => ?_, hH.one, hH.Slt, hH.Ble, fun id x _ hx => hx⟩, ⟨Kept.refl _ _, fun _ h => .inl h, fun _ h => h⟩⟩
      · have : (args.toArray ++ Array.replicate (fn.ntmps - args.toArray.size) undef).toList = args ++ List.replicate (fn.ntmps - avs.length) undef := by simp [hv.1]
        show VRels w S β _ (args.toArray ++ Array.replicate (fn.ntmps - args.toArray.size) undef).toList
        rw [this]
        exact hv.append (hrep _)
      · obtain ⟨hle, hx⟩ := lookup_zipIds _ _ _ _ hr
        obtain ⟨jj, rfl⟩ : ∃ jj, id = PID + jj := ⟨id - PID, by omega⟩
        rw [Nat.add_sub_cancel_left] at hx
        exact hrow' jj r hx
      · obtain ⟨h1, h2⟩ := hdom id x hx
        show id ∈ List.range' PID rows'.length
        rw [List.mem_range'_1, hlen]
        exact ⟨h1, h2⟩
    have hdom' : ∀ id x, (Ctx.mk B β).bet id = some x → id < RID := fun id x hx => by have := (hdom id x hx).2; omega
    refine evC_sound hΓ hD c (hKc c hb) ρ _ _ _ _ w _ he hX fun e st' a' w' hk hx => ?_
    have fin : (homes H st' fun st => finishX P fn rows'.length st k) = some r → a'.defers = [] ∧ ∃ v, (results fn a'.tmps).run P w' = .ok v w' ∧ ∃ u v' prow nrow S' β' og', Ending.returned v = Ending.returned u ∧ k v' prow nrow = some r ∧ After w S B β prow nrow v' u w' S' β' og' := fun hf => by
      have hx' := foldl_rel (fun st x h => RelX.home1 h x) H st' hx
      obtain ⟨u, hrun, v, prow, nrow, S', β', og', hk', hA⟩ := finishX_sound hx' hdom' (homes_eq hf)
      obtain ⟨S2, β2, og2, hR, hO⟩ := hx
      exact ⟨hR.df, u, hrun, u, v, prow, nrow, S', β', og', rfl, hk', hA⟩
    cases e with
    | ret => exact fin hk
    | normal => exact fin hk
    | exit id => cases hk

end code
end Go.Ev

/-
  A region in whatever order its edges allow. First part: what an operation's outcome hangs on.
-/
namespace Go.Ev
open Go.RowKit

/-! ### The evaluator's answer goes through its continuation -/
section cps
variable {ρ : Type} {P : Program} {Γ : Env} {site : Nat}

theorem cond_bind {α : Type} (b : Bool) (x : Option α) (y : α → Option ρ) : (bif b then x.bind y else none) = (bif b then x else none).bind y := by cases b <;> rfl
theorem cond_bind' {α : Type} (b : Bool) (x : Option α) (y : α → Option ρ) : (bif b then none else x.bind y) = (bif b then none else x).bind y := by cases b <;> rfl
theorem ite_bind {α : Type} (c : Prop) [Decidable c] (x : Option α) (y : α → Option ρ) : (if c then x.bind y else none) = (if c then x else none).bind y := by split <;> rfl

theorem evLoad_bind (t : TypeId) (cs : List AV) (y : AV → Option ρ) : evLoad P t cs y = (evLoad P t cs some).bind y := by
  unfold evLoad
  repeat' split
  all_goals rfl
theorem binInt_bind (op : BinOp) (k : IntKind) (m n : Int) (y : AV → Option ρ) : binInt op k m n y = (binInt op k m n some).bind y := by
  unfold binInt
  split <;> first | rfl | (generalize decide (n = 0) = b; cases b <;> rfl)
theorem binShift_bind (op : BinOp) (k : IntKind) (m n : Int) (y : AV → Option ρ) : binShift op k m n y = (binShift op k m n some).bind y := by
  unfold binShift
  split <;> first | rfl | (generalize decide (n < 0) = b; cases b <;> rfl)
theorem binStr_bind (op : BinOp) (m n : List UInt8) (y : AV → Option ρ) : binStr op m n y = (binStr op m n some).bind y := by
  unfold binStr
  split <;> first | rfl | (generalize lenB (m.length + n.length) = b; cases b <;> rfl)
theorem evBin_bind (op : BinOp) (t : TypeId) (x z : AV) (y : AV → Option ρ) : evBin P op t x z y = (evBin P op t x z some).bind y := by
  unfold evBin
  repeat' split
  all_goals first | rfl | exact binInt_bind _ _ _ _ _ | exact binShift_bind _ _ _ _ _ | exact binStr_bind _ _ _ _
theorem evNil_bind (op : BinOp) (t : TypeId) (x : AV) (y : AV → Option ρ) : evNil P op t x y = (evNil P op t x some).bind y := by
  unfold evNil
  repeat' split
  all_goals first | rfl | (generalize List.isEmpty _ = b; cases b <;> rfl)
theorem evLen_bind (rows : List (Nat × Row)) (t : TypeId) (x : AV) (y : Eff → Option ρ) : evLen P rows t x y = (evLen P rows t x some).bind y := by
  unfold evLen
  repeat' split
  all_goals rfl
theorem evBuiltin_bind (b : Builtin) (ts : List TypeId) (args : List AV) (rows : List (Nat × Row)) (y : Eff → Option ρ) : evBuiltin P site b ts args rows y = (evBuiltin P site b ts args rows some).bind y := by
  rw [evBuiltin_eq, evBuiltin_eq]
  unfold evBuiltin0
  repeat' split
  all_goals first | rfl | exact evLen_bind _ _ _ _ | (rw [← cond_bind]; rfl)
/-- What follows a call may follow it later. -/
def NatOK (Γ : Env) : Prop := (∀ g F, find Γ g = some F → SNat F) ∧ ∀ g F, findX Γ g = some F → XNat F
theorem evX_bind {F : SummX} (hF : XNat F) (avs : List AV) (rows : List (Nat × Row)) (y : Eff → Option ρ) : evX site F avs rows y = (evX site F avs rows some).bind y := by
  unfold evX
  split
  · rfl
  · split
    · rfl
    · split
      · rw [hF ρ, hF Eff]
        generalize F _ _ _ _ = x
        cases x with
        | none => rfl
        | some x =>
          simp only [Option.bind_some]
          split <;> rfl
      · rfl
theorem cond_bind2 {α : Type} (b : Bool) (x z : Option α) (y : α → Option ρ) : (bif b then x else z).bind y = bif b then x.bind y else z.bind y := by cases b <;> rfl
theorem cond_eq {α : Type} {b : Bool} {x x' z z' : α} (h : x = x') (h' : z = z') : (bif b then x else z) = bif b then x' else z' := by rw [h, h']
theorem evOp_bind (hN : NatOK Γ) (o : Oper) (tm : List AV) (rows : List (Nat × Row)) (y : Eff → Option ρ) : evOp P Γ site o tm rows y = (evOp P Γ site o tm rows some).bind y := by
  have hl : ∀ (t : TypeId) (cs : List AV), evLoad P t cs (fun v => y { v }) = (evLoad P t cs fun v => some { v }).bind y := fun t cs => by
    rw [evLoad_bind (P := P) t cs (fun v => y { v }), evLoad_bind (P := P) t cs (fun v => some ({ v := v } : Eff))]
    cases evLoad P t cs some <;> rfl
  have hb : ∀ (op : BinOp) (t : TypeId) (x z : AV), evBin P op t x z (fun v => y { v }) = (evBin P op t x z fun v => some { v }).bind y := fun op t x z => by
    rw [evBin_bind (P := P) op t x z (fun v => y { v }), evBin_bind (P := P) op t x z (fun v => some ({ v := v } : Eff))]
    cases evBin P op t x z some <;> rfl
  have hn : ∀ (op : BinOp) (t : TypeId) (x : AV), evNil P op t x (fun v => y { v }) = (evNil P op t x fun v => some { v }).bind y := fun op t x => by
    rw [evNil_bind (P := P) op t x (fun v => y { v }), evNil_bind (P := P) op t x (fun v => some ({ v := v } : Eff))]
    cases evNil P op t x some <;> rfl
  unfold evOp
  split
  all_goals repeat' split
  all_goals first
    | rfl
    | exact hl _ _
    | exact hb _ _ _ _
    | exact hn _ _ _
    | exact evBuiltin_bind _ _ _ _ _
    | (rename_i t _; cases t <;> rfl)
    | (rw [← cond_bind]; rw [hl])
    | (rw [← cond_bind]; rfl)
    | (generalize slb _ _ _ = b; cases b <;> simp only [cond_true, cond_false] <;> first | rfl | (rw [← cond_bind]; rfl))
    | (rw [elemsK_def, elemsK_def]; split <;> first | rfl | (split <;> rfl))
    | (rename_i F hF _; exact evX_bind (hN.2 _ F (xOf_find hF)) _ _ _)
    | (rename_i F hF _; rw [hN.1 _ F hF ρ, hN.1 _ F hF Eff]; generalize F AV _ some = x; cases x <;> rfl)
    | skip
  all_goals repeat' (first | exact hl _ _ | (rw [cond_bind2]; refine cond_eq ?_ ?_) | rfl | split)
end cps

/-! ### What an operation looks at -/
section congr
variable {ρ : Type} {P : Program} {Γ : Env} {site : Nat}

theorem val_congr {tm tm' : List AV} {x : Operand} (h : ∀ t, x = .tmp t → tm.getD t .unk = tm'.getD t .unk) : val tm x = val tm' x := by
  cases x with
  | tmp t => exact h t rfl
  | _ => rfl
theorem valT_congr {tm tm' : List AV} {x : Operand} (h : ∀ t, x = .tmp t → tm.getD t .unk = tm'.getD t .unk) (t : TypeId) : valT P tm t x = valT P tm' t x := by
  cases x with
  | tmp t => exact h t rfl
  | _ => rfl
theorem valsT_congr {tm tm' : List AV} : ∀ (ts : List TypeId) (xs : List Operand), (∀ x ∈ xs, ∀ t, x = .tmp t → tm.getD t .unk = tm'.getD t .unk) → valsT P tm ts xs = valsT P tm' ts xs
  | _, [], _ => by unfold valsT; split <;> first | contradiction | rfl
  | [], x :: xs, h => by
    simp only [valsT]
    rw [val_congr (h x (by simp)), valsT_congr [] xs (fun y hy => h y (by simp [hy]))]
  | t :: ts, x :: xs, h => by
    simp only [valsT]
    rw [valT_congr (h x (by simp)), valsT_congr ts xs (fun y hy => h y (by simp [hy]))]

theorem map_val_congr {tm tm' : List AV} (x : Option Operand) (h : ∀ z, x = some z → ∀ t, z = .tmp t → tm.getD t .unk = tm'.getD t .unk) : x.map (val tm) = x.map (val tm') := by
  cases x with
  | none => rfl
  | some z => simp only [Option.map_some]; rw [val_congr (h z rfl)]

/-- Only the operands' slots matter. -/
theorem evOp_tm {tm tm' : List AV} (o : Oper) (rows : List (Nat × Row)) (y : Eff → Option ρ) (h : ∀ x ∈ o.op.operands.toList, ∀ t, x = Operand.tmp t → tm.getD t .unk = tm'.getD t .unk) : evOp P Γ site o tm rows y = evOp P Γ site o tm' rows y := by
  obtain ⟨dst, op, type, pos, after, guard⟩ := o
  simp only at h
  cases op with
  | move x => simp only [evOp]; rw [valT_congr (h x (by simp [Op.operands]))]
  | assign x => simp only [evOp]; rw [valT_congr (h x (by simp [Op.operands]))]
  | pick c x z => simp only [evOp]; rw [val_congr (h c (by simp [Op.operands])), valT_congr (h x (by simp [Op.operands])), valT_congr (h z (by simp [Op.operands]))]
  | alloc t => rfl
  | box t x => simp only [evOp]; rw [valT_congr (h x (by simp [Op.operands]))]
  | build t parts =>
    simp only [evOp]
    have : (parts.toList.map fun p => (p.1, valT P tm (partTypes P t p.1) p.2)) = parts.toList.map fun p => (p.1, valT P tm' (partTypes P t p.1) p.2) := by
      apply List.map_congr_left
      intro p hp
      rw [valT_congr (h p.2 (by simp only [Op.operands, List.mem_map]; exact ⟨p, hp, rfl⟩))]
    rw [this]
  | buildSlice t len parts =>
    simp only [evOp]
    have : ∀ e, (parts.toList.map fun p => valT P tm e p.2) = parts.toList.map fun p => valT P tm' e p.2 := by
      intro e
      apply List.map_congr_left
      intro p hp
      rw [valT_congr (h p.2 (by simp only [Op.operands, List.mem_map]; exact ⟨p, hp, rfl⟩))]
    simp only [this]
  | makeSlice t l c => simp only [evOp]; rw [val_congr (h l (by simp [Op.operands])), val_congr (h c (by simp [Op.operands]))]
  | load t x => simp only [evOp]; rw [val_congr (h x (by simp [Op.operands]))]
  | store t x z => simp only [evOp]; rw [val_congr (h x (by simp [Op.operands])), valT_congr (h z (by simp [Op.operands]))]
  | nilCheck x => simp only [evOp]; rw [val_congr (h x (by simp [Op.operands]))]
  | binOp op t x z t' => simp only [evOp]; rw [valT_congr (h x (by simp [Op.operands])), valT_congr (h z (by simp [Op.operands]))]
  | unOp op t x => simp only [evOp]; rw [valT_congr (h x (by simp [Op.operands]))]
  | convert s d x => simp only [evOp]; rw [valT_congr (h x (by simp [Op.operands]))]
  | makeFunc fn first captured =>
    cases fn <;> simp only [evOp]
    have : captured.toList.map (val tm) = captured.toList.map (val tm') := by
      apply List.map_congr_left
      intro x hx
      rw [val_congr (h x (by simp only [Op.operands, Array.toList_append, List.mem_append]; exact .inr hx))]
    rw [this]
  | slice t x lo hi mx =>
    simp only [evOp]
    have h0 : val tm x = val tm' x := val_congr (h x (by simp [Op.operands]))
    have h1 := map_val_congr (tm := tm) (tm' := tm') lo (fun z hz => h z (by subst hz; simp [Op.operands]))
    have h2 := map_val_congr (tm := tm) (tm' := tm') hi (fun z hz => h z (by subst hz; simp [Op.operands]))
    rw [h0, h1, h2]
    cases mx with
    | none => rfl
    | some m =>
      have h3 : val tm m = val tm' m := val_congr (h m (by simp [Op.operands]))
      simp only [h3]
  | fieldAddr t x f => simp only [evOp]; rw [val_congr (h x (by simp [Op.operands]))]
  | field t x f => simp only [evOp]; rw [valT_congr (h x (by simp [Op.operands]))]
  | indexAddr t x i => simp only [evOp]; rw [val_congr (h x (by simp [Op.operands])), val_congr (h i (by simp [Op.operands]))]
  | index t x i => simp only [evOp]; rw [valT_congr (h x (by simp [Op.operands])), val_congr (h i (by simp [Op.operands]))]
  | extract x i => simp only [evOp]; rw [val_congr (h x (by simp [Op.operands]))]
  | call c =>
    obtain ⟨callee, args, ts⟩ := c
    cases callee with
    | builtin b =>
      simp only [evOp]
      rw [valsT_congr ts.toList args.toList (fun x hx => h x (by simp only [Op.operands, Call.operands, Array.toList_append, List.mem_append]; exact .inr hx))]
    | value f =>
      simp only [evOp]
      rw [valsT_congr ts.toList args.toList (fun x hx => h x (by simp only [Op.operands, Call.operands, Array.toList_append, List.mem_append]; exact .inr hx)), val_congr (h f (by simp [Op.operands, Call.operands]))]
    | invoke r m => rfl
  | _ => rfl

/-! Rows, up to whether they may still be written. -/
def Row.core : Row → Row := Row.freeze
def coreEq (rows rows' : List (Nat × Row)) : Prop := ∀ id, (lookup rows id).map Row.core = (lookup rows' id).map Row.core

theorem coreEq.box {rows rows' : List (Nat × Row)} (h : coreEq rows rows') (id : Nat) : (∃ cs im im', lookup rows id = some (.box im cs) ∧ lookup rows' id = some (.box im' cs)) ∨ (∃ s e es sp im im', lookup rows id = some (.arr im s e es sp) ∧ lookup rows' id = some (.arr im' s e es sp)) ∨ (lookup rows id = none ∧ lookup rows' id = none) ∨ (∃ s e pre cs post im im', lookup rows id = some (.foc im s e pre cs post) ∧ lookup rows' id = some (.foc im' s e pre cs post)) := by
  have := h id
  cases h1 : lookup rows id with
  | none => cases h2 : lookup rows' id with
    | none => exact .inr (.inr (.inl ⟨rfl, rfl⟩))
    | some r => simp [h1, h2] at this
  | some r => cases h2 : lookup rows' id with
    | none => simp [h1, h2] at this
    | some r' =>
      simp only [h1, h2, Option.map_some, Option.some.injEq] at this
      cases r <;> cases r' <;> simp [Row.core, Row.freeze] at this
      · subst this; exact .inl ⟨_, _, _, rfl, rfl⟩
      · obtain ⟨rfl, rfl, rfl, rfl⟩ := this; exact .inr (.inl ⟨_, _, _, _, _, _, rfl, rfl⟩)
      · obtain ⟨rfl, rfl, rfl, rfl, rfl⟩ := this; exact .inr (.inr (.inr ⟨_, _, _, _, _, _, _, rfl, rfl⟩))

theorem purL_congr {f g : AV → Option (AV × List Nat)} (h : ∀ v, f v = g v) : ∀ cs, purL f cs = purL g cs := fun cs => by rw [show f = g from funext h]

theorem pur1_core {rows rows' : List (Nat × Row)} (h : coreEq rows rows') : ∀ (n : Nat) (v : AV), pur1 rows n v = pur1 rows' n v := by
  intro n
  induction n with
  | zero => intro v; rfl
  | succ n ih =>
    intro v
    have hL := purL_congr ih
    cases v <;> simp only [pur1]
    case ptr id off => rcases h.box id with ⟨cs, im, im', h1, h2⟩ | ⟨s, e, es, sp, im, im', h1, h2⟩ | ⟨h1, h2⟩ | ⟨s, e, p, cs, q, im, im', h1, h2⟩ <;> simp only [h1, h2, hL]
    case eptr id i off => rcases h.box id with ⟨cs, im, im', h1, h2⟩ | ⟨s, e, es, sp, im, im', h1, h2⟩ | ⟨h1, h2⟩ | ⟨s, e, p, cs, q, im, im', h1, h2⟩ <;> simp only [h1, h2]
    case own id => rcases h.box id with ⟨cs, im, im', h1, h2⟩ | ⟨s, e, es, sp, im, im', h1, h2⟩ | ⟨h1, h2⟩ | ⟨s, e, p, cs, q, im, im', h1, h2⟩ <;> simp only [h1, h2, hL]
    case sub id lo n => rcases h.box id with ⟨cs, im, im', h1, h2⟩ | ⟨s, e, es, sp, im, im', h1, h2⟩ | ⟨h1, h2⟩ | ⟨s, e, p, cs, q, im, im', h1, h2⟩ <;> simp only [h1, h2]
    case agg cs => rw [hL]
    case tup cs => rw [hL]
    case fn f cs => rw [hL]

theorem elemsOf_core {rows rows' : List (Nat × Row)} (h : coreEq rows rows') (v : AV) : elemsOf rows v = elemsOf rows' v := by
  cases v <;> simp only [elemsOf]
  case own id => rcases h.box id with ⟨cs, im, im', h1, h2⟩ | ⟨s, e, es, sp, im, im', h1, h2⟩ | ⟨h1, h2⟩ | ⟨s, e, p, cs, q, im, im', h1, h2⟩ <;> simp only [h1, h2]
  case sub id lo n => rcases h.box id with ⟨cs, im, im', h1, h2⟩ | ⟨s, e, es, sp, im, im', h1, h2⟩ | ⟨h1, h2⟩ | ⟨s, e, p, cs, q, im, im', h1, h2⟩ <;> simp only [h1, h2]

theorem focLen_core {rows rows' : List (Nat × Row)} (h : coreEq rows rows') (v : AV) : focLen rows v = focLen rows' v := by
  cases v <;> simp only [focLen]
  case own id => rcases h.box id with ⟨cs, im, im', h1, h2⟩ | ⟨s, e, es, sp, im, im', h1, h2⟩ | ⟨h1, h2⟩ | ⟨s, e, p, cs, q, im, im', h1, h2⟩ <;> simp only [h1, h2]
theorem subOf_core {rows rows' : List (Nat × Row)} (h : coreEq rows rows') (x : AV) (mx : Option Operand) : (subOf x mx rows).map (fun p => (p.1, p.2.core)) = (subOf x mx rows').map (fun p => (p.1, p.2.core)) := by
  unfold subOf
  split
  · rename_i id
    have := h id
    cases h1 : lookup rows id <;> cases h2 : lookup rows' id <;> simp_all
  · rfl
theorem xOf_none {f : Operand} {g : Nat} {caps : List AV} {tm : List AV} {args : Array Operand} {ts : Array TypeId} (hc : changes Γ (.call { callee := .value f, args := args, argTypes := ts }) = false) (hf : val tm f = .fn g caps) : xOf Γ f g = none := by
  cases f with
  | func g0 =>
    simp only [val, AV.fn.injEq] at hf
    obtain ⟨rfl, _⟩ := hf
    simp only [changes, Option.isSome_eq_false_iff, Option.isNone_iff_eq_none] at hc
    exact hc
  | tmp t => simp only [changes] at hc; simp [xOf, hc]
  | const v => simp only [changes] at hc; simp [xOf, hc]
  | global v => simp only [changes] at hc; simp [xOf, hc]

/-- Whether a row may still be written matters to stores and appends alone. -/
theorem evOp_core {rows rows' : List (Nat × Row)} (h : coreEq rows rows') (o : Oper) (hc : changes Γ o.op = false) (tm : List AV) (y : Eff → Option ρ) : evOp P Γ site o tm rows y = evOp P Γ site o tm rows' y := by
  obtain ⟨dst, op, type, pos, after, guard⟩ := o
  simp only at hc
  have hp := pur1_core h depth
  have hpL := purL_congr hp
  cases op with
  | buildSlice t len parts => simp only [evOp, hpL]
  | load t x =>
    simp only [evOp]
    cases val tm x <;> simp only []
    case ptr id off => rcases h.box id with ⟨cs, im, im', h1, h2⟩ | ⟨s, e, es, sp, im, im', h1, h2⟩ | ⟨h1, h2⟩ | ⟨s, e, p, cs, q, im, im', h1, h2⟩ <;> simp only [h1, h2]
    case eptr id i off => rcases h.box id with ⟨cs, im, im', h1, h2⟩ | ⟨s, e, es, sp, im, im', h1, h2⟩ | ⟨h1, h2⟩ | ⟨s, e, p, cs, q, im, im', h1, h2⟩ <;> simp only [h1, h2]
  | store t x z => simp [changes] at hc
  | slice t x lo hi mx =>
    have hext : (Γ.ext.contains site && lo.isNone) = false := by
      simp only [changes] at hc
      cases lo with
      | some _ => simp
      | none =>
        cases he : Γ.ext with
        | nil => simp
        | cons a l => rw [he] at hc; simp at hc
    have hs := subOf_core h (val tm x) mx
    simp only [evOp, hp, hext]
    split
    · split
      · rfl
      · cases h1 : subOf (val tm x) mx rows with
        | none =>
          cases h2 : subOf (val tm x) mx rows' with
          | none => rfl
          | some q => rw [h1, h2] at hs; simp at hs
        | some p =>
          cases h2 : subOf (val tm x) mx rows' with
          | none => rw [h1, h2] at hs; simp at hs
          | some q =>
            rw [h1, h2] at hs
            obtain ⟨id, r⟩ := p
            obtain ⟨id', r'⟩ := q
            simp only [Option.map_some, Option.some.injEq, Prod.mk.injEq] at hs
            obtain ⟨rfl, hs⟩ := hs
            cases r <;> cases r' <;> simp [Row.core, Row.freeze] at hs
            · rfl
            · obtain ⟨rfl, rfl, rfl, rfl⟩ := hs
              rename_i im s e es sp im'
              rfl
            · rfl
      · rfl
    · rfl
  | indexAddr t x i =>
    simp only [evOp]
    cases val tm i <;> simp only []
    cases P.underlying t with
    | none => rfl
    | some d =>
      cases d <;> try rfl
      cases val tm x <;> try rfl
      case own id => rcases h.box id with ⟨cs, im, im', h1, h2⟩ | ⟨s, e, es, sp, im, im', h1, h2⟩ | ⟨h1, h2⟩ | ⟨s, e, p, cs, q, im, im', h1, h2⟩ <;> simp only [h1, h2]
      case sub id lo len => rcases h.box id with ⟨cs, im, im', h1, h2⟩ | ⟨s, e, es, sp, im, im', h1, h2⟩ | ⟨h1, h2⟩ | ⟨s, e, p, cs, q, im, im', h1, h2⟩ <;> simp only [h1, h2]
  | call c =>
    obtain ⟨callee, args, ts⟩ := c
    cases callee with
    | builtin b =>
      simp only [evOp]
      rw [evBuiltin_eq, evBuiltin_eq]
      unfold evBuiltin0
      split
      · simp only [evLen, elemsOf_core h, focLen_core h]
      · rfl
      · rfl
      · rename_i id _ _
        rcases h.box id with ⟨cs, im, im', h1, h2⟩ | ⟨s, e, es, sp, im, im', h1, h2⟩ | ⟨h1, h2⟩ | ⟨s, e, p, cs, q, im, im', h1, h2⟩
        · simp only [h1, h2]
        · simp only [h1, h2]; cases sp <;> rfl
        · simp only [h1, h2]
        · simp only [h1, h2]
      all_goals first | (simp [changes] at hc; done) | rfl
    | value f =>
      simp only [evOp, hpL]
      split
      · rename_i g caps hf
        rw [xOf_none hc hf]
      · rfl
    | invoke r m => rfl
  | makeFunc fn first captured => cases fn <;> rfl
  | convert s d x => simp only [evOp, elemsK_def, elemsOf_core h]
  | _ => rfl

theorem pur1_free {rows rows' : List (Nat × Row)} : ∀ (n : Nat) (v : AV), v.refs = [] → pur1 rows n v = pur1 rows' n v := by
  intro n
  induction n with
  | zero => intro v _; rfl
  | succ n ih =>
    intro v hv
    have hL : ∀ cs : List AV, AV.refss cs = [] → purL (pur1 rows n) cs = purL (pur1 rows' n) cs := by
      intro cs
      induction cs with
      | nil => intro _; rfl
      | cons c cs ihc =>
        intro h
        simp only [AV.refss, List.append_eq_nil_iff] at h
        simp only [purL, ih c h.1, ihc h.2]
    cases v <;> simp only [pur1] <;> try rfl
    case ptr => simp [AV.refs] at hv
    case eptr => simp [AV.refs] at hv
    case own => simp [AV.refs] at hv
    case sub => simp [AV.refs] at hv
    case agg cs => rw [hL cs hv]
    case tup cs => rw [hL cs hv]
    case fn f cs => rw [hL cs hv]
theorem purL_free {rows rows' : List (Nat × Row)} (n : Nat) : ∀ cs : List AV, (∀ c ∈ cs, c.refs = []) → purL (pur1 rows n) cs = purL (pur1 rows' n) cs
  | [], _ => rfl
  | c :: cs, h => by
    have h1 := pur1_free (rows := rows) (rows' := rows') n c (h c (by simp))
    have h2 := purL_free (rows := rows) (rows' := rows') n cs (fun x hx => h x (by simp [hx]))
    simp only [purL, h1, h2]
theorem ofCell_refs (s : Sh) (v : Value) : (ofCell s v).refs = [] := by
  unfold ofCell
  split <;> first | rfl | (split <;> rfl)
theorem ofCells_refs : ∀ (l : List Sh) (vs : List Value), AV.refss (ofCells l vs) = []
  | _, [] => rfl
  | l, v :: vs => by simp [ofCells, AV.refss, ofCell_refs, ofCells_refs]
theorem ofVal_refs (s : Sh) (v : Value) : (ofVal s v).refs = [] := by
  unfold ofVal
  split
  · split
    · exact ofCells_refs _ _
    · rfl
  · split <;> rfl
  · exact ofCell_refs _ _
theorem ofLit_refs (v : Value) : (ofLit v).refs = [] := by unfold ofLit; split <;> rfl
theorem valsT_const (tm : List AV) : ∀ (ts : List TypeId) (xs : List Operand), xs.all isConst = true → ∀ c ∈ valsT P tm ts xs, c.refs = []
  | _, [], _, c, hc => by
    unfold valsT at hc
    split at hc <;> first | contradiction | simp at hc
  | [], x :: xs, h, c, hc => by
    simp only [List.all_cons, Bool.and_eq_true] at h
    simp only [valsT, List.mem_cons] at hc
    rcases hc with rfl | hc
    · cases x <;> simp [isConst] at h
      exact ofLit_refs _
    · exact valsT_const tm [] xs h.2 c hc
  | t :: ts, x :: xs, h, c, hc => by
    simp only [List.all_cons, Bool.and_eq_true] at h
    simp only [valsT, List.mem_cons] at hc
    rcases hc with rfl | hc
    · cases x <;> simp [isConst] at h
      exact ofVal_refs _ _
    · exact valsT_const tm ts xs h.2 c hc

/-- Operations that look at no row. -/
theorem evOp_free {rows rows' : List (Nat × Row)} (o : Oper) (hc : touches Γ o.op = false) (tm : List AV) (y : Eff → Option ρ) : evOp P Γ site o tm rows y = evOp P Γ site o tm rows' y := by
  obtain ⟨dst, op, type, pos, after, guard⟩ := o
  simp only at hc
  cases op <;> first | rfl | (simp [touches] at hc; done) | skip
  · have hc : Γ.conv = false := hc
    simp only [evOp, hc, Bool.false_and]
    rfl
  · rename_i fn first captured
    cases fn <;> rfl
  · rename_i c
    obtain ⟨callee, args, ts⟩ := c
    cases callee with
    | builtin b => simp [touches] at hc
    | invoke r m => simp [touches] at hc
    | value f =>
      cases f with
      | tmp t => simp [touches] at hc
      | const v => simp [touches] at hc
      | global v => simp [touches] at hc
      | func g =>
        simp only [touches, Bool.or_eq_false_iff, Option.isSome_eq_false_iff, Option.isNone_iff_eq_none, Bool.not_eq_false'] at hc
        obtain ⟨h1, h2⟩ := hc
        have hx : xOf Γ (.func g) g = none := h1
        simp only [evOp, val, hx, List.append_nil]
        rw [purL_free (rows := rows) (rows' := rows') depth _ (valsT_const tm ts.toList args.toList (by simpa using h2))]

theorem lookupEq_core {rows rows' : List (Nat × Row)} (h : ∀ id, lookup rows id = lookup rows' id) : coreEq rows rows' := fun id => by rw [h id]

theorem opn1_look {rows rows' : List (Nat × Row)} (h : ∀ id, lookup rows id = lookup rows' id) : ∀ (n : Nat) (v : AV), opn1 rows n v = opn1 rows' n v := by
  have hp := pur1_core (lookupEq_core h) depth
  intro n
  induction n with
  | zero => intro v; rfl
  | succ n ih =>
    intro v
    have hL := purL_congr ih
    cases v <;> simp only [opn1, h, hp, hL]
theorem reachF_look {rows rows' : List (Nat × Row)} (h : ∀ id, lookup rows id = lookup rows' id) {f f' : List AV → List Nat → List Nat} (hf : ∀ cs acc, f cs acc = f' cs acc) : ∀ (is acc : List Nat), reachF rows f is acc = reachF rows' f' is acc
  | [], _ => rfl
  | i :: is, acc => by simp only [reachF, h, hf, reachF_look h hf is]
theorem reach_look {rows rows' : List (Nat × Row)} (h : ∀ id, lookup rows id = lookup rows' id) : ∀ (n : Nat) (avs : List AV) (acc : List Nat), reach rows n avs acc = reach rows' n avs acc
  | 0, _, _ => rfl
  | n + 1, _, _ => reachF_look h (reach_look h n) _ _
theorem rowsAt_look {rows rows' : List (Nat × Row)} (h : ∀ id, lookup rows id = lookup rows' id) : ∀ (ids : List Nat), rowsAt rows ids = rowsAt rows' ids
  | [] => rfl
  | i :: is => by simp only [rowsAt, h, rowsAt_look h is, purL_congr (opn1_look h depth)]
theorem evX_look {rows rows' : List (Nat × Row)} (h : ∀ id, lookup rows id = lookup rows' id) (F : SummX) (avs : List AV) (y : Eff → Option ρ) : evX site F avs rows y = evX site F avs rows' y := by
  simp only [evX, purL_congr (opn1_look h depth), reach_look h, rowsAt_look h]

theorem evOp_look {rows rows' : List (Nat × Row)} (h : ∀ id, lookup rows id = lookup rows' id) (o : Oper) (tm : List AV) (y : Eff → Option ρ) : evOp P Γ site o tm rows y = evOp P Γ site o tm rows' y := by
  by_cases hc : changes Γ o.op = false
  · exact evOp_core (lookupEq_core h) o hc tm y
  · obtain ⟨dst, op, type, pos, after, guard⟩ := o
    simp only [Bool.not_eq_false] at hc
    have hp := pur1_core (lookupEq_core h) depth
    cases op with
    | store t x z => simp only [evOp, focOf, h, hp]
    | call c =>
      obtain ⟨callee, args, ts⟩ := c
      cases callee with
      | builtin b =>
        simp only [evOp]
        rw [evBuiltin_eq, evBuiltin_eq]
        unfold evBuiltin0
        simp only [h, elemsOf_core (lookupEq_core h), focLen_core (lookupEq_core h), evLen]
      | value f => simp only [evOp, evX_look h, purL_congr hp]
      | invoke r m => simp [changes] at hc
    | slice t x lo hi mx => simp only [evOp, subOf, h, hp]
    | _ => simp [changes] at hc
end congr

end Go.Ev

namespace Go.Ev
open Go.RowKit

section shape
variable {P : Program} {Γ : Env} {site : Nat}

/-- What an operation that is no store and no append leaves alone. -/
def Shape (Γ : Env) (o : Oper) (rows : List (Nat × Row)) (e : Eff) : Prop :=
  (changes Γ o.op = false → e.mod = none ∧ e.del = none ∧ e.dels = [] ∧ e.mods = [] ∧ e.news = []) ∧ (touches Γ o.op = false → e.new = none ∧ e.imm = []) ∧ ∀ id ∈ e.imm, ∃ r, lookup rows id = some r

theorem shape_slot (o : Oper) (rows : List (Nat × Row)) (v : AV) : Shape Γ o rows { v } := ⟨fun _ => ⟨rfl, rfl, rfl, rfl, rfl⟩, fun _ => ⟨rfl, rfl⟩, fun id h => by simp at h⟩
theorem shape_load (o : Oper) (rows : List (Nat × Row)) {t : TypeId} {cs : List AV} {e : Eff} (h : evLoad P t cs (fun v => some ({ v } : Eff)) = some e) : Shape Γ o rows e := by
  rw [evLoad_bind] at h
  cases hl : evLoad P t cs some with
  | none => simp [hl] at h
  | some v => simp [hl] at h; subst h; exact shape_slot o rows v
theorem shape_nil (o : Oper) (rows : List (Nat × Row)) {op : BinOp} {t : TypeId} {x : AV} {e : Eff} (h : evNil P op t x (fun v => some ({ v } : Eff)) = some e) : Shape Γ o rows e := by
  rw [evNil_bind] at h
  cases hl : evNil P op t x some with
  | none => simp [hl] at h
  | some v => simp [hl] at h; subst h; exact shape_slot o rows v
theorem shape_bin (o : Oper) (rows : List (Nat × Row)) {op : BinOp} {t : TypeId} {x z : AV} {e : Eff} (h : evBin P op t x z (fun v => some ({ v } : Eff)) = some e) : Shape Γ o rows e := by
  rw [evBin_bind] at h
  cases hl : evBin P op t x z some with
  | none => simp [hl] at h
  | some v => simp [hl] at h; subst h; exact shape_slot o rows v

theorem changes_touches {op : Op} (h : touches Γ op = false) : changes Γ op = false := by
  cases op <;> first | rfl | (simp [touches] at h; done) | skip
  · rename_i c
    obtain ⟨callee, args, ts⟩ := c
    cases callee with
    | builtin b => simp [touches] at h
    | invoke r m => simp [touches] at h
    | value f =>
      cases f with
      | func g => simp only [touches, Bool.or_eq_false_iff] at h; simp only [changes]; exact h.1
      | tmp t => simp [touches] at h
      | const t => simp [touches] at h
      | global t => simp [touches] at h
theorem pur1_nil {rows : List (Nat × Row)} : ∀ (n : Nat) (v : AV) (p : AV × List Nat), v.refs = [] → pur1 rows n v = some p → p.2 = [] := by
  intro n
  induction n with
  | zero => intro v p _ h; simp [pur1] at h
  | succ n ih =>
    intro v p hv h
    have hL : ∀ (cs : List AV) (q : List AV × List Nat), AV.refss cs = [] → purL (pur1 rows n) cs = some q → q.2 = [] := by
      intro cs
      induction cs with
      | nil => intro q _ h; simp [purL] at h; subst h; rfl
      | cons c cs ihc =>
        intro q hr h
        simp only [AV.refss, List.append_eq_nil_iff] at hr
        simp only [purL] at h
        cases h1 : pur1 rows n c with
        | none => simp [h1] at h
        | some p1 =>
          cases h2 : purL (pur1 rows n) cs with
          | none => simp [h1, h2] at h
          | some p2 =>
            simp [h1, h2] at h
            subst h
            simp [ih c p1 hr.1 h1, ihc p2 hr.2 h2]
    cases v <;> simp only [pur1] at h
    case ptr => simp [AV.refs] at hv
    case eptr => simp [AV.refs] at hv
    case own => simp [AV.refs] at hv
    case sub => simp [AV.refs] at hv
    case agg cs =>
      cases hp : purL (pur1 rows n) cs with
      | none => simp [hp] at h
      | some q => simp [hp] at h; subst h; exact hL cs q hv hp
    case tup cs =>
      cases hp : purL (pur1 rows n) cs with
      | none => simp [hp] at h
      | some q => simp [hp] at h; subst h; exact hL cs q hv hp
    case fn f cs =>
      cases hp : purL (pur1 rows n) cs with
      | none => simp [hp] at h
      | some q => simp [hp] at h; subst h; exact hL cs q hv hp
    all_goals first | (cases h; rfl) | cases h
theorem purL_nil {rows : List (Nat × Row)} (n : Nat) : ∀ (cs : List AV) {q : List AV × List Nat}, (∀ c ∈ cs, c.refs = []) → purL (pur1 rows n) cs = some q → q.2 = []
  | [], q, _, h => by simp [purL] at h; subst h; rfl
  | c :: cs, q, hr, h => by
    simp only [purL] at h
    cases h1 : pur1 rows n c with
    | none => simp [h1] at h
    | some p1 =>
      cases h2 : purL (pur1 rows n) cs with
      | none => simp [h1, h2] at h
      | some p2 =>
        simp [h1, h2] at h
        subst h
        simp [pur1_nil n c p1 (hr c (by simp)) h1, purL_nil n cs (fun x hx => hr x (by simp [hx])) h2]

theorem bif_cases {α : Type} {b : Bool} {x z : Option α} {r : α} (h : (bif b then x else z) = some r) : x = some r ∨ z = some r := by
  cases b
  · exact .inr h
  · exact .inl h
theorem eff_shape (hN : NatOK Γ) {o : Oper} {tm : List AV} {rows : List (Nat × Row)} {e : Eff} (h : evOp P Γ site o tm rows some = some e) : Shape Γ o rows e := by
  unfold evOp at h
  split at h
  · cases h; exact shape_slot _ _ _
  · cases h; exact shape_slot _ _ _
  · split at h
    · rename_i t _; cases t <;> (cases h; exact shape_slot _ _ _)
    · cases h
  · rename_i t ho
    split at h
    · cases h; exact ⟨fun _ => ⟨rfl, rfl, rfl, rfl, rfl⟩, fun hc => by simp [ho, touches] at hc, fun id h => by simp at h⟩
    · cases h
  · rename_i t x ho
    split at h
    · cases h; exact ⟨fun _ => ⟨rfl, rfl, rfl, rfl, rfl⟩, fun hc => by simp [ho, touches] at hc, fun id h => by simp at h⟩
    · cases h
  · split at h
    · split at h
      · split at h
        · cases h; exact shape_slot _ _ _
        · cases h
      · cases h
    · cases h
  · rename_i t len parts ho
    split at h
    · split at h
      · split at h
        · cases h; exact shape_slot _ _ _
        · cases h
      · split at h
        · cases h
        · split at h
          · split at h
            · rename_i q hq
              split at h
              · split at h
                · cases h
                  exact ⟨fun _ => ⟨rfl, rfl, rfl, rfl, rfl⟩, fun hc => by simp [ho, touches] at hc, purL_in (rows := rows) (pur1_in depth) _ _ hq⟩
                · cases h
              · cases h
            · cases h
          · cases h
    · cases h
  · split at h
    · split at h
      · exact shape_load _ _ h
      · cases h
    · exact shape_load _ _ h
    · exact shape_load _ _ h
    · split at h
      · obtain ⟨_, h⟩ := bif_some h; exact shape_load _ _ h
      · rcases bif_cases h with h | h
        · exact shape_load _ _ h
        · split at h
          · cases h
          rcases bif_cases h with h | h
          · exact shape_load _ _ h
          · obtain ⟨_, h⟩ := bif_some h; exact shape_load _ _ h
      · cases h
    · cases h
  · rename_i t x z ho
    split at h
    · split at h
      · split at h
        · split at h
          · cases h
            exact ⟨fun hc => by simp [ho, changes] at hc, fun hc => by simp [ho, touches] at hc, fun id h => by simp at h⟩
          · cases h
        · cases h
      · split at h
        · rcases bif_cases h with h | h
          · split at h
            · cases h
              exact ⟨fun hc => by simp [ho, changes] at hc, fun hc => by simp [ho, touches] at hc, fun id h => by simp at h⟩
            · cases h
          · split at h
            · cases h
            split at h
            · rename_i p hp
              split at h
              · rcases bif_cases h with h | h
                · split at h
                  · cases h
                    exact ⟨fun hc => by simp [ho, changes] at hc, fun hc => by simp [ho, touches] at hc, pur1_in _ _ _ hp⟩
                  · cases h
                · obtain ⟨_, h⟩ := bif_some h
                  split at h
                  · cases h
                    exact ⟨fun hc => by simp [ho, changes] at hc, fun hc => by simp [ho, touches] at hc, pur1_in _ _ _ hp⟩
                  · cases h
              · cases h
            · cases h
        split at h
        · rename_i p hp
          split at h
          · split at h
            · obtain ⟨_, h⟩ := bif_some h
              cases h
              exact ⟨fun hc => by simp [ho, changes] at hc, fun hc => by simp [ho, touches] at hc, pur1_in _ _ _ hp⟩
            · cases h
          · cases h
        · cases h
      · cases h
    · cases h
  · split at h <;> first | (cases h; exact shape_slot _ _ _) | cases h
  · split at h
    · exact shape_nil _ _ h
    · exact shape_bin _ _ h
  · split at h <;> first | (cases h; exact shape_slot _ _ _) | cases h
  · rename_i src dst x ho
    split at h
    · cases h; exact shape_slot _ _ _
    · cases h; exact shape_slot _ _ _
    · split at h
      · rename_i hc
        simp only [Bool.and_eq_true] at hc
        have hto : touches Γ o.op = true := by rw [ho]; exact hc.1
        obtain ⟨_, h⟩ := bif_some h
        cases h
        exact ⟨fun _ => ⟨rfl, rfl, rfl, rfl, rfl⟩, fun hc' => absurd (hto.symm.trans hc') (by simp), fun id h => by simp at h⟩
      · cases h
    · split at h
      · rw [elemsK_def] at h
        split at h
        · cases h
        · split at h
          · cases h; exact shape_slot _ _ _
          · cases h
      · cases h
    · cases h
  · split at h <;> first | (cases h; exact shape_slot _ _ _) | cases h
  · rename_i t x lo hi mx ho
    split at h
    · split at h
      · split at h
        · obtain ⟨_, h⟩ := bif_some h; cases h; exact shape_slot _ _ _
        · cases h
      · split at h
        · split at h
          · cases h
          · rename_i im s e' es sp _ _
            split at h
            · rename_i hx2
              have hext : (!Γ.ext.isEmpty && lo.isNone) = true := by
                simp only [Bool.and_eq_true] at hx2 ⊢
                refine ⟨?_, hx2.2⟩
                cases he : Γ.ext with
                | nil => rw [he] at hx2; simp at hx2
                | cons a l => rfl
              split at h
              · obtain ⟨_, h⟩ := bif_some h
                cases h
                exact ⟨fun hc => by (rw [ho] at hc; simp only [changes] at hc; rw [hc] at hext; cases hext), fun hc => by simp [ho, touches] at hc, fun id h => by simp at h⟩
              · cases h
            · obtain ⟨_, h⟩ := bif_some h; cases h; exact shape_slot _ _ _
        · cases h
        split at h
        · rename_i hp
          split at h
          · cases h
          · split at h
            · obtain ⟨_, h⟩ := bif_some h
              cases h
              exact ⟨fun _ => ⟨rfl, rfl, rfl, rfl, rfl⟩, fun hc => by simp [ho, touches] at hc, pur1_in _ _ _ hp⟩
            · split at h
              · split at h
                · cases h; exact shape_slot _ _ _
                · cases h
              · cases h
        · cases h
      · cases h
    · cases h
  · split at h
    · split at h
      · cases h
      · split at h <;> first | (cases h; exact shape_slot _ _ _) | cases h
    · cases h
  · split at h
    · split at h
      · split at h
        · split at h
          · cases h; exact shape_slot _ _ _
          · cases h
        · split at h
          · split at h
            · cases h; exact shape_slot _ _ _
            · cases h
          · cases h
      · cases h
    · cases h
  · split at h
    · split at h
      · split at h
        · obtain ⟨_, h⟩ := bif_some h; cases h; exact shape_slot _ _ _
        · cases h
      · split at h
        · split at h
          · obtain ⟨_, h⟩ := bif_some h; cases h; exact shape_slot _ _ _
          · cases h
        · split at h
          · obtain ⟨_, h⟩ := bif_some h; cases h; exact shape_slot _ _ _
          · cases h
        · cases h
      · split at h
        · split at h
          · obtain ⟨_, h⟩ := bif_some h; cases h; exact shape_slot _ _ _
          · cases h
        · cases h
      · cases h
    · cases h
  · split at h
    · split at h
      · obtain ⟨_, h⟩ := bif_some h; cases h; exact shape_slot _ _ _
      · split at h
        · cases h
        · split at h
          · obtain ⟨_, h⟩ := bif_some h; cases h; exact shape_slot _ _ _
          · cases h
      · cases h
    · cases h
  · split at h
    · split at h
      · cases h; exact shape_slot _ _ _
      · cases h
    · cases h
  · rename_i t l c ho
    split at h
    · split at h
      · obtain ⟨_, h⟩ := bif_some h; cases h; exact ⟨fun _ => ⟨rfl, rfl, rfl, rfl, rfl⟩, fun hc => by simp [ho, touches] at hc, fun id h => by simp at h⟩
      · cases h
    · cases h
  · rename_i b args ts ho
    rw [evBuiltin_eq] at h
    unfold evBuiltin0 at h
    split at h
    · unfold evLen at h
      repeat' split at h
      all_goals first | (cases h; exact shape_slot _ _ _) | cases h
    · split at h <;> first | (cases h; exact shape_slot _ _ _) | cases h
    · split at h <;> first | (cases h; exact shape_slot _ _ _) | cases h
    · repeat' split at h
      all_goals first | (cases h; exact shape_slot _ _ _) | cases h
    · have hch : changes Γ o.op = true := by rw [ho]; rfl
      have hto : touches Γ o.op = true := by rw [ho]; rfl
      have hno : ∀ e : Eff, e.imm = [] → Shape Γ o rows e := fun e he => ⟨fun hc => absurd (hch.symm.trans hc) (by simp), fun hc => absurd (hto.symm.trans hc) (by simp), fun id h => by rw [he] at h; simp at h⟩
      repeat' split at h
      all_goals first | cases h | (obtain ⟨_, h⟩ := bif_some h; cases h; exact hno _ rfl)
    · have hch : changes Γ o.op = true := by rw [ho]; rfl
      have hto : touches Γ o.op = true := by rw [ho]; rfl
      have hno : ∀ e : Eff, e.imm = [] → Shape Γ o rows e := fun e he => ⟨fun hc => absurd (hch.symm.trans hc) (by simp), fun hc => absurd (hto.symm.trans hc) (by simp), fun id h => by rw [he] at h; simp at h⟩
      repeat' split at h
      all_goals first | cases h | (obtain ⟨_, h⟩ := bif_some h; cases h; exact hno _ rfl)
    · have hch : changes Γ o.op = true := by rw [ho]; rfl
      have hto : touches Γ o.op = true := by rw [ho]; rfl
      have hno : ∀ e : Eff, e.imm = [] → Shape Γ o rows e := fun e he => ⟨fun hc => absurd (hch.symm.trans hc) (by simp), fun hc => absurd (hto.symm.trans hc) (by simp), fun id h => by rw [he] at h; simp at h⟩
      repeat' split at h
      all_goals first | cases h | (obtain ⟨_, h⟩ := bif_some h; cases h; exact hno _ rfl)
    · have hch : changes Γ o.op = true := by rw [ho]; rfl
      have hto : touches Γ o.op = true := by rw [ho]; rfl
      have hno : ∀ e : Eff, e.imm = [] → Shape Γ o rows e := fun e he => ⟨fun hc => absurd (hch.symm.trans hc) (by simp), fun hc => absurd (hto.symm.trans hc) (by simp), fun id h => by rw [he] at h; simp at h⟩
      split at h
      · cases h
      · split at h
        · split at h
          · cases h
          · split at h
            · split at h
              · obtain ⟨_, h⟩ := bif_some h; cases h; exact hno _ rfl
              · cases h
            · split at h
              · split at h
                · obtain ⟨_, h⟩ := bif_some h; cases h; exact hno _ rfl
                · cases h
              · cases h
            · cases h
        · cases h
    · cases h
  · rename_i f args ts ho
    split at h
    · rename_i g caps hfv
      split at h
      · rename_i F hF
        have hch : changes Γ o.op = true := by
          rw [ho]
          cases hcc : changes Γ (.call { callee := .value f, args := args, argTypes := ts }) with
          | true => rfl
          | false => rw [xOf_none hcc hfv] at hF; cases hF
        have hto : touches Γ o.op = true := by
          cases htt : touches Γ o.op with
          | true => rfl
          | false => rw [changes_touches htt] at hch; cases hch
        split at h
        · refine ⟨fun hc => absurd (hch.symm.trans hc) (by simp), fun hc => absurd (hto.symm.trans hc) (by simp), ?_⟩
          unfold evX at h
          split at h
          · cases h
          · rename_i p hp
            split at h
            · cases h
            · rename_i q hq
              split at h
              · rw [hN.2 _ F (xOf_find hF) Eff] at h
                generalize F _ _ _ _ = x at h
                cases x with
                | none => cases h
                | some x =>
                  simp only [Option.bind_some] at h
                  split at h
                  · cases h
                    intro id hid
                    simp only [List.mem_append] at hid
                    rcases hid with hid | hid
                    · exact purL_in (rows := rows) (opn1_in depth) _ _ hp id hid
                    · exact rowsAt_in _ _ hq id hid
                  · cases h
              · cases h
        · cases h
      split at h
      · rename_i p hp
        split at h
        · rename_i F hF
          split at h
          · rw [hN.1 _ F hF Eff] at h
            generalize F AV (AV.nzs p.1) some = x at h
            cases x with
            | none => cases h
            | some x =>
            cases h
            refine ⟨fun _ => ⟨rfl, rfl, rfl, rfl, rfl⟩, fun hc => ?_, fun id hid => ?_⟩
            · rw [ho] at hc
              cases f with
              | tmp t => simp [touches] at hc
              | const t => simp [touches] at hc
              | global t => simp [touches] at hc
              | func g0 =>
                simp only [touches, Bool.or_eq_false_iff, Bool.not_eq_false'] at hc
                simp only [val, AV.fn.injEq] at hfv
                obtain ⟨rfl, rfl⟩ := hfv
                rw [List.append_nil] at hp
                have := purL_nil depth _ (valsT_const tm ts.toList args.toList (by simpa using hc.2)) hp
                refine ⟨rfl, ?_⟩
                show (if _ then _ else p.2) = []
                rw [this]
                split <;> rfl
            simp only at hid
            split at hid
            · simp at hid
            · exact purL_in (rows := rows) (pur1_in depth) _ _ hp id hid
          · cases h
        · cases h
      · cases h
    · cases h
  · cases h
end shape

/-! ### Steps -/
section steps
variable {P : Program} {Γ : Env} {rid : Nat} {ops : Array Oper} {tab : List (List Nat)}

def runAt (P : Program) (Γ : Env) (rid : Nat) (tab : List (List Nat)) (i : Nat) (o : Oper) (st : St) : Option St :=
  (evOp P Γ (rid * 64 + i) o st.tm (visible rid (tab.getD i []) st.rows) some).bind fun e => if freshB (rid * 64 + i) e st.used then some (apply (rid * 64 + i) o.dst e st) else none
def skipAt (o : Oper) (st : St) : St := ⟨putTm st.tm o.dst .undef, st.rows, st.used⟩
def stepD (P : Program) (Γ : Env) (rid : Nat) (ops : Array Oper) (tab : List (List Nat)) (i : Nat) (st : St) : Option St :=
  match ops[i]? with
  | none => some st
  | some o =>
    match o.guard with
    | none => runAt P Γ rid tab i o st
    | some (j, want) =>
      match guardAt ops.toList st.tm j with
      | .bool b => if b == want then runAt P Γ rid tab i o st else some (skipAt o st)
      | .undef => some (skipAt o st)
      | _ => none
def runL (P : Program) (Γ : Env) (rid : Nat) (ops : Array Oper) (tab : List (List Nat)) : List Nat → St → Option St
  | [], st => some st
  | i :: l, st => (stepD P Γ rid ops tab i st).bind (runL P Γ rid ops tab l)

theorem evOps_runL (hN : NatOK Γ) {ρ : Type} {k : St → Option ρ} {r : ρ} : ∀ (l : List Oper) (i : Nat) (st : St), (∀ j, l[j]? = ops[i + j]?) → evOps P Γ rid ops.toList (some tab) k i l st = some r → ∃ st', runL P Γ rid ops tab (List.range' i l.length) st = some st' ∧ k st' = some r
  | [], i, st, _, h => ⟨st, rfl, h⟩
  | o :: rest, i, st, hl, h => by
    have ho : ops[i]? = some o := by have := hl 0; simpa using this.symm
    have hl' : ∀ j, rest[j]? = ops[i + 1 + j]? := fun j => by have := hl (j + 1); simpa [Nat.add_assoc, Nat.add_comm 1 j] using this
    have run : evOp P Γ (rid * 64 + i) o st.tm (visible rid (tab.getD i []) st.rows) (fun e => if freshB (rid * 64 + i) e st.used then (apply (rid * 64 + i) o.dst e st).force fun st1 => decideAt ops.toList i o.dst st1 (evOps P Γ rid ops.toList (some tab) k (i + 1) rest) else none) = some r →
        ∃ s1, runAt P Γ rid tab i o st = some s1 ∧ ∃ st', runL P Γ rid ops tab (List.range' (i + 1) rest.length) s1 = some st' ∧ k st' = some r := fun hr => by
      rw [evOp_bind hN] at hr
      cases he : evOp P Γ (rid * 64 + i) o st.tm (visible rid (tab.getD i []) st.rows) some with
      | none => rw [he] at hr; cases hr
      | some e =>
        simp only [he, Option.bind_some] at hr
        by_cases hf : freshB (rid * 64 + i) e st.used = true
        · simp only [hf, if_true, St.force_eq] at hr
          exact ⟨_, by simp only [runAt, he, Option.bind_some, hf, if_true], evOps_runL hN rest (i + 1) _ hl' (decideAt_eq hr)⟩
        · simp [hf] at hr
    simp only [evOps] at h
    simp only [List.length_cons, List.range'_succ, runL, stepD, ho]
    split at h
    · rename_i hg
      obtain ⟨s1, h1, h2⟩ := run h
      simp only [hg, h1, Option.bind_some]
      exact h2
    · rename_i j want hg
      split at h
      · rename_i b hb
        cases hbw : (b == want) with
        | true =>
          simp only [hbw, cond_true] at h
          obtain ⟨s1, h1, h2⟩ := run h
          simp only [hg, hb, hbw, if_true, h1, Option.bind_some]
          exact h2
        | false =>
          simp only [hbw, cond_false] at h
          simp only [hg, hb, hbw]
          exact evOps_runL hN rest (i + 1) _ hl' h
      · rename_i hb
        simp only [hg, hb, Option.bind_some]
        exact evOps_runL hN rest (i + 1) _ hl' h
      · cases h

/-! States that say the same. -/
structure Eqv (s t : St) : Prop where
  tm : s.tm = t.tm
  rows : ∀ id, lookup s.rows id = lookup t.rows id
  used : ∀ id, id ∈ s.used ↔ id ∈ t.used
theorem Eqv.refl (s : St) : Eqv s s := ⟨rfl, fun _ => rfl, fun _ => Iff.rfl⟩
theorem Eqv.symm {s t : St} (h : Eqv s t) : Eqv t s := ⟨h.tm.symm, fun i => (h.rows i).symm, fun i => (h.used i).symm⟩
theorem Eqv.trans {s t u : St} (h : Eqv s t) (h' : Eqv t u) : Eqv s u := ⟨h.tm.trans h'.tm, fun i => (h.rows i).trans (h'.rows i), fun i => (h.used i).trans (h'.used i)⟩
theorem RelX.eqv {w0 : World} {S0 : Nat → Prop} {B : Ctx} {s t : St} {a : Act} {w : World} (h : RelX w0 S0 B s a w) (e : Eqv s t) : RelX w0 S0 B t a w := by
  obtain ⟨S, β, og, hR, hO⟩ := h
  exact ⟨S, β, og, ⟨e.tm ▸ hR.tm, hR.df, fun id r hr => hR.row id r ((e.rows id).trans hr), hR.inj, hR.lt, fun id x hx => (e.used id).1 (hR.used id x hx), hR.one, hR.Slt, hR.Ble, hR.pid⟩, hO⟩

theorem lookup_visible (rid : Nat) (bef : List Nat) (rows : List (Nat × Row)) (id : Nat) : lookup (visible rid bef rows) id = if !ofReg rid id || bef.contains (id % 64) then lookup rows id else none := by
  induction rows with
  | nil => simp [visible, lookup]
  | cons x rest ih =>
    obtain ⟨i, r⟩ := x
    simp only [visible]
    by_cases hv : (!ofReg rid i || bef.contains (i % 64)) = true
    · rw [if_pos hv]
      simp only [lookup]
      by_cases e : i = id
      · subst e; rw [if_pos rfl, if_pos hv, if_pos rfl]
      · rw [if_neg e, if_neg e, ih]
    · rw [if_neg hv]
      simp only [lookup]
      by_cases e : i = id
      · subst e; rw [if_neg hv] at ih; rw [ih, if_neg hv]
      · rw [if_neg e, ih]

def frz (ids : List Nat) (id : Nat) (r : Row) : Row := if ids.contains id then r.freeze else r
theorem freeze_freeze (r : Row) : r.freeze.freeze = r.freeze := by cases r <;> rfl

theorem foldl_set_look : ∀ (l : List (Nat × Row)) {a b : List (Nat × Row)}, (∀ id, lookup a id = lookup b id) → ∀ id, lookup (l.foldl (fun rs p => setRow rs p.1 p.2) a) id = lookup (l.foldl (fun rs p => setRow rs p.1 p.2) b) id
  | [], _, _, h, id => h id
  | (i, r) :: l, _, _, h, id => foldl_set_look l (fun k => by simp only [lookup_setRow, h]) id
theorem foldl_del_look : ∀ (l : List Nat) {a b : List (Nat × Row)}, (∀ id, lookup a id = lookup b id) → ∀ id, lookup (l.foldl delRow a) id = lookup (l.foldl delRow b) id
  | [], _, _, h, id => h id
  | i :: l, _, _, h, id => foldl_del_look l (fun k => by simp only [lookup_delRow, h]) id
/-- What the rows are behind an operation. -/
theorem lookup_apply (site : Nat) (e : Eff) (h1 : e.dels = []) (h2 : e.mods = []) (h3 : e.news = []) (rows : List (Nat × Row)) (id : Nat) : lookup (applyRows site e rows) id =
    match e.new with
    | some r => if id = site then some r else (match e.mod with | some p => if id = p.1 then some p.2 else (match e.del with | some d => if id = d then none else lookup rows id | none => lookup rows id) | none => (match e.del with | some d => if id = d then none else lookup rows id | none => lookup rows id)).map (frz e.imm id)
    | none => (match e.mod with | some p => if id = p.1 then some p.2 else (match e.del with | some d => if id = d then none else lookup rows id | none => lookup rows id) | none => (match e.del with | some d => if id = d then none else lookup rows id | none => lookup rows id)).map (frz e.imm id) := by
  have hnil : ∀ x : Option Row, x.map (frz [] id) = x := fun x => by cases x <;> rfl
  have hcons : ∀ (i : Nat) (is : List Nat) (rs : List (Nat × Row)), lookup (setImm (i :: is) rs) id = (lookup rs id).map (frz (i :: is) id) := fun i is rs => by rw [lookup_setImm]; rfl
  unfold applyRows
  rw [h1, h2, h3]
  cases hn : e.new <;> cases hm : e.mod <;> cases hd : e.del <;> cases hi : e.imm <;> simp only [List.foldl_nil, lookup_setRow, hcons, hnil, lookup_delRow]

theorem applyRows_look (site : Nat) (e : Eff) {a b : List (Nat × Row)} (h : ∀ id, lookup a id = lookup b id) : ∀ id, lookup (applyRows site e a) id = lookup (applyRows site e b) id := by
  unfold applyRows
  refine foldl_set_look _ (foldl_set_look _ (foldl_del_look _ fun id => ?_))
  cases e.new <;> cases e.mod <;> cases e.del <;> cases e.imm <;> simp only [lookup_setRow, lookup_setImm, lookup_delRow, h]

theorem apply_eqv {s t : St} (h : Eqv s t) (site : Nat) (dst : Option Tmp) (e : Eff) : Eqv (apply site dst e s) (apply site dst e t) := by
  refine ⟨by simp only [apply, h.tm], applyRows_look site e h.rows, fun id => ?_⟩
  simp only [apply, List.mem_append]
  cases e.new with
  | none => simp only [h.used id]
  | some r => simp only [List.mem_cons, h.used id]
theorem fresh_eqv {s t : St} (h : Eqv s t) (site : Nat) (e : Eff) : freshB site e s.used = freshB site e t.used := by
  have hc : ∀ i, s.used.contains i = t.used.contains i := fun i => by
    rw [Bool.eq_iff_iff]
    simpa using h.used i
  unfold freshB
  simp only [hc]
theorem runAt_eqv {s t s' : St} (h : Eqv s t) {i : Nat} {o : Oper} (hr : runAt P Γ rid tab i o s = some s') : ∃ t', runAt P Γ rid tab i o t = some t' ∧ Eqv s' t' := by
  unfold runAt at hr ⊢
  have hev : evOp P Γ (rid * 64 + i) o t.tm (visible rid (tab.getD i []) t.rows) some = evOp P Γ (rid * 64 + i) o s.tm (visible rid (tab.getD i []) s.rows) some := by
    rw [← h.tm]
    exact evOp_look (fun id => by rw [lookup_visible, lookup_visible, h.rows id]) o s.tm some
  rw [hev]
  cases he : evOp P Γ (rid * 64 + i) o s.tm (visible rid (tab.getD i []) s.rows) some with
  | none => rw [he] at hr; cases hr
  | some e =>
    simp only [he, Option.bind_some] at hr ⊢
    rw [← fresh_eqv h]
    split at hr
    · rename_i hf
      cases hr
      exact ⟨_, by rw [if_pos hf], apply_eqv h _ _ _⟩
    · cases hr
theorem skip_eqv {s t : St} (h : Eqv s t) (o : Oper) : Eqv (skipAt o s) (skipAt o t) := ⟨by simp only [skipAt, h.tm], h.rows, h.used⟩
theorem stepD_eqv {s t s' : St} (h : Eqv s t) {i : Nat} (hr : stepD P Γ rid ops tab i s = some s') : ∃ t', stepD P Γ rid ops tab i t = some t' ∧ Eqv s' t' := by
  unfold stepD at hr ⊢
  split at hr
  · cases hr; exact ⟨t, rfl, h⟩
  · rename_i o ho
    split at hr
    · rename_i hg
      obtain ⟨t', h1, h2⟩ := runAt_eqv h hr
      exact ⟨t', h1, h2⟩
    · rename_i j want hg
      rw [h.tm] at hr
      split at hr
      · rename_i b hb
        split at hr
        · rename_i hbw
          obtain ⟨t', h1, h2⟩ := runAt_eqv h hr
          exact ⟨t', by simp only [hbw, if_true]; exact h1, h2⟩
        · rename_i hbw
          cases hr
          exact ⟨_, by simp only [hbw]; rfl, skip_eqv h o⟩
      · cases hr; exact ⟨_, rfl, skip_eqv h o⟩
      · cases hr
theorem runL_eqv : ∀ (l : List Nat) {s t s' : St}, Eqv s t → runL P Γ rid ops tab l s = some s' → ∃ t', runL P Γ rid ops tab l t = some t' ∧ Eqv s' t'
  | [], s, t, s', h, hr => by simp [runL] at hr; subst hr; exact ⟨t, rfl, h⟩
  | i :: l, s, t, s', h, hr => by
    simp only [runL] at hr ⊢
    cases h1 : stepD P Γ rid ops tab i s with
    | none => simp [h1] at hr
    | some s1 =>
      simp only [h1, Option.bind_some] at hr
      obtain ⟨t1, h2, h3⟩ := stepD_eqv h h1
      obtain ⟨t', h4, h5⟩ := runL_eqv l h3 hr
      exact ⟨t', by rw [h2, Option.bind_some]; exact h4, h5⟩
end steps

end Go.Ev
