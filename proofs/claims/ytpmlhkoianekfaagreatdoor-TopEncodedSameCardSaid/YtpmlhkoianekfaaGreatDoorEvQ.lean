/-
  A region in whatever order its edges allow. First part: what an operation's outcome hangs on.
-/
import Derived.Test.YtpmlhkoianekfaaGreatDoorEvO
import Derived.RangeFuncRecord
import Derived.RangeFuncLeaves

namespace Go.Ev
open Go.RowKit
section norm
variable {w0 w : World} {S0 : Nat → Prop} {B : Ctx} {st : St} {a : Act}
theorem RelX.mask (h : RelX w0 S0 B st a w) (slots ids : List Nat) : RelX w0 S0 B (mask slots ids st) a w := by
  obtain ⟨S, β, og, hR, hO⟩ := h
  exact ⟨S, _, og, hR.mask slots ids, hO⟩
theorem getD_some {tm : List AV} {t : Nat} {v : AV} (h : tm.getD t .unk = v) (hne : v ≠ .unk) : tm[t]? = some v := by
  cases ht : tm[t]? with
  | none => simp [List.getD, ht] at h; exact absurd h.symm hne
  | some c => simp [List.getD, ht] at h; rw [h]
theorem arr_set_self {tmps : Array Value} {i : Nat} (h : i < tmps.size) : tmps.setIfInBounds i tmps[i] = tmps := by
  apply Array.ext'
  rw [Array.toList_setIfInBounds]
  have : tmps.toList.set i (tmps.toList[i]'(by simpa using h)) = tmps.toList := List.set_getElem_self (by simpa using h)
  simpa using this
theorem RelX.home1 (h : RelX w0 S0 B st a w) (x : Nat × Nat × TypeId) : RelX w0 S0 B (home1 st x) a w := by
  obtain ⟨S, β, og, hR, hO⟩ := h
  unfold Go.Ev.home1
  split
  · exact RelX.mask ⟨S, β, og, hR, hO⟩ _ _
  split
  · exact ⟨S, β, og, hR, hO⟩
  · rename_i hc
    have hf : Fresh x.2.1 st.used := by
      simp only [Bool.or_eq_true, not_or, Bool.not_eq_true] at hc
      exact ⟨by simpa using hc.1, Nat.lt_of_not_le fun h => by rw [Nat.ble_eq_true_of_le h] at hc; simp at hc⟩
    split
    · rename_i id hid
      split
      · rename_i r hl
        obtain ⟨h1, h2⟩ := hR.rename hl hf
        have ht := getD_some hid (by simp)
        obtain ⟨u, hu, hv⟩ := hR.tm.at_ ht
        have := h1.put (some x.1) (v := .own x.2.1) (u := u) (h2 u hv)
        have hput : (a.put (some x.1) u) = a := by
          obtain ⟨hlt, he⟩ := List.getElem?_eq_some_iff.1 hu
          have hlt' : x.1 < a.tmps.size := by simpa using hlt
          have he' : a.tmps[x.1] = u := by simpa using he
          simp only [Act.put]
          congr 1
          rw [← he']
          exact arr_set_self hlt'
        rw [hput] at this
        exact ⟨S, _, _, this, hO⟩
      · exact ⟨S, β, og, hR, hO⟩
    · rename_i s hs
      split
      · rename_i hw
        have ht := getD_some hs (by simp)
        obtain ⟨u, hu, hv⟩ := hR.tm.at_ ht
        cases hv with
        | slz _ _ A =>
          obtain ⟨h1, h2⟩ := hR.promote x.2.2 A hf (by rw [Nat.blt_eq] at hw; exact hw)
          have := h1.put (some x.1) (v := .own x.2.1) (u := .slice A 0 0) h2
          have hput : (a.put (some x.1) (.slice A 0 0)) = a := by
            obtain ⟨hlt, he⟩ := List.getElem?_eq_some_iff.1 hu
            have hlt' : x.1 < a.tmps.size := by simpa using hlt
            have he' : a.tmps[x.1] = .slice A 0 0 := by simpa using he
            simp only [Act.put]
            congr 1
            rw [← he']
            exact arr_set_self hlt'
          rw [hput] at this
          exact ⟨S, _, _, this, hO⟩
      · exact ⟨S, β, og, hR, hO⟩
    · rename_i id n hs
      split
      · rename_i s e es csp hl
        split
        · rename_i hle
          have hle' : n ≤ es.length := Nat.le_of_ble_eq_true hle
          have ht := getD_some hs (by simp)
          obtain ⟨u, hu, hv⟩ := hR.tm.at_ ht
          have hrow := hR.row id _ hl
          obtain ⟨A, c, hbt, hc, hcl, hA⟩ := arr_val hrow
          have huv := sub_val hbt hv
          have hu1 : u = .slice A n c := by
            rw [huv]
            rcases Nat.eq_zero_or_pos c with h0 | h0
            · rw [if_pos h0]; rfl
            · obtain ⟨g, rfl, _⟩ := hA h0
              rw [if_neg (by omega)]
              simp [Addr.add]
          have hfree := hrow.free rfl
          have hN := hR.moved (site := x.2.1) (id := id) hf none (World.grownBy.refl w _) hfree (x := u) (wd := s.width) (o' := og id) (v := .unk) (u := undef) (r1 := .arr false s e (es.take n) none) (by rw [hu1]; rfl) (fun g hg => ⟨.inl hg, hR.lt id g hg⟩) ?_ (.unk _ _)
          · have := hN.put (some x.1) (v := .own x.2.1) (u := u) (.own _ _ _ _ (upd_same _ _ _))
            have hput : ((a.put none undef).put (some x.1) u) = a := by
              obtain ⟨hlt, he⟩ := List.getElem?_eq_some_iff.1 hu
              have hlt' : x.1 < a.tmps.size := by simpa using hlt
              have he' : a.tmps[x.1] = u := by simpa using he
              simp only [Act.put]
              congr 1
              rw [← he']
              exact arr_set_self hlt'
            rw [hput] at this
            exact ⟨S, _, _, this, hO⟩
          · obtain ⟨hp, v, sp, xs, hshS, hcs, hbt', h1, hvs, hor⟩ := hrow
            rw [hbt] at hbt'
            simp only [Option.some.injEq, Prod.mk.injEq, and_true] at hbt'
            subst hbt'
            have hsplit : es.take n ++ (es.drop n ++ sp) = es ++ sp := by rw [← List.append_assoc, List.take_append_drop]
            have hlt : (es.take n).length = n := by rw [List.length_take]; omega
            have hld : (es.drop n ++ sp).length = es.length - n + sp.length := by simp
            refine ⟨hp, u, es.drop n ++ sp, xs, by rw [hsplit]; exact hshS, (fun c h => by cases h), upd_same _ _ _, h1, by rw [hsplit]; exact hvs, ?_⟩
            rcases hor with ⟨rfl, rfl, ho, A', hA'⟩ | ⟨g, ho, hvv, hBg, hh, hmx, hi1, _⟩
            · cases hA'
              refine .inl ⟨by simp, by simp, ho, A, ?_⟩
              rw [hu1]
              simp at hle'
              rw [hle']
            · cases hvv
              refine .inr ⟨g, ho, ?_, hBg, hh, ?_, hi1, (fun h => by cases h)⟩
              · rw [hu1, hlt, hld]; congr 1; omega
              · rw [hlt, hld]; omega
        · exact ⟨S, β, og, hR, hO⟩
      · exact ⟨S, β, og, hR, hO⟩
    · exact ⟨S, β, og, hR, hO⟩
theorem Rel.setBox {S : Nat → Prop} {β : Bet} {og : Nat → Option Nat} (h : Rel w S B β og st a) {b c : Nat} {im : Bool} {cs : List AV} {v v' : AV} (hl : lookup st.rows b = some (.box im cs)) (hv : cs[c]? = some v) (hvv : ∀ u, VRel w S β v u → VRel w S β v' u) :
    Rel w S B β og ⟨st.tm, setRow st.rows b (.box im (cs.set c v')), st.used⟩ a := by
  refine ⟨h.tm, h.df, fun i y hy => ?_, h.inj, h.lt, h.used, h.one, h.Slt, h.Ble, h.pid⟩
  rw [lookup_setRow] at hy
  by_cases e : i = b
  · subst e
    simp only [if_pos] at hy
    cases hy
    obtain ⟨g, vs, t, ho, hb, hh, hvs, rest⟩ := h.row i _ hl
    refine ⟨g, vs, t, ho, hb, hh, ?_, rest⟩
    obtain ⟨u, hu, hr⟩ := hvs.at_ hv
    have := hvs.set c (hvv u hr)
    obtain ⟨hlt, he⟩ := List.getElem?_eq_some_iff.1 hu
    rwa [← he, List.set_getElem_self hlt] at this
  · rw [if_neg e] at hy
    exact h.row i y hy
theorem Rel.setFoc {S : Nat → Prop} {β : Bet} {og : Nat → Option Nat} (h : Rel w S B β og st a) {b c : Nat} {im : Bool} {s : Sh} {e : TypeId} {pre cs post : List AV} {v v' : AV} (hl : lookup st.rows b = some (.foc im s e pre cs post)) (hv : cs[c]? = some v) (hvv : ∀ u, VRel w S β v u → VRel w S β v' u) :
    Rel w S B β og ⟨st.tm, setRow st.rows b (.foc im s e pre (cs.set c v') post), st.used⟩ a := by
  refine ⟨h.tm, h.df, fun i y hy => ?_, h.inj, h.lt, h.used, h.one, h.Slt, h.Ble, h.pid⟩
  rw [lookup_setRow] at hy
  by_cases e' : i = b
  · subst e'
    simp only [if_pos] at hy
    cases hy
    obtain ⟨hp, hcl, g, sp, xs, us, ys, h1, h2, ho, hb, h3, vx, vu, vy, rest⟩ := h.row i _ hl
    refine ⟨hp, by rw [List.length_set]; exact hcl, g, sp, xs, us, ys, h1, h2, ho, hb, h3, vx, ?_, vy, rest⟩
    obtain ⟨u, hu, hr⟩ := vu.at_ hv
    have := vu.set c (hvv u hr)
    obtain ⟨hlt, he⟩ := List.getElem?_eq_some_iff.1 hu
    rwa [← he, List.set_getElem_self hlt] at this
  · rw [if_neg e'] at hy
    exact h.row i y hy
theorem RelX.home2 (h : RelX w0 S0 B st a w) (x : Nat × Nat × Nat × TypeId) : RelX w0 S0 B (home2 st x) a w := by
  obtain ⟨S, β, og, hR, hO⟩ := h
  unfold Go.Ev.home2
  split
  · exact ⟨S, β, og, hR, hO⟩
  · rename_i hc
    have hf : Fresh x.2.2.1 st.used := by
      simp only [Bool.or_eq_true, not_or, Bool.not_eq_true] at hc
      exact ⟨by simpa using hc.1, Nat.lt_of_not_le fun h => by rw [Nat.ble_eq_true_of_le h] at hc; simp at hc⟩
    split
    · rename_i im cs hb
      have hbu : x.1 ≠ x.2.2.1 := by
        intro e
        obtain ⟨g, vs, t, _, hbt, _⟩ := hR.row x.1 _ hb
        exact hf.1 (by rw [← e]; exact hR.used _ _ hbt)
      split
      · rename_i id hid
        split
        · rename_i r hl
          split
          · exact ⟨S, β, og, hR, hO⟩
          · rename_i hne
            obtain ⟨h1, h2⟩ := hR.rename hl hf
            have ht := getD_some hid (by simp)
            refine ⟨S, _, _, h1.setBox (b := x.1) (c := x.2.1) (im := im) (cs := cs) (v := .own id) ?_ ht ?_, hO⟩
            · show lookup (setRow (delRow st.rows id) x.2.2.1 r) x.1 = _
              rw [lookup_setRow, if_neg hbu, lookup_delRow, if_neg (fun e => hne e.symm)]
              exact hb
            · intro u hu
              cases hu with
              | own _ _ _ wd hbt =>
                refine h2 u ?_
                by_cases e : id = x.2.2.1
                · exfalso
                  have h0 := hR.row id r hl
                  cases r with
                  | box _ _ => obtain ⟨_, _, _, _, hbt', _⟩ := h0; exact hf.1 (by rw [← e]; exact hR.used _ _ hbt')
                  | arr _ _ _ _ _ => obtain ⟨_, _, _, _, _, _, hbt', _⟩ := h0; exact hf.1 (by rw [← e]; exact hR.used _ _ hbt')
                  | foc _ _ _ _ _ _ => obtain ⟨_, _, _, _, _, _, _, _, _, _, hbt', _⟩ := h0; exact hf.1 (by rw [← e]; exact hR.used _ _ hbt')
                · rw [upd_other _ _ _ _ e] at hbt
                  exact .own _ id u wd hbt
        · exact ⟨S, β, og, hR, hO⟩
      · rename_i s hs
        split
        · rename_i hw
          have ht := getD_some hs (by simp)
          obtain ⟨g, vs, t, hog, hbt, hhh, hvs, hrest⟩ := hR.row x.1 _ hb
          obtain ⟨u, hu, hv⟩ := hvs.at_ ht
          cases hv with
          | slz _ _ A =>
            obtain ⟨h1, h2⟩ := hR.promote x.2.2.2 A hf (by rw [Nat.blt_eq] at hw; exact hw)
            have hβ : ∀ i y, β i = some y → upd β x.2.2.1 (some (.slice A 0 0, s.width)) i = some y := fun i y hy => by
              have hne : i ≠ x.2.2.1 := fun e => hf.1 (by rw [← e]; exact hR.used i y hy)
              rw [upd_other _ _ _ _ hne]; exact hy
            refine ⟨S, _, _, ⟨h1.tm, h1.df, fun i y hy => ?_, h1.inj, h1.lt, h1.used, h1.one, h1.Slt, h1.Ble, h1.pid⟩, hO⟩
            rw [lookup_setRow] at hy
            by_cases e : i = x.1
            · subst e
              simp only [if_pos] at hy
              cases hy
              rw [upd_other _ _ _ _ hbu]
              refine ⟨g, vs, t, hog, hβ _ _ hbt, hhh, ?_, hrest⟩
              have := (hvs.mono (fun _ h => h) (fun _ _ => rfl) hβ).set x.2.1 h2
              obtain ⟨hlt, he⟩ := List.getElem?_eq_some_iff.1 hu
              have hsame : vs.set x.2.1 (.slice A 0 0) = vs := by rw [← he]; exact List.set_getElem_self hlt
              rw [hsame] at this
              exact this
            · rw [if_neg e] at hy
              exact h1.row i y hy
        · exact ⟨S, β, og, hR, hO⟩
      · exact ⟨S, β, og, hR, hO⟩
    · rename_i im s e pre cs post hb
      have hbu : x.1 ≠ x.2.2.1 := by
        intro e
        obtain ⟨_, _, _, _, _, _, _, _, _, _, hbt, _⟩ := hR.row x.1 _ hb
        exact hf.1 (by rw [← e]; exact hR.used _ _ hbt)
      split
      · rename_i id hid
        split
        · rename_i r hl
          split
          · exact ⟨S, β, og, hR, hO⟩
          · rename_i hne
            obtain ⟨h1, h2⟩ := hR.rename hl hf
            have ht := getD_some hid (by simp)
            refine ⟨S, _, _, h1.setFoc (b := x.1) (c := x.2.1) (im := im) (cs := cs) (v := .own id) ?_ ht ?_, hO⟩
            · show lookup (setRow (delRow st.rows id) x.2.2.1 r) x.1 = _
              rw [lookup_setRow, if_neg hbu, lookup_delRow, if_neg (fun e => hne e.symm)]
              exact hb
            · intro u hu
              cases hu with
              | own _ _ _ wd hbt =>
                refine h2 u ?_
                by_cases e : id = x.2.2.1
                · exfalso
                  have h0 := hR.row id r hl
                  cases r with
                  | box _ _ => obtain ⟨_, _, _, _, hbt', _⟩ := h0; exact hf.1 (by rw [← e]; exact hR.used _ _ hbt')
                  | arr _ _ _ _ _ => obtain ⟨_, _, _, _, _, _, hbt', _⟩ := h0; exact hf.1 (by rw [← e]; exact hR.used _ _ hbt')
                  | foc _ _ _ _ _ _ => obtain ⟨_, _, _, _, _, _, _, _, _, _, hbt', _⟩ := h0; exact hf.1 (by rw [← e]; exact hR.used _ _ hbt')
                · rw [upd_other _ _ _ _ e] at hbt
                  exact .own _ id u wd hbt
        · exact ⟨S, β, og, hR, hO⟩
      · exact ⟨S, β, og, hR, hO⟩
    · exact ⟨S, β, og, hR, hO⟩
theorem foldl_rel {α : Type} {f : St → α → St} (hf : ∀ st x, RelX w0 S0 B st a w → RelX w0 S0 B (f st x) a w) : ∀ (l : List α) (st : St), RelX w0 S0 B st a w → RelX w0 S0 B (l.foldl f st) a w
  | [], _, h => h
  | x :: l, st, h => foldl_rel hf l _ (hf st x h)
theorem RelX.norm (h : RelX w0 S0 B st a w) (N : Norm) : RelX w0 S0 B (norm N st) a w := by
  unfold Go.Ev.norm
  refine RelX.mask (foldl_rel (fun st x h => RelX.home2 h x) _ _ (foldl_rel (fun st x h => RelX.home1 h x) _ _ ?_)) _ _
  exact h.mask _ _
theorem setAll_at : ∀ (is : List Nat) (vs tm : List AV) (j : Nat) (v : AV), (setAll tm is vs)[j]? = some v → tm[j]? = some v ∨ ∃ n : Nat, is[n]? = some j ∧ vs[n]? = some v
  | [], vs, tm, j, v, h => by simp only [setAll] at h; exact .inl h
  | i :: is, [], tm, j, v, h => by simp [setAll] at h; exact .inl h
  | i :: is, x :: vs, tm, j, v, h => by
    simp only [setAll] at h
    rcases setAll_at is vs _ j v h with h | ⟨n, h1, h2⟩
    · rw [List.getElem?_set] at h
      split at h
      · rename_i e
        split at h
        · cases h; exact .inr ⟨0, by simp [e], rfl⟩
        · cases h
      · exact .inl h
    · exact .inr ⟨n + 1, by simpa using h1, by simpa using h2⟩
theorem setAll_length : ∀ (is : List Nat) (vs tm : List AV), (setAll tm is vs).length = tm.length
  | [], vs, tm => by simp only [setAll]
  | i :: is, [], tm => rfl
  | i :: is, x :: vs, tm => by simp [setAll, setAll_length is vs]
theorem lookup_putRows (rows : List (Nat × Row)) : ∀ (is : List Nat) (id : Nat) (r : Row), lookup (putRows is (is.map fun i => lookup rows i)) id = some r → lookup rows id = some r
  | [], id, r, h => by simp [putRows, lookup] at h
  | i :: is, id, r, h => by
    simp only [List.map_cons] at h
    cases hl : lookup rows i with
    | none => rw [hl] at h; exact lookup_putRows rows is id r h
    | some x =>
      rw [hl] at h
      simp only [putRows, lookup] at h
      split at h
      · rename_i e; cases h; rw [← e]; exact hl
      · exact lookup_putRows rows is id r h
theorem maskFrom_length (keep ids : List Nat) : ∀ (i : Nat) (tm : List AV), (maskFrom keep ids i tm).length = tm.length
  | _, [] => rfl
  | i, v :: vs => by simp [maskFrom, maskFrom_length keep ids (i + 1) vs]
theorem home1_length (st : St) (x : Nat × Nat × TypeId) : (home1 st x).tm.length = st.tm.length := by
  unfold home1
  repeat' split
  all_goals simp [dropRow, mask, maskFrom_length]
theorem home2_length (st : St) (x : Nat × Nat × Nat × TypeId) : (home2 st x).tm.length = st.tm.length := by
  unfold home2
  repeat' split
  all_goals rfl
theorem foldl_length {α : Type} {f : St → α → St} (hf : ∀ st x, (f st x).tm.length = st.tm.length) : ∀ (l : List α) (st : St), (l.foldl f st).tm.length = st.tm.length
  | [], _ => rfl
  | x :: l, st => by rw [List.foldl_cons, foldl_length hf l, hf]
theorem norm_length (N : Norm) (st : St) : (norm N st).tm.length = st.tm.length := by
  unfold norm mask
  simp only [maskFrom_length]
  rw [foldl_length home2_length, foldl_length home1_length]
  simp only [maskFrom_length]
theorem RelX.expand (h : RelX w0 S0 B st a w) (N : Norm) (hl : st.tm.length = N.len) : RelX w0 S0 B (Go.Ev.expand N (valsOf N (Go.Ev.norm N st)) (rowsN N (Go.Ev.norm N st))) a w := by
  obtain ⟨S, β, og, hR, hO⟩ := h.norm N
  refine ⟨S, β, og, ⟨⟨?_, fun j c u hc hu => ?_⟩, hR.df, fun id r hr => hR.row id r (lookup_putRows _ _ _ _ hr), hR.inj, hR.lt, fun id x hx => ?_, hR.one, hR.Slt, hR.Ble, hR.pid⟩, hO⟩
  · simp only [Go.Ev.expand, setAll_length, List.length_replicate]
    rw [hR.tm.1, norm_length, hl]
  · rcases setAll_at _ _ _ _ _ hc with h1 | ⟨n, h1, h2⟩
    · have := (List.mem_replicate.1 (List.mem_of_getElem? h1)).2
      subst this
      exact .unk _ _
    · simp only [valsOf, List.getElem?_map, h1, Option.map_some, Option.some.injEq] at h2
      rw [← h2]
      cases hj : (Go.Ev.norm N st).tm[j]? with
      | none => simp only [List.getD, hj, Option.getD_none]; exact .unk _ _
      | some c' => simp only [List.getD, hj, Option.getD_some]; exact hR.tm.2 j c' u hj hu
  · exact hR.used id x hx
end norm
section code
variable {R : Option Nat} {P : Program} {w0 : World} {S0 : Nat → Prop} {B : Ctx} {Γ : Env} {K : List (Nat × Loop)}
def exOf : Ex → Exit
  | .normal => .normal
  | .exit id => .exit id
  | .ret => .ret
def DrawOK (P : Program) (Γ : Env) : Prop :=
  ∀ (ρ : Type) (w0 : World) (S0 : Nat → Prop) (B : Ctx) (id : Nat) (ops : Array Oper) (k : St → Option ρ) (r : ρ) (st : St) (a : Act) (w : World) (Q : Exit → Act → World → Prop) (R : Option Nat), ops.size ≤ 64 → regOK Γ ops st.tm = true → id < 67108864 →
    evOps P Γ id ops.toList (some (ancTab ops.toList)) k 0 ops.toList st = some r → RelX w0 S0 B st a w → (∀ st a w, k st = some r → RelX w0 S0 B st a w → Q .normal a w) → (Code.region id ops true).wpR R P Q a w
def LoopOK (P : Program) (Γ : Env) (K : List (Nat × Loop)) (b : Code) (l : Loop) : Prop :=
  (∀ (ρ : Type) (vs : List AV) (rs : List (Option Row)) (k : Ex → List AV → List (Option Row) → Option ρ) (r : ρ), l.L ρ vs rs k = some r →
    ∃ m p, iter l.N (fun st => evC P Γ K b (Ex × St) st fun e st' => some (e, st')) m vs rs = some p ∧ k p.1 p.2.1 p.2.2 = some r) ∧
  ∀ (ρ : Type) (vs : List AV) (rs : List (Option Row)) (k : Ex → List AV → List (Option Row) → Option ρ), l.L ρ vs rs k = (l.L (Ex × List AV × List (Option Row)) vs rs fun e v x => some (e, v, x)).bind fun q => k q.1 q.2.1 q.2.2
def KOK (P : Program) (Γ : Env) (K : List (Nat × Loop)) (c : Code) : Prop := ∀ b ∈ loopsOf c, ∀ l, findIn K (firstRegion b) = some l → LoopOK P Γ K b l
theorem KOK.seqL {c d : Code} (h : KOK P Γ K (.seq c d)) : KOK P Γ K c := fun b hb => h b (by simp [loopsOf, hb])
theorem KOK.seqR {c d : Code} (h : KOK P Γ K (.seq c d)) : KOK P Γ K d := fun b hb => h b (by simp [loopsOf, hb])
theorem KOK.condL {x : Operand} {c d : Code} (h : KOK P Γ K (.cond x c d)) : KOK P Γ K c := fun b hb => h b (by simp [loopsOf, hb])
theorem KOK.condR {x : Operand} {c d : Code} (h : KOK P Γ K (.cond x c d)) : KOK P Γ K d := fun b hb => h b (by simp [loopsOf, hb])
theorem KOK.block {i : Nat} {c : Code} (h : KOK P Γ K (.block i c)) : KOK P Γ K c := fun b hb => h b (by simp [loopsOf, hb])
theorem KOK.loop {c : Code} (h : KOK P Γ K (.loop c)) : KOK P Γ K c := fun b hb => h b (by simp [loopsOf, hb])
theorem RowRel.monoB {w : World} {S B B' : Nat → Prop} {β : Bet} {id : Nat} {o : Option Nat} {r : Row} (h : RowRel w S B β id o r) (hB : ∀ g, o = some g → ¬ B g → ¬ B' g) : RowRel w S B' β id o r := by
  cases r with
  | box imm cs =>
    obtain ⟨g, vs, t, ho, hb, hh, hv, hi, hj, hBg⟩ := h
    exact ⟨g, vs, t, ho, hb, hh, hv, hi, hj, hB g ho hBg⟩
  | arr imm s e es csp =>
    obtain ⟨hp, v, sp, xs, hsh, hcs, hb, h1, hv, hor⟩ := h
    refine ⟨hp, v, sp, xs, hsh, hcs, hb, h1, hv, ?_⟩
    rcases hor with h | ⟨g, ho, hvv, hBg, rest⟩
    · exact .inl h
    · exact .inr ⟨g, ho, hvv, hB g ho hBg, rest⟩
  | foc imm s e pre cs post =>
    obtain ⟨hp, hcl, g, sp, xs, us, ys, h1, h2, ho, hb, h3, vx, vu, vy, hBg, rest⟩ := h
    exact ⟨hp, hcl, g, sp, xs, us, ys, h1, h2, ho, hb, h3, vx, vu, vy, hB g ho hBg, rest⟩
theorem Rel.putBlock {w : World} {S : Nat → Prop} {B : Ctx} {β : Bet} {og : Nat → Option Nat} {st : St} {a : Act} (h : Rel w S B β og st a) {D : Nat} (x : Obj) (hD : ∀ id r, lookup st.rows id = some r → og id ≠ some D) (hS : ¬ S D) : Rel (w.putObj D x) S B β og st a := by
  have hw : ∀ b, S b → (w.putObj D x).heap[b]? = w.heap[b]? := fun b hb => World.putObj_heap_other (fun e => hS (by rw [← e]; exact hb))
  refine ⟨h.tm.mono (fun _ h => h) hw (fun _ _ h => h), h.df, fun id r hr => ?_, h.inj, fun id g hg => by rw [World.putObj_size]; exact h.lt id g hg, h.used, h.one, fun b hb => by rw [World.putObj_size]; exact h.Slt b hb, fun b hb => by rw [World.putObj_size]; exact h.Ble b hb, h.pid⟩
  exact (h.row id r hr).keep (fun _ _ h => h) (fun _ h => h) (fun _ _ h => h) hw (fun g hg => World.putObj_heap_other (fun e => hD id r hr (by rw [← e]; exact hg)))
theorem Kept.putBlock {B : Nat → Prop} {w w' : World} (h : Kept B w w') {D : Nat} (x : Obj) (hD : ¬ B D) : Kept B w (w'.putObj D x) :=
  ⟨h.os, h.tape, h.output, by rw [World.putObj_size]; exact h.size, fun k hk => (World.putObj_heap_other (fun e => hD (by rw [← e]; exact hk))).trans (h.block k hk)⟩
def markD (D : Nat) : Deferred := { target := .collected D, args := #[] }
structure Ext (w0 : World) (S0 : Nat → Prop) (B0 : Ctx) (w1 : World) (S1 : Nat → Prop) (B1 : Ctx) : Prop where
  kept : KeptG B0 w0 w1
  sin : ∀ b, S1 b → S0 b ∨ ¬ B0 b
  sub : ∀ b, S0 b → S1 b
  up : ∀ b, B0 b → B1 b
  bet : B1.bet = B0.bet
  marks : ∃ Ds : List Nat, B1.df = Ds.map markD ++ B0.df ∧ Ds.Nodup ∧ ∀ D ∈ Ds, B1 D ∧ ¬ B0 D ∧ ¬ S1 D ∧ w1.heap[D]? = some (.deferred (some []))
theorem Ext.refl {w0 : World} {S0 : Nat → Prop} {B0 : Ctx} (h : Glb B0 w0) : Ext w0 S0 B0 w0 S0 B0 :=
  ⟨KeptG.refl h, fun _ h => .inl h, fun _ h => h, fun _ h => h, rfl, [], by simp, List.nodup_nil, fun D h => by cases h⟩
def RelE (w0 : World) (S0 : Nat → Prop) (B0 : Ctx) (st : St) (a : Act) (w : World) : Prop := ∃ w1 S1 B1, Ext w0 S0 B0 w1 S1 B1 ∧ RelX w1 S1 B1 st a w
theorem RelX.e {w0 : World} {S0 : Nat → Prop} {B0 : Ctx} {st : St} {a : Act} {w : World} (h : RelX w0 S0 B0 st a w) : RelE w0 S0 B0 st a w := by
  obtain ⟨S, β, og, hR, hO⟩ := h
  exact ⟨w0, S0, B0, Ext.refl hO.bel.glb, S, β, og, hR, hO⟩
theorem Rel.behind {w0 w1 w : World} {S0 S1 S : Nat → Prop} {B0 B1 : Ctx} {β : Bet} {og : Nat → Option Nat} {st : St} {a : Act} (hE : Ext w0 S0 B0 w1 S1 B1) (h : Rel w S B1 β og st a) : Rel w S B0 β og st { a with defers := B0.df } :=
  ⟨h.tm, rfl, fun id r hr => (h.row id r hr).monoB (fun g _ hn hb => hn (hE.up g hb)), h.inj, h.lt, h.used, h.one, h.Slt, fun b hb => h.Ble b (hE.up b hb), fun id x hp hx => by have := h.pid id x hp hx; rw [hE.bet] at this; exact this⟩
theorem leaves_of {P : Program} {w0 w1 w : World} {S0 S1 S : Nat → Prop} {B0 B1 : Ctx} {β : Bet} {og : Nat → Option Nat} {st : St} {a : Act} {fn : Func} {Z : Ending → World → Prop} (hE : Ext w0 S0 B0 w1 S1 B1) (h0 : B0.df = []) (hR : Rel w S B1 β og st a) (hO : Out w1 S1 B1 w S)
    (hfin : ∀ w', RelX w0 S0 B0 st { a with defers := B0.df } w' → ∃ v, (results fn a.tmps).run P w' = .ok v w' ∧ Z (.returned v) w') : LeavesInM Fence.wide 0 P fn a.tmps Z a.defers .returning w := by
  obtain ⟨Ds, e1, e2, e3⟩ := hE.marks
  have hkept : Kept B0 w0 w := (hE.kept.toKept).trans ⟨hO.bel.os, hO.bel.tape, hO.bel.output, hO.bel.size, fun k hk => hO.bel.block k (hE.up k hk)⟩
  have hheap : ∀ D ∈ Ds, w.heap[D]? = some (.deferred (some [])) := fun D hD => (hO.bel.block D (e3 D hD).1).trans (e3 D hD).2.2.2
  have hsin : ∀ b, S b → S0 b ∨ ¬ B0 b := fun b hb => (hO.sin b hb).elim (hE.sin b) fun h => .inr fun h' => h (hE.up b h')
  have hsub : ∀ b, S0 b → S b := fun b hb => hO.sub b (hE.sub b hb)
  have key : ∀ (l : List Nat) (w : World), l.Nodup → (∀ D ∈ l, D ∈ Ds) → (∀ D ∈ l, w.heap[D]? = some (.deferred (some []))) → Rel w S B1 β og st a → Kept B0 w0 w → LeavesInM Fence.wide 0 P fn a.tmps Z (l.map markD) .returning w := by
    intro l
    induction l with
    | nil =>
      intro w _ _ _ hR hk
      show ∃ v, _
      exact hfin w ⟨S, β, og, hR.behind hE, ⟨⟨hk, hE.kept.glb⟩, hsin, hsub⟩⟩
    | cons D l ih =>
      intro w hn hin hh hR hk
      obtain ⟨hn1, hn2⟩ := List.nodup_cons.1 hn
      obtain ⟨d1, d2, d3, _⟩ := e3 D (hin D (by simp))
      have hSD : ¬ S D := fun hs => (hO.sin D hs).elim d3 fun h => h d1
      refine ⟨by simp, .inl ⟨D, _, rfl, run_takeDeferred (hh D (by simp)), ?_⟩⟩
      refine ih (w.putObj D (.deferred none)) hn2 (fun x hx => hin x (by simp [hx])) (fun x hx => ?_) (hR.putBlock _ (fun id r hr hg => (hR.row id r hr).place.2 D hg d1) hSD) (hk.putBlock _ d2)
      rw [World.putObj_heap_other (fun e => hn1 (by rw [← e]; exact hx))]
      exact hh x (by simp [hx])
  rw [hR.df, e1, h0, List.append_nil]
  exact key Ds w e2 (fun _ h => h) hheap hR hkept
def RngOK (Γ : Env) (R : Option Nat) (c : Code) : Prop := ∀ q ∈ rngsOf c, ∀ key site, findIn Γ.rng (firstRegion q.2.2) = some (key, site) → R = none ∧ q = loopCode key
theorem RngOK.seqL {Γ : Env} {R : Option Nat} {c d : Code} (h : RngOK Γ R (.seq c d)) : RngOK Γ R c := fun q hq => h q (by simp [rngsOf, hq])
theorem RngOK.seqR {Γ : Env} {R : Option Nat} {c d : Code} (h : RngOK Γ R (.seq c d)) : RngOK Γ R d := fun q hq => h q (by simp [rngsOf, hq])
theorem RngOK.condL {Γ : Env} {R : Option Nat} {x : Operand} {c d : Code} (h : RngOK Γ R (.cond x c d)) : RngOK Γ R c := fun q hq => h q (by simp [rngsOf, hq])
theorem RngOK.condR {Γ : Env} {R : Option Nat} {x : Operand} {c d : Code} (h : RngOK Γ R (.cond x c d)) : RngOK Γ R d := fun q hq => h q (by simp [rngsOf, hq])
theorem RngOK.block {Γ : Env} {R : Option Nat} {i : Nat} {c : Code} (h : RngOK Γ R (.block i c)) : RngOK Γ R c := h
theorem RngOK.loop {Γ : Env} {R : Option Nat} {c : Code} (h : RngOK Γ R (.loop c)) : RngOK Γ R c := h
theorem RngOK.no {Γ : Env} {R : Option Nat} (h : Γ.rng = []) (c : Code) : RngOK Γ R c := fun q hq key site e => by rw [h] at e; cases e
theorem range_sound (hΓ : GOK P Γ) {key : Int} {site gf : Nat} {caps : List AV} {F : SummX} {g : Operand} {ps : Array Tmp} {assign body : Code} {ρ : Type} {st : St} {k : Ex → St → Option ρ} {r : ρ} {a : Act} {w : World} {Q : Exit → Act → World → Prop}
    (hq : (ps, assign, body) = loopCode key) (hg : val st.tm g = .fn gf caps) (hF : findX Γ gf = some F) (hen : entersB P gf = true) (hbd : hasBody P gf = true) (hfs : Fresh site st.used)
    (h : evX site F (.own site :: caps) (setRow st.rows site (rngRow key st)) (fun e => if freshB site e (site :: st.used) then (apply site none e ⟨st.tm, setRow st.rows site (rngRow key st), site :: st.used⟩).force fun st2 => rngEnd site st2 k else none) = some r)
    (hR : RelE w0 S0 B st a w) (hk : ∀ e st a w, k e st = some r → RelE w0 S0 B st a w → Q (exOf e) a w) : (Code.rangeFunc g ps assign body).wpR none P Q a w := by
  obtain ⟨w1, S1, B1, hE, S, β, og, hR, hO⟩ := hR
  refine wpIn_rangeFunc fun f _ => ?_
  obtain ⟨r0, hr0⟩ : ∃ r0 : Go.Loop, r0 = { state := .ready, pending := none, fn := f, tmps := a.tmps, params := ps, assign, body, defers := w.heap.size } := ⟨_, rfl⟩
  obtain ⟨wL, hwL⟩ : ∃ wL, wL = (w.alloc (.deferred (some []))).alloc (.loop r0) := ⟨_, rfl⟩
  have hgv := val_rel hR.tm g
  rw [hg] at hgv
  generalize hge : a.eval g = gv at hgv
  cases hgv with
  | fn _ _ _ cvs hcl hch =>
  have hsz : wL.heap.size = w.heap.size + 2 := by rw [hwL]; simp
  have hbelow : Below w.heap.size w wL := by rw [hwL]; exact ((Below.refl _ w).alloc (Nat.le_refl _) _).alloc (by simp) _
  have hhD : wL.heap[w.heap.size]? = some (.deferred (some [])) := by
    rw [hwL, Below.heap_alloc (w.alloc (.deferred (some []))) (.loop r0) w.heap.size (by simp)]
    exact World.alloc_heap_new w _
  have hhl : wL.heap[w.heap.size + 1]? = some (.loop r0) := by
    rw [hwL]
    have := World.alloc_heap_new (w.alloc (.deferred (some []))) (.loop r0)
    simpa using this
  have hlt : ∀ b, S b → b < wL.heap.size := fun b hb => by have := hR.Slt b hb; omega
  have hR1 : Rel wL S B1 β og st a := hR.grow hbelow (fun _ h => h) (fun _ _ h => h) hlt
  obtain ⟨B2, hB2⟩ : ∃ B2 : Ctx, B2 = ⟨fun b => B1 b ∨ b = w.heap.size, B1.bet, markD w.heap.size :: B1.df⟩ := ⟨_, rfl⟩
  obtain ⟨a2, ha2⟩ : ∃ a2 : Act, a2 = { a with defers := markD w.heap.size :: a.defers } := ⟨_, rfl⟩
  have hnB : ∀ g, ¬ B1 g → g ≠ w.heap.size → ¬ B2 g := fun g h1 h2 h3 => by
    rw [hB2] at h3
    exact h3.elim h1 h2
  have hR2 : Rel wL S B2 β og st a2 := by
    refine ⟨by rw [ha2]; exact hR1.tm, by rw [ha2, hB2]; show markD _ :: a.defers = markD _ :: B1.df; rw [hR.df], fun id r hr => (hR1.row id r hr).monoB (fun g hg hn => hnB g hn (fun e => by have := hR.lt id g hg; omega)), hR1.inj, hR1.lt, hR1.used, hR1.one, hR1.Slt, fun b hb => ?_, fun id x hp hx => by rw [hB2]; exact hR1.pid id x hp hx⟩
    rw [hB2] at hb
    rcases hb with hb | hb
    · exact hR1.Ble b hb
    · omega
  have hβ : ∀ id y, β id = some y → upd β site (some (.func (.yield (w.heap.size + 1)) #[] #[], 1)) id = some y := fun id y hy => by
    have hne : id ≠ site := fun e => hfs.1 (by rw [← e]; exact hR.used id y hy)
    rw [upd_other _ _ _ _ hne]; exact hy
  have hog : ∀ id, og id = some (w.heap.size + 1) → False := fun id hg => by have := hR.lt id _ hg; omega
  have hSl : ¬ S (w.heap.size + 1) := fun hs => by have := hR.Slt _ hs; omega
  have htmL : VRels wL S (upd β site (some (.func (.yield (w.heap.size + 1)) #[] #[], 1))) (AV.onlys (rowIds st.rows) st.tm) a.tmps.toList := by
    refine (onlys_rel (rowIds st.rows) _ _ hR1.tm).mono (fun _ h => h) (fun _ _ => rfl) (fun id x hx => ?_)
    exact hβ _ _ (restr_some hx).2
  have hR3 : Rel wL S B2 (upd β site (some (.func (.yield (w.heap.size + 1)) #[] #[], 1))) (upd og site (some (w.heap.size + 1))) ⟨st.tm, setRow st.rows site (rngRow key st), site :: st.used⟩ a2 := by
    refine ⟨hR2.tm.mono (fun _ h => h) (fun _ _ => rfl) hβ, hR2.df, fun id y hy => ?_, fun id id' g hg hg' => ?_, fun id g hg => ?_, fun id y hy => ?_, fun id y hy => ?_, hR2.Slt, hR2.Ble, pid_upd hR2.pid hfs.2⟩
    · rw [lookup_setRow] at hy
      by_cases e : id = site
      · subst e
        simp only [if_pos] at hy
        cases hy
        rw [upd_same]
        refine ⟨w.heap.size + 1, .tuple #[.int .i64 key] :: a.tmps.toList, .func (.yield (w.heap.size + 1)) #[] #[], rfl, upd_same _ _ _, .inr (.inl ⟨r0, key, a.tmps.toList, false, hhl, by rw [hr0]; rfl, by rw [hr0]; rfl, by rw [hr0]; exact hq, rfl, by rw [hr0], rfl⟩), VRels.cons ?_ htmL, fun _ => hSl, (fun h => by cases h), fun hb => ?_⟩
        · exact .tup _ [.int .i64 key] [.int .i64 key] rfl fun j c u hc hu => by
            cases j with
            | zero => simp at hc hu; subst hc; subst hu; exact .int _ _ _
            | succ j => simp at hc
        · rw [hB2] at hb
          rcases hb with hb | hb
          · have := hR.Ble _ hb; omega
          · omega
      · rw [if_neg e] at hy
        rw [upd_other _ _ _ _ e]
        exact (hR2.row id y hy).keep hβ (fun _ h => h) (fun _ _ h => h) (fun _ _ => rfl) (fun _ _ => rfl)
    · by_cases e : id = site <;> by_cases e' : id' = site
      · rw [e, e']
      · subst e; rw [upd_same] at hg; cases hg; rw [upd_other _ _ _ _ e'] at hg'; exact (hog _ hg').elim
      · subst e'; rw [upd_same] at hg'; cases hg'; rw [upd_other _ _ _ _ e] at hg; exact (hog _ hg).elim
      · rw [upd_other _ _ _ _ e] at hg; rw [upd_other _ _ _ _ e'] at hg'; exact hR.inj id id' g hg hg'
    · by_cases e : id = site
      · subst e; rw [upd_same] at hg; cases hg; omega
      · rw [upd_other _ _ _ _ e] at hg; exact hR2.lt id g hg
    · by_cases e : id = site
      · subst e; exact List.mem_cons_self
      · rw [upd_other _ _ _ _ e] at hy; exact List.mem_cons_of_mem _ (hR.used id y hy)
    · by_cases e : id = site
      · subst e; rw [upd_same] at hy; cases hy; rfl
      · rw [upd_other _ _ _ _ e] at hy; exact hR.one id y hy
  have hkeptL : Kept B1 w1 wL := (hO.bel.toKept).trans (Kept.of_below hbelow hR.Ble)
  have hglb : Glb B2 wL := fun w' hk => hO.bel.here w' ((Kept.of_below hbelow hR.Ble).trans ⟨hk.os, hk.tape, hk.output, hk.size, fun b hb => hk.block b (by rw [hB2]; exact .inl hb)⟩)
  have hO3 : Out wL S B2 wL S := ⟨KeptG.refl hglb, fun _ h => .inl h, fun _ h => h⟩
  have hE3 : Ext w0 S0 B wL S B2 := by
    obtain ⟨Ds, e1, e2, e3⟩ := hE.marks
    refine ⟨hE.kept.trans ⟨hkeptL.os, hkeptL.tape, hkeptL.output, hkeptL.size, fun b hb => hkeptL.block b (hE.up b hb)⟩, fun b hb => (hO.sin b hb).elim (hE.sin b) fun h => .inr fun h' => h (hE.up b h'), fun b hb => hO.sub b (hE.sub b hb), fun b hb => by rw [hB2]; exact .inl (hE.up b hb), by rw [hB2]; exact hE.bet, w.heap.size :: Ds, by rw [hB2]; show markD _ :: B1.df = _; rw [e1]; rfl, List.nodup_cons.2 ⟨fun hin => ?_, e2⟩, fun D hD => ?_⟩
    · have := hR.Ble _ (e3 _ hin).1
      omega
    · rcases List.mem_cons.1 hD with rfl | hD
      · refine ⟨by rw [hB2]; exact .inr rfl, fun hb => ?_, fun hs => ?_, hhD⟩
        · have := hR.Ble _ (hE.up _ hb); omega
        · have := hR.Slt _ hs; omega
      · obtain ⟨d1, d2, d3, d4⟩ := e3 D hD
        exact ⟨by rw [hB2]; exact .inl d1, d2, fun hs => (hO.sin D hs).elim d3 fun h => h d1, (hkeptL.block D d1).trans d4⟩
  have hargs : VRels wL S (upd β site (some (.func (.yield (w.heap.size + 1)) #[] #[], 1))) (.own site :: caps) (.func (.yield (w.heap.size + 1)) #[] #[] :: cvs) :=
    VRels.cons (.own _ site _ 1 (upd_same _ _ _)) (VRels.mono (w := w) (S := S) (β := β) ⟨hcl, hch⟩ (fun _ h => h) (fun b hs => hbelow.block b (hR.Slt b hs)) hβ)
  obtain ⟨S4, B4, β4, og4, avs4, rows4, k4, hH, hSB, hdom, hv4, hF4, hown, hcont⟩ := evX_open (site := site) hR3 hO3 (rowsV := setRow st.rows site (rngRow key st)) (fun _ _ h => h) (fun e he => by
    by_cases hf : freshB site e (site :: st.used) = true
    · exact hf
    · simp [hf] at he) none hargs h
  have hC := (hΓ.opens gf F hF) ρ wL S4 B4 β4 og4 avs4 rows4 _ _ r hH hSB hdom hv4 hF4
  have hen2 : ∀ args w, (callFunc gf args).run P w = .ok (.enter gf args) w := fun args w => by
    unfold hasBody at hbd
    unfold entersB at hen
    cases hfn : P.funcs[gf]? with
    | none => rw [hfn] at hbd; cases hbd
    | some fn =>
      simp only [hfn, Bool.not_eq_true'] at hen hbd
      have hnone : fn.body.isNone = false := by cases hbb : fn.body <;> simp_all
      simp only [callFunc, Sem.run_bind, run_program, Result.andThen_ok, hfn]
      simp [hen, hnone]
  refine ⟨w.heap.size + 1, [markD w.heap.size], wL, { target := .fn (.func gf) cvs.toArray, args := #[.func (.yield (w.heap.size + 1)) #[] #[]] }, wL, gf, #[.func (.yield (w.heap.size + 1)) #[] #[]] ++ cvs.toArray, wL, ?_, ?_, fun _ _ => trivial, ?_, fun h => (by cases h), ?_⟩
  · rw [hwL, hr0]; exact run_enterLoop_outer _ _ _ _ _
  · simp only [resolve, hge]
    simp [go_sem]
  · simp [invoke, go_sem, hen2]
  · have hC' := hC.calls hbd
    have harr : (.func (.yield (w.heap.size + 1)) #[] #[] :: cvs).toArray = #[.func (.yield (w.heap.size + 1)) #[] #[]] ++ cvs.toArray := by apply Array.ext'; simp
    rw [harr] at hC'
    refine CallsIn.mono (CallsIn.at (R0 := none) (callsIn_wide.2 hC')) fun e w3 hpost => ?_
    obtain ⟨u, v, prow, nrow, S', β', og', rfl, hk4, hA⟩ := hpost
    obtain ⟨e, S2, β2, og2, hy, hRr, hOr, hmono⟩ := hcont u v prow nrow w3 S' β' og' hk4 hA
    by_cases hf : freshB site e (site :: st.used) = true
    · simp only [hf, if_true, St.force_eq] at hy
      generalize apply site none e ⟨st.tm, setRow st.rows site (rngRow key st), site :: st.used⟩ = st2 at hy hRr
      unfold rngEnd at hy
      have fin : ∀ (d : Bool) (tk cs : List AV), tk = recA key d ∨ tk.length = (recV key d).length → lookup st2.rows site = some (.box false (.tup tk :: cs)) → k (bif d then .ret else .normal) (dropRow st2 site) = some r → ∃ jump w₄, (Instr.endLoop (w.heap.size + 1)).run P w3 = .ok jump w₄ ∧
          (match jump with
           | none => Q .normal { a with defers := [markD w.heap.size] ++ a.defers } w₄
           | some c => c.wpIn (fen none) 0 P Q { a with defers := [markD w.heap.size] ++ a.defers } w₄) := fun d tk cs htk hls hy => by
        obtain ⟨g2, vs2, v2, ho2, hb2, hH2, hvs2, hi2, _⟩ := hRr.row site _ hls
        have hb3 := hmono site _ (upd_same β site (some (.func (.yield (w.heap.size + 1)) #[] #[], 1)))
        rw [hb2] at hb3
        simp only [Option.some.injEq, Prod.mk.injEq, and_true] at hb3
        subst hb3
        rcases hH2 with ⟨_, hp, _⟩ | ⟨r', key', us, d', hh2, hs2, hp2, _, hv2, _, hg2⟩ | ⟨_, _, _, _, hp⟩
        rotate_left 2
        · cases hp
        · cases hp
        · have hdd : d' = d := by
            have hlk : tk.length = (recV key d).length := htk.elim (fun e => by rw [e]; cases d <;> rfl) id
            obtain ⟨v, vs', e0, hx, _⟩ := hvs2.inv
            rw [hv2] at e0
            simp only [List.cons.injEq] at e0
            cases hx with
            | tup _ _ xs hl _ =>
              have e4 : xs = recV key' d' := by
                have := e0.1
                simp only [Value.tuple.injEq] at this
                rw [← Array.toList_inj] at this
                simpa using this.symm
              rw [e4, hlk] at hl
              cases d <;> cases d' <;> simp [recV] at hl <;> rfl
          subst hdd
          have hg2' : g2 = w.heap.size + 1 := by
            simp only [Value.func.injEq, Fn.yield.injEq] at hg2
            exact hg2.1.symm
          subst hg2'
          have hX : RelE w0 S0 B (dropRow st2 site) a2 (w3.putObj (w.heap.size + 1) (.loop { r' with state := .exhausted })) := by
            refine ⟨wL, S, B2, hE3, S2, _, og2, (Rel.mask hRr (List.range st2.tm.length) ((rowIds st2.rows).filter fun i => !(i == site))).putBlock _ (fun id r hr hg => ?_) (hi2 rfl), ⟨⟨hOr.bel.toKept.putBlock _ ?_, hOr.bel.glb⟩, hOr.sin, hOr.sub⟩⟩
            · obtain ⟨hin, _⟩ := lookup_keepRows _ _ _ _ _ hr
              have := hRr.inj id site _ hg ho2
              subst this
              simp at hin
            · intro hb
              exact (hRr.row site _ hls).place.2 _ ho2 hb
          have ha : ({ a with defers := [markD w.heap.size] ++ a.defers } : Act) = a2 := by rw [ha2]; rfl
          cases d' with
          | false =>
            refine ⟨none, _, by rw [← (show r'.pending = none from hp2)]; exact run_endLoop hh2 (by rw [hs2]; simp), ?_⟩
            show Q .normal { a with defers := [markD w.heap.size] ++ a.defers } _
            rw [ha]
            exact hk .normal _ a2 _ hy hX
          | true =>
            refine ⟨some .ret, _, by rw [← (show r'.pending = some .ret from hp2)]; exact run_endLoop hh2 (by rw [hs2]; simp), ?_⟩
            show Code.wpIn (fen none) 0 P .ret Q { a with defers := [markD w.heap.size] ++ a.defers } _
            rw [ha]
            exact wpIn_ret (hk .ret _ a2 _ hy hX)
      split at hy
      · rename_i q n cs hls
        exact fin false [.int q n] cs (.inr rfl) hls hy
      · rename_i q n cs hls
        exact fin true [.int q n, .bool true] cs (.inr rfl) hls hy
      · cases hy
    · simp [hf] at hy
theorem evC_sound (hΓ : GOK P Γ) (hD : DrawOK P Γ) : ∀ (c : Code), KOK P Γ K c → RngOK Γ R c → ∀ (ρ : Type) (st : St) (k : Ex → St → Option ρ) (r : ρ) (a : Act) (w : World) (Q : Exit → Act → World → Prop), evC P Γ K c ρ st k = some r → RelE w0 S0 B st a w →
    (∀ e st a w, k e st = some r → RelE w0 S0 B st a w → Q (exOf e) a w) → c.wpR R P Q a w := by
  intro c
  induction c with
  | skip => intro _ _ ρ st k r a w Q h hR hk; exact wpIn_skip (hk .normal st a w h hR)
  | label l => intro _ _ ρ st k r a w Q h hR hk; exact wpIn_label (hk .normal st a w h hR)
  | region id ops draw =>
    intro hKc hRg ρ st k r a w Q h hR hk
    simp only [evC] at h
    split at h
    · rename_i hsz
      split at h
      · rename_i hd
        split at h
        · rename_i hok
          subst hd
          simp only [Bool.and_eq_true] at hok
          obtain ⟨w1, S1, B1, hE, hR⟩ := hR
          exact hD ρ w1 S1 B1 id ops _ r st a w Q R (Nat.le_of_ble_eq_true hsz) hok.1 (Nat.blt_eq ▸ hok.2) h hR (fun st a w hs hx => hk .normal st a w hs ⟨w1, S1, B1, hE, hx⟩)
        · cases h
      · rename_i hd
        have hd' : draw = false := by simpa using hd
        subst hd'
        obtain ⟨w1, S1, B1, hE, hR⟩ := hR
        exact wpIn_region_list (evOps_sound hΓ (fun st a w hs hx => hk .normal st a w hs ⟨w1, S1, B1, hE, hx⟩) ops.toList 0 st a w h hR)
    · cases h
  | seq x z ihx ihz =>
    intro hKc hRg ρ st k r a w Q h hR hk
    refine wpIn_seq (ihx hKc.seqL hRg.seqL ρ st _ r a w _ h hR fun e st' a' w' he hx => ?_)
    cases e with
    | normal => exact ihz hKc.seqR hRg.seqR ρ st' k r a' w' Q he hx hk
    | exit id => exact hk (.exit id) st' a' w' he hx
    | ret => exact hk .ret st' a' w' he hx
  | cond c x z ihx ihz =>
    intro hKc hRg ρ st k r a w Q h hR hk
    simp only [evC] at h
    split at h
    · rename_i t hc
      have hcv : a.eval c = .bool t := by
        obtain ⟨_, _, _, _, S, β, og, hR', _⟩ := hR
        have := val_rel hR'.tm c
        rw [hc] at this
        exact this.bool_inv
      refine wpIn_cond hcv ?_
      cases t with
      | true => exact ihx hKc.condL hRg.condL ρ st k r a w Q h hR hk
      | false => exact ihz hKc.condR hRg.condR ρ st k r a w Q h hR hk
    · rename_i hc
      split at h
      · obtain ⟨h1, h2⟩ := both_some h
        obtain ⟨t, hcv⟩ : ∃ t, a.eval c = .bool t := by
          obtain ⟨_, _, _, _, S, β, og, hR', _⟩ := hR
          have := val_rel hR'.tm c
          rw [hc] at this
          generalize hu : a.eval c = u at this
          cases this with
          | ubool _ b => exact ⟨b, rfl⟩
        refine wpIn_cond hcv ?_
        cases t with
        | true => exact ihx hKc.condL hRg.condL ρ st k r a w Q h1 hR hk
        | false => exact ihz hKc.condR hRg.condR ρ st k r a w Q h2 hR hk
      · cases h
    · cases h
  | block id b ih =>
    intro hKc hRg ρ st k r a w Q h hR hk
    refine wpIn_block (ih hKc.block hRg.block ρ st _ r a w _ h hR fun e st' a' w' he hx => ?_)
    cases e with
    | normal => exact hk .normal st' a' w' he hx
    | ret => exact hk .ret st' a' w' he hx
    | exit i =>
      simp only at he
      simp only [exOf, Exit.inBlock]
      split at he
      · rename_i e; rw [if_pos e]; exact hk .normal st' a' w' he hx
      · rename_i e; rw [if_neg e]; exact hk (.exit i) st' a' w' he hx
  | loop b ih =>
    intro hKc hRg ρ st k r a w Q h hR hk
    simp only [evC] at h
    split at h
    · rename_i l hl
      split at h
      · rename_i hlen
        have hlen' : st.tm.length = l.N.len := Nat.eq_of_beq_eq_true hlen
        rw [St.force_eq] at h
        obtain ⟨m, p, hp, hkp⟩ := (hKc b (by simp [loopsOf]) l hl).1 ρ _ _ _ r h
        refine wpIn_loop_rounds m ?_
        have key : ∀ m vs rs a w, iter l.N (fun st => evC P Γ K b (Ex × St) st fun e st' => some (e, st')) m vs rs = some p → RelE w0 S0 B (expand l.N vs rs) a w → Code.roundsIn (fen R) 0 P b Q m a w := by
          intro m
          induction m with
          | zero => intro vs rs a w hi; simp [iter] at hi
          | succ m ihm =>
            intro vs rs a w hi hR
            rw [roundsIn_succ]
            simp only [iter] at hi
            cases hb : evC P Γ K b (Ex × St) (expand l.N vs rs) fun e st' => some (e, st') with
            | none => simp [hb] at hi
            | some q =>
              simp only [hb] at hi
              split at hi
              · rename_i hql
                have hql' : q.2.tm.length = l.N.len := Nat.eq_of_beq_eq_true hql
                refine ih hKc.loop hRg.loop (Ex × St) _ _ q a w _ hb hR fun e st' a' w' he hx => ?_
                simp only [Option.some.injEq] at he
                subst he
                have hout : RelE w0 S0 B (expand l.N (valsOf l.N (norm l.N st')) (rowsN l.N (norm l.N st'))) a' w' := by obtain ⟨w1, S1, B1, hE, hx⟩ := hx; exact ⟨w1, S1, B1, hE, hx.expand l.N hql'⟩
                cases e with
                | normal => exact ihm _ _ a' w' hi hout
                | exit id => simp only [Option.some.injEq] at hi; subst hi; exact hk (.exit id) _ a' w' hkp hout
                | ret => simp only [Option.some.injEq] at hi; subst hi; exact hk .ret _ a' w' hkp hout
              · cases hi
        obtain ⟨w1, S1, B1, hE, hR⟩ := hR
        exact key m _ _ a w hp ⟨w1, S1, B1, hE, hR.expand l.N hlen'⟩
      · cases h
    · refine wpIn_loop_rounds Γ.unroll ?_
      have key : ∀ (m : Nat) (st : St) (a : Act) (w : World), unrL (fun ρ st k => evC P Γ K b ρ st k) m ρ st k = some r → RelE w0 S0 B st a w → Code.roundsIn (fen R) 0 P b Q m a w := by
        intro m
        induction m with
        | zero => intro st a w h; cases h
        | succ m ihm =>
          intro st a w h hR
          rw [roundsIn_succ]
          refine ih hKc.loop hRg.loop ρ st _ r a w _ h hR fun e st' a' w' he hx => ?_
          cases e with
          | normal => exact ihm st' a' w' he hx
          | exit id => exact hk (.exit id) st' a' w' he hx
          | ret => exact hk .ret st' a' w' he hx
      exact key Γ.unroll st a w h hR
  | exit id => intro _ _ ρ st k r a w Q h hR hk; exact wpIn_exit (hk (.exit id) st a w h hR)
  | ret => intro _ _ ρ st k r a w Q h hR hk; exact wpIn_ret (hk .ret st a w h hR)
  | rangeFunc g ps assign body _ _ =>
    intro hKc hRg ρ st k r a w Q h hR hk
    simp only [evC] at h
    split at h
    · rename_i key site hrng
      obtain ⟨rfl, hq⟩ := hRg (ps, assign, body) (by simp [rngsOf]) key site hrng
      split at h
      · rename_i gf caps hg
        split at h
        · rename_i F hF
          split at h
          · rename_i hc
            simp only [Bool.and_eq_true, Bool.not_eq_true'] at hc
            obtain ⟨⟨hen, hbd⟩, hu, hs⟩ := hc
            exact range_sound hΓ hq hg hF hen hbd ⟨by simpa using hu, Nat.blt_eq ▸ hs⟩ h hR hk
          · cases h
        · cases h
      · cases h
    · cases h
  | scope b _ => intro _ _ ρ st k r a w Q h; simp [evC] at h
  | goto l => intro _ _ ρ st k r a w Q h; simp [evC] at h
  | refuse why => intro _ _ ρ st k r a w Q h; simp [evC] at h
def resRun (tmps : Array Value) : ResultVar → Sem Value
  | .tmp t => pure (tmps.getD t undef)
  | .cell ad t => do loadVar t (← asAddr (tmps.getD ad undef))
theorem resultOf_sound {w : World} {S : Nat → Prop} {β : Bet} {og : Nat → Option Nat} {st : St} {a : Act} (hR : Rel w S B β og st a) {rv : ResultVar} {v : AV} (h : resultOf P st.rows st.tm rv = some v) :
    ∃ u, (resRun a.tmps rv).run P w = .ok u w ∧ VRel w S β v u := by
  cases rv with
  | tmp t =>
    simp only [resultOf, Option.some.injEq] at h
    subst h
    exact ⟨_, rfl, getD_rel hR.tm t⟩
  | cell t ty =>
    simp only [resultOf] at h
    have hg := getD_rel hR.tm t
    split at h
    · rename_i id off hp
      rw [hp] at hg
      split at h
      · rename_i im cs hl
        obtain ⟨g, vs, v0, ho, hb, hH, hvs, _⟩ := hR.row id _ hl
        generalize he : a.tmps.getD t undef = u at hg
        cases hg with
        | ptr _ _ _ g' wd hb' =>
          rw [hb] at hb'
          simp only [Option.some.injEq, Prod.mk.injEq] at hb'
          obtain ⟨hgg, ⟨t', hh⟩, h1⟩ := hH.ptr hb'.1
          subst hgg
          have hload := load_sound (P := P) (t := ty) (cs := cs.drop off) (z := fun x => some x) (r := v) (w := w) (S := S) (β := β) (ad := ⟨g, off, none⟩) (xs := vs.drop off) h (hvs.drop off) (fun u hu => h1 u (List.mem_of_mem_drop hu)) (fun j u hu => by
            rw [add_lit', row_cell (Lies.plain hh (m := true))]; simpa using hu)
          obtain ⟨v', u, hv', hvu, hrun⟩ := hload
          cases hv'
          refine ⟨u, ?_, hvu⟩
          simp only [resRun, he, asAddr, pure_bind]
          exact hrun
      · cases h
    · cases h
theorem resultsOf_sound {w : World} {S : Nat → Prop} {β : Bet} {og : Nat → Option Nat} {st : St} {a : Act} (hR : Rel w S B β og st a) : ∀ (rs : List ResultVar) (vs : List AV), resultsOf P st.rows st.tm rs = some vs →
    ∃ us, (rs.mapM (resRun a.tmps)).run P w = .ok us w ∧ VRels w S β vs us
  | [], vs, h => by simp [resultsOf] at h; subst h; exact ⟨[], by simp, VRels.nil⟩
  | rv :: rs, vs, h => by
    simp only [resultsOf] at h
    cases h1 : resultOf P st.rows st.tm rv with
    | none => simp [h1] at h
    | some v =>
      cases h2 : resultsOf P st.rows st.tm rs with
      | none => simp [h1, h2] at h
      | some vs' =>
        simp [h1, h2] at h
        subst h
        obtain ⟨u, hu, hvu⟩ := resultOf_sound hR h1
        obtain ⟨us, hus, hvs⟩ := resultsOf_sound hR rs vs' h2
        refine ⟨u :: us, ?_, VRels.cons hvu hvs⟩
        rw [List.mapM_cons]
        simp only [Sem.run_bind]
        rw [hu]
        simp only [Result.andThen_ok]
        rw [hus]
        rfl
theorem finish_sound {ρ : Type} {w : World} {st : St} {a : Act} (hX : RelX w0 S0 B st a w) {fn : Func} {k : AV → Option ρ} {r : ρ} (h : finish P fn st k = some r) :
    ∃ v u S', k v = some r ∧ (results fn a.tmps).run P w = .ok u w ∧ VRel w S' nob v u ∧ (∀ b, S' b → S0 b ∨ ¬ B b) ∧ (∀ b, S' b → b < w.heap.size) := by
  obtain ⟨S, β, og, hR, hO⟩ := hX
  rw [finish_eq] at h
  unfold finish0 at h
  cases h1 : resultsOf P st.rows st.tm fn.results.toList with
  | none => simp [h1] at h
  | some vs =>
    cases h2 : purL (pur1 st.rows depth) vs with
    | none => simp [h1, h2] at h
    | some p =>
      simp only [h1, h2] at h
      obtain ⟨us, hus, hvs⟩ := resultsOf_sound hR _ _ h1
      have hp := purL_sound (w := w) (S := S) (β := β) (og := og) (f := pur1 st.rows depth) (pur1_sound hR.row depth) _ _ _ h2 hvs
      replace hp := nzs_rel hp
      have hin : ∀ id ∈ p.2, ∃ r, lookup st.rows id = some r := purL_in (rows := st.rows) (pur1_in depth) _ _ h2
      have hOF := hO.freeze hR p.2 hin
      have hFr := hR.freeze p.2
      have hres : (results fn a.tmps).run P w = .ok (if h : us.toArray.size = 1 then us.toArray[0] else .tuple us.toArray) w := by
        show (do let vs ← fn.results.mapM (resRun a.tmps); pure (if h : vs.size = 1 then vs[0] else .tuple vs) : Sem Value).run P w = _
        rw [Array.mapM_eq_mapM_toList]
        simp only [Sem.run_bind, Sem.run_map]
        rw [hus]
        rfl
      refine ⟨_, _, With S og p.2, h, hres, ?_, hOF.sin, hFr.Slt⟩
      unfold one
      split
      · rename_i x hx
        rw [hx] at hp
        obtain ⟨u, us', rfl, hu, hn⟩ := hp.inv
        rw [hn.inv_nil]
        simpa using hu
      · rename_i hx
        have hne : us.length ≠ 1 := by
          rw [hp.1]
          intro hl
          match hq : AV.nzs p.1, hl with
          | [x], _ => exact hx x hq
        have : ¬ us.toArray.size = 1 := by simpa using hne
        rw [dif_neg this]
        exact .tup _ _ _ hp.1 hp.2
theorem sumOK_ofR (hΓ : GOK P Γ) (hD : DrawOK P Γ) {f : FuncId} {fn : Func} (hfn : P.funcs[f]? = some fn) {F : Summ} (hF : ∀ ρ avs k r, F ρ avs k = some r → ∃ K, (∀ c, fn.body = some c → KOK P Γ K c) ∧ evF P Γ K fn ρ avs k = some r) (hRg : ∀ c, fn.body = some c → RngOK Γ none c) : SumOK P f F := by
  intro ρ w S avs args k r hS hv hrun
  obtain ⟨hS, hG⟩ := hS
  obtain ⟨K, hKc, he⟩ := hF ρ avs k r hrun
  unfold evF at he
  cases hb : fn.body with
  | none => simp [hb] at he
  | some c =>
    simp only [hb, St.force_eq] at he
    refine Goes.of hfn hb (callsIn_wide.1 (callsIn_of_wp_marks (F := Fence.wide) (n := 0) hfn hb trivial ?_))
    have hrep : ∀ m, VRels w S nob (List.replicate m AV.undef) (List.replicate m undef) := by
      intro m
      induction m with
      | zero => exact VRels.nil
      | succ m ih => exact VRels.cons (.undef _) ih
    have hX : RelX w S ⟨fun b => b < w.heap.size, nob, []⟩ (St.mk (avs ++ List.replicate (fn.ntmps - avs.length) .undef) [] []) { tmps := args.toArray ++ Array.replicate (fn.ntmps - args.toArray.size) undef, defers := [] } w := by
      refine ⟨S, nob, fun _ => none, ⟨?_, rfl, fun id r hr => by simp [lookup] at hr, fun _ _ _ h => by (cases h), fun _ _ h => by (cases h), fun _ _ h => by (cases h), fun _ _ h => by (cases h), hS, fun _ h => h, fun _ _ _ h => by cases h⟩, ⟨KeptG.refl hG, fun _ h => .inl h, fun _ h => h⟩⟩
      have : (args.toArray ++ Array.replicate (fn.ntmps - args.toArray.size) undef).toList = args ++ List.replicate (fn.ntmps - avs.length) undef := by simp [hv.1]
      show VRels w S nob _ (args.toArray ++ Array.replicate (fn.ntmps - args.toArray.size) undef).toList
      rw [this]
      exact hv.append (hrep _)
    refine evC_sound (R := none) hΓ hD c (hKc c hb) (hRg c hb) ρ _ _ _ _ w _ he hX.e fun e st' a' w' hk hx => ?_
    have fin : finish P fn st' k = some r → LeavesInM Fence.wide 0 P fn a'.tmps (fun e w' => ∃ u v S', e = .returned u ∧ k v = some r ∧ Below w.heap.size w w' ∧ (∀ b, S' b → S b ∨ w.heap.size ≤ b) ∧ (∀ b, S' b → b < w'.heap.size) ∧ VRel w' S' nob v u) a'.defers .returning w' := fun hf => by
      obtain ⟨w1, S1, B1, hE, S2, β2, og2, hR2, hO2⟩ := hx
      refine leaves_of hE rfl hR2 hO2 fun w'' hx => ?_
      obtain ⟨v', u, S', hk', hrun, hv', hs1, hs2⟩ := finish_sound hx hf
      obtain ⟨S2, β, og, hR, hO⟩ := hx
      exact ⟨u, hrun, u, v', S', rfl, hk', hO.bel.toKept.below, fun b hb => (hs1 b hb).imp id fun h => Nat.le_of_not_lt h, hs2, hv'⟩
    cases e with
    | ret => exact fin hk
    | normal => exact fin hk
    | exit id => cases hk
theorem sumOK_of (hΓ : GOK P Γ) (hD : DrawOK P Γ) {f : FuncId} {fn : Func} (hfn : P.funcs[f]? = some fn) {F : Summ} (hF : ∀ ρ avs k r, F ρ avs k = some r → ∃ K, (∀ c, fn.body = some c → KOK P Γ K c) ∧ evF P Γ K fn ρ avs k = some r) (hr : Γ.rng = [] := by rfl) : SumOK P f F :=
  sumOK_ofR hΓ hD hfn hF fun c _ => RngOK.no hr c
theorem paramRows_at (rows : List (Nat × Row)) : ∀ (n b j : Nat) (x : Option Row), (paramRows rows n b)[j]? = some x → x = lookup rows (b + j)
  | 0, b, j, x, h => by simp [paramRows] at h
  | n + 1, b, j, x, h => by
    cases j with
    | zero => simp [paramRows] at h; exact h.symm
    | succ j =>
      simp only [paramRows, List.getElem?_cons_succ] at h
      rw [paramRows_at rows n (b + 1) j x h]
      congr 1
      omega
theorem rowsOf_at (rows : List (Nat × Row)) : ∀ (ids : List Nat) (rs : List Row), rowsOf rows ids = some rs → ∀ (j : Nat) (r : Row), rs[j]? = some r → ∃ i, ids[j]? = some i ∧ lookup rows i = some r
  | [], rs, h, j, r, hj => by simp [rowsOf] at h; subst h; simp at hj
  | i :: is, rs, h, j, r, hj => by
    simp only [rowsOf] at h
    split at h
    · cases h
    · rename_i q hq
      split at h
      · rename_i r' hr
        cases h
        cases j with
        | zero => simp at hj; subst hj; exact ⟨i, rfl, hr⟩
        | succ j => simpa using rowsOf_at rows is q hq j r (by simpa using hj)
      · cases h
theorem finishX_sound {ρ : Type} {w : World} {st : St} {a : Act} (hX : RelX w0 S0 B st a w) {np : Nat} (hdom : ∀ id x, B.bet id = some x → id < RID) {fn : Func} {k : AV → List (Option Row) → List Row → Option ρ} {r : ρ} (h : finishX P fn np st k = some r) :
    ∃ u, (results fn a.tmps).run P w = .ok u w ∧ ∃ v prow nrow S' β' og', k v prow nrow = some r ∧ After w0 S0 B B.bet prow nrow v u w S' β' og' := by
  obtain ⟨S, β, og, hR, hO⟩ := hX
  unfold finishX at h
  split at h
  · cases h
  · rename_i vs h1
    split at h
    · cases h
    · rename_i p h2
      obtain ⟨p1, fz⟩ := p
      simp only at h
      generalize hids : (reach (setImm fz st.rows) depth (p1 ++ cellsOfRows (paramRows (setImm fz st.rows) np PID)) []).filter (fun i => Nat.blt i PID) = ids at h
      have hlt : ∀ i ∈ ids, i < PID := fun i hi => by
        rw [← hids] at hi
        have := (List.mem_filter.1 hi).2
        exact Nat.blt_eq ▸ this
      split at h
      · cases h
      · rename_i nrow hn
        split at h
        · rename_i hc
          simp only [Bool.and_eq_true] at hc
          obtain ⟨hnd, hnp, hsm⟩ := hc
          have hnd' := nodupB_spec ids hnd
          obtain ⟨us, hus, hvs⟩ := resultsOf_sound hR _ _ h1
          have hp := purL_soundX (w := w) (S := S) (β := β) (og := og) (f := opn1 st.rows depth) (opn1_sound hR.row depth) _ _ _ h2 hvs
          have hin : ∀ id ∈ fz, ∃ r, lookup st.rows id = some r := purL_in (rows := st.rows) (opn1_in depth) _ _ h2
          have hOF := hO.freeze hR fz hin
          have hFr := hR.freeze fz
          have hPR : PID + 1000000 < RID := by decide
          have hnp' : np ≤ 1000000 := Nat.le_of_ble_eq_true hnp
          have hm : ∀ id x j, β id = some x → toR ids id = some j → (if j < RID then (if PID ≤ j then β j else none) else (ids[j - RID]?).bind β) = some x := fun id x j hx hj => by
            unfold toR at hj
            split at hj
            · rename_i hle
              cases hj
              have hle' : PID ≤ id := Nat.le_of_ble_eq_true hle
              rw [if_pos (hdom id x (hR.pid id x hle' hx)), if_pos hle']
              exact hx
            · cases hi : idx ids id with
              | none => simp [hi] at hj
              | some jj =>
                simp [hi] at hj
                subst hj
                rw [if_neg (by omega), Nat.add_sub_cancel_left, idx_some ids id jj hi]
                exact hx
          have hren := rens_rel (w := w) (S := With S og fz) (β := β) (β' := fun j => if j < RID then (if PID ≤ j then β j else none) else (ids[j - RID]?).bind β) hm hp
          replace hren := nzs_rel hren
          have hres : (results fn a.tmps).run P w = .ok (if h : us.toArray.size = 1 then us.toArray[0] else .tuple us.toArray) w := by
            show (do let vs ← fn.results.mapM (resRun a.tmps); pure (if h : vs.size = 1 then vs[0] else .tuple vs) : Sem Value).run P w = _
            rw [Array.mapM_eq_mapM_toList]
            simp only [Sem.run_bind, Sem.run_map]
            rw [hus]
            rfl
          refine ⟨_, hres, _, _, _, With S og fz, (fun j => if j < RID then (if PID ≤ j then β j else none) else (ids[j - RID]?).bind β), (fun j => if j < RID then (if PID ≤ j then og j else none) else (ids[j - RID]?).bind og), h, ⟨hO.bel.toKept, fun b hb => .inl (hO.sub b hb), hOF.sin, ?_, fun j r hj => ?_, fun j r hj => ?_, fun id id' g hg hg' => ?_, fun id g hg => ?_, fun id x hx => ?_, hFr.Slt, fun id x hlt hx => ?_⟩⟩
          · unfold one
            split
            · rename_i x hx
              rw [hx] at hren
              obtain ⟨u, us', rfl, hu, hn⟩ := hren.inv
              rw [hn.inv_nil]
              simpa using hu
            · rename_i hx
              have hne : us.length ≠ 1 := by
                rw [hren.1]
                intro hl
                match hq : AV.nzs (AV.rens (toR ids) p1), hl with
                | [x], _ => exact hx x hq
              have : ¬ us.toArray.size = 1 := by simpa using hne
              rw [dif_neg this]
              exact .tup _ _ _ hren.1 hren.2
          · rw [List.getElem?_map] at hj
            cases hq : (paramRows (setImm fz st.rows) np PID)[j]? with
            | none => simp [hq] at hj
            | some x =>
              have hx := paramRows_at _ _ _ _ _ hq
              have hjl : j < np := by
                have : (paramRows (setImm fz st.rows) np PID).length = np := by
                  have aux : ∀ n b, (paramRows (setImm fz st.rows) n b).length = n := by
                    intro n
                    induction n with
                    | zero => intro b; rfl
                    | succ n ih => intro b; simp [paramRows, ih]
                  exact aux np PID
                rw [← this]
                exact (List.getElem?_eq_some_iff.1 hq).1
              simp only [hq, Option.map_some, Option.some.injEq] at hj
              cases x with
              | none => simp at hj
              | some r0 =>
                simp only [Option.map_some, Option.some.injEq] at hj
                subst hj
                have h0 := (hFr.row (PID + j) r0 hx.symm).forget
                have e1 : (if PID + j < RID then (if PID ≤ PID + j then og (PID + j) else none) else (ids[PID + j - RID]?).bind og) = og (PID + j) := by rw [if_pos (by omega), if_pos (by omega)]
                rw [e1]
                refine h0.ren hm (fun x hx => ?_) (fun g _ h => h)
                rw [if_pos (by omega), if_pos (by omega)]
                exact hx
          · rw [List.getElem?_map] at hj
            cases hq : nrow[j]? with
            | none => simp [hq] at hj
            | some r0 =>
              simp only [hq, Option.map_some, Option.some.injEq] at hj
              subst hj
              obtain ⟨i, hi, hl⟩ := rowsOf_at _ _ _ hn j r0 hq
              have h0 := (hFr.row i r0 hl).forget
              have e1 : (if RID + j < RID then (if PID ≤ RID + j then og (RID + j) else none) else (ids[RID + j - RID]?).bind og) = og i := by rw [if_neg (by omega), Nat.add_sub_cancel_left, hi]; rfl
              rw [e1]
              refine h0.ren hm (fun x hx => ?_) (fun g _ h => h)
              rw [if_neg (by omega), Nat.add_sub_cancel_left, hi]
              exact hx
          · have cl : ∀ id, (if id < RID then (if PID ≤ id then og id else none) else (ids[id - RID]?).bind og) = some g → (PID ≤ id ∧ id < RID ∧ og id = some g) ∨ (∃ j i, id = RID + j ∧ ids[j]? = some i ∧ i < PID ∧ og i = some g) := fun id h => by
              split at h
              · split at h
                · rename_i h1 h2; exact .inl ⟨h2, h1, h⟩
                · cases h
              · rename_i h1
                cases hi : ids[id - RID]? with
                | none => simp [hi] at h
                | some i => exact .inr ⟨id - RID, i, by omega, hi, hlt i (List.mem_of_getElem? hi), by simpa [hi] using h⟩
            rcases cl id hg with ⟨a1, a2, a3⟩ | ⟨j, i, rfl, a2, a3, a4⟩ <;> rcases cl id' hg' with ⟨b1, b2, b3⟩ | ⟨j', i', rfl, b2, b3, b4⟩
            · exact hR.inj id id' g a3 b3
            · have := hR.inj id i' g a3 b4; omega
            · have := hR.inj i id' g a4 b3; omega
            · have := hR.inj i i' g a4 b4
              subst this
              rw [hnd' j j' i a2 b2]
          · split at hg
            · split at hg
              · exact hR.lt _ g hg
              · cases hg
            · cases hi : ids[id - RID]? with
              | none => simp [hi] at hg
              | some i => exact hR.lt i g (by simpa [hi] using hg)
          · split at hx
            · split at hx
              · exact hR.one _ x hx
              · cases hx
            · cases hi : ids[id - RID]? with
              | none => simp [hi] at hx
              | some i => exact hR.one i x (by simpa [hi] using hx)
          · rw [if_pos hlt] at hx
            split at hx
            · rename_i hle; exact hR.pid id x hle hx
            · cases hx
        · cases h
def Spared : List Row → List Row → Prop
  | [], [] => True
  | .box i cs :: rs, r :: rs' => r = .box i cs ∧ Spared rs rs'
  | .foc i s e p cs q :: rs, r :: rs' => r = .foc i s e p cs q ∧ Spared rs rs'
  | .arr i s e es csp :: rs, r :: rs' => (∃ sp, r = .arr i s e es (some sp) ∧ (∀ x ∈ es ++ sp, hasSh s x = true) ∧ ∀ c, csp = some c → c = sp) ∧ Spared rs rs'
  | _, _ => False
theorem spared_of {w : World} {S B : Nat → Prop} {β : Bet} {og : Nat → Option Nat} : ∀ (rs : List Row) (b : Nat), (∀ (j : Nat) (r : Row), rs[j]? = some r → RowRel w S B β (b + j) (og (b + j)) r) → ∃ rs', Spared rs rs' ∧ rs'.length = rs.length ∧ ∀ (j : Nat) (r : Row), rs'[j]? = some r → RowRel w S B β (b + j) (og (b + j)) r
  | [], b, _ => ⟨[], trivial, rfl, fun j r h => by simp at h⟩
  | r :: rs, b, h => by
    obtain ⟨rs', i1, i2, i3⟩ := spared_of rs (b + 1) (fun j r hj => by have := h (j + 1) r (by simpa using hj); rwa [show b + (j + 1) = b + 1 + j from by omega] at this)
    have key : ∀ r', RowRel w S B β b (og b) r' → ∀ (j : Nat) (x : Row), (r' :: rs')[j]? = some x → RowRel w S B β (b + j) (og (b + j)) x := fun r' hr' j x hj => by
      cases j with
      | zero => simp at hj; subst hj; exact hr'
      | succ j => have := i3 j x (by simpa using hj); rwa [show b + 1 + j = b + (j + 1) from by omega] at this
    have h0 := h 0 r rfl
    cases r with
    | box i cs => exact ⟨.box i cs :: rs', ⟨rfl, i1⟩, by simp [i2], key _ h0⟩
    | foc i s e p cs q => exact ⟨.foc i s e p cs q :: rs', ⟨rfl, i1⟩, by simp [i2], key _ h0⟩
    | arr i s e es csp =>
      obtain ⟨hp, v, sp, xs, hsh, hcs, rest⟩ := h0
      exact ⟨.arr i s e es (some sp) :: rs', ⟨⟨sp, rfl, hsh, hcs⟩, i1⟩, by simp [i2], key _ ⟨hp, v, sp, xs, hsh, (fun c hc => by cases hc; rfl), rest⟩⟩
theorem lookup_zipIds' : ∀ (rs : List Row) (b j : Nat) (r : Row), rs[j]? = some r → lookup (zipIds b rs) (b + j) = some r
  | [], b, j, r, h => by simp at h
  | x :: rs, b, j, r, h => by
    cases j with
    | zero => simp at h; simp [zipIds, lookup, h]
    | succ j =>
      have := lookup_zipIds' rs (b + 1) j r (by simpa using h)
      simp only [zipIds, lookup]
      rw [if_neg (by omega), show b + (j + 1) = b + 1 + j from by omega]
      exact this
theorem homeK_eq {ρ : Type} {st : St} {x : Nat × Nat × TypeId} {k : St → Option ρ} {r : ρ} (h : homeK st x k = some r) : k (home1 st x) = some r := by
  unfold homeK at h
  unfold home1
  split at h
  · rename_i hc; rw [if_pos hc]; exact h
  rename_i hc0
  rw [if_neg hc0]
  split at h
  · rename_i hc; rw [if_pos hc]; exact h
  · rename_i hc
    rw [if_neg hc]
    split at h
    · rename_i id n hs
      rw [hs]
      simp only
      split at h
      · rename_i s e es csp hl
        obtain ⟨hb, h⟩ := bif_some h
        simp only [hb, if_true]
        exact h
      · exact h
    · unfold home1 at h
      rw [if_neg hc0, if_neg hc] at h
      exact h
theorem homes_eq {ρ : Type} : ∀ {H : List (Nat × Nat × TypeId)} {st : St} {k : St → Option ρ} {r : ρ}, homes H st k = some r → k (H.foldl home1 st) = some r
  | [], _, _, _, h => h
  | _ :: H, _, _, _, h => homes_eq (H := H) (homeK_eq h)
theorem xok_ofR (hΓ : GOK P Γ) (hD : DrawOK P Γ) {f : FuncId} {fn : Func} (hfn : P.funcs[f]? = some fn) {F : SummX} (hF : ∀ ρ avs rows k r, F ρ avs rows k = some r → rows.length ≤ 1000000 ∧ ∀ rows', Spared rows rows' → ∃ K H, (∀ c, fn.body = some c → KOK P Γ K c) ∧ evFX P Γ K H fn ρ avs rows' k = some r) (hRg : ∀ c, fn.body = some c → RngOK Γ none c) : XOK P f F := by
  intro ρ w S B β og avs rows args k r hH hSB hdom hv hrun
  obtain ⟨hSB, hG⟩ := hSB
  obtain ⟨hsm, hF'⟩ := hF ρ avs rows k r hrun
  obtain ⟨rows', hsp, hlen, hrow'⟩ := spared_of (w := w) (S := S) (B := B) (β := β) (og := og) rows PID (fun j r hj => hH.row _ _ (lookup_zipIds' rows PID j r hj))
  obtain ⟨K, H, hKc, he⟩ := hF' rows' hsp
  have hPR : PID + 1000000 < RID := by decide
  unfold evFX at he
  cases hb : fn.body with
  | none => simp [hb] at he
  | some c =>
    simp only [hb, St.force_eq] at he
    refine Goes.of hfn hb (callsIn_wide.1 (callsIn_of_wp_marks (F := Fence.wide) (n := 0) hfn hb trivial ?_))
    have hrep : ∀ m, VRels w S β (List.replicate m AV.undef) (List.replicate m undef) := by
      intro m
      induction m with
      | zero => exact VRels.nil
      | succ m ih => exact VRels.cons (.undef _) ih
    have hX : RelX w S ⟨B, β, []⟩ (St.mk (avs ++ List.replicate (fn.ntmps - avs.length) .undef) (zipIds PID rows') (List.range' PID rows'.length)) { tmps := args.toArray ++ Array.replicate (fn.ntmps - args.toArray.size) undef, defers := [] } w := by
      refine ⟨S, β, og, ⟨?_, rfl, fun id r hr => ?_, hH.inj, hH.lt, fun id x hx => ?_, hH.one, hH.Slt, hH.Ble, fun id x _ hx => hx⟩, ⟨KeptG.refl hG, fun _ h => .inl h, fun _ h => h⟩⟩
      · have : (args.toArray ++ Array.replicate (fn.ntmps - args.toArray.size) undef).toList = args ++ List.replicate (fn.ntmps - avs.length) undef := by simp [hv.1]
        show VRels w S β _ (args.toArray ++ Array.replicate (fn.ntmps - args.toArray.size) undef).toList
        rw [this]
        exact hv.append (hrep _)
      · obtain ⟨hle, hx⟩ := lookup_zipIds _ _ _ _ hr
        obtain ⟨jj, rfl⟩ : ∃ jj, id = PID + jj := ⟨id - PID, by omega⟩
        rw [Nat.add_sub_cancel_left] at hx
        exact hrow' jj r hx
      · obtain ⟨h1, h2⟩ := hdom id x hx
        show id ∈ List.range' PID rows'.length
        rw [List.mem_range'_1, hlen]
        exact ⟨h1, h2⟩
    have hdom' : ∀ id x, (Ctx.mk B β []).bet id = some x → id < RID := fun id x hx => by have := (hdom id x hx).2; omega
    refine evC_sound (R := none) hΓ hD c (hKc c hb) (hRg c hb) ρ _ _ _ _ w _ he hX.e fun e st' a' w' hk hx => ?_
    have fin : (homes H st' fun st => finishX P fn rows'.length st k) = some r → LeavesInM Fence.wide 0 P fn a'.tmps (fun e w' => ∃ u v prow nrow S' β' og', e = .returned u ∧ k v prow nrow = some r ∧ After w S B β prow nrow v u w' S' β' og') a'.defers .returning w' := fun hf => by
      obtain ⟨w1, S1, B1, hE, S2, β2, og2, hR2, hO2⟩ := hx
      refine leaves_of hE rfl hR2 hO2 fun w'' hx => ?_
      have hx' := foldl_rel (fun st x h => RelX.home1 h x) H st' hx
      obtain ⟨u, hrun, v, prow, nrow, S', β', og', hk', hA⟩ := finishX_sound hx' hdom' (homes_eq hf)
      exact ⟨u, hrun, u, v, prow, nrow, S', β', og', rfl, hk', hA⟩
    cases e with
    | ret => exact fin hk
    | normal => exact fin hk
    | exit id => cases hk
theorem xok_of (hΓ : GOK P Γ) (hD : DrawOK P Γ) {f : FuncId} {fn : Func} (hfn : P.funcs[f]? = some fn) {F : SummX} (hF : ∀ ρ avs rows k r, F ρ avs rows k = some r → rows.length ≤ 1000000 ∧ ∀ rows', Spared rows rows' → ∃ K H, (∀ c, fn.body = some c → KOK P Γ K c) ∧ evFX P Γ K H fn ρ avs rows' k = some r) (hr : Γ.rng = [] := by rfl) : XOK P f F :=
  xok_ofR hΓ hD hfn hF fun c _ => RngOK.no hr c
end code
end Go.Ev

namespace Go.Ev
open Go.RowKit
section cps
variable {ρ : Type} {P : Program} {Γ : Env} {site : Nat}
theorem cond_bind {α : Type} (b : Bool) (x : Option α) (y : α → Option ρ) : (bif b then x.bind y else none) = (bif b then x else none).bind y := by cases b <;> rfl
theorem evLoad_bind (t : TypeId) (cs : List AV) (y : AV → Option ρ) : evLoad P t cs y = (evLoad P t cs some).bind y := by
  unfold evLoad
  repeat' split
  all_goals rfl
theorem binInt_bind (op : BinOp) (k : IntKind) (m n : Int) (y : AV → Option ρ) : binInt op k m n y = (binInt op k m n some).bind y := by
  unfold binInt
  split <;> first | rfl | (generalize decide (n = 0) = b; cases b <;> rfl)
theorem binShift_bind (op : BinOp) (k : IntKind) (m n : Int) (y : AV → Option ρ) : binShift op k m n y = (binShift op k m n some).bind y := by
  unfold binShift
  split <;> first | rfl | (generalize decide (n < 0) = b; cases b <;> rfl)
theorem binStr_bind (op : BinOp) (m n : List UInt8) (y : AV → Option ρ) : binStr op m n y = (binStr op m n some).bind y := by
  unfold binStr
  split <;> first | rfl | (generalize lenB (m.length + n.length) = b; cases b <;> rfl)
theorem evBin_bind (op : BinOp) (t : TypeId) (x z : AV) (y : AV → Option ρ) : evBin P op t x z y = (evBin P op t x z some).bind y := by
  unfold evBin
  repeat' split
  all_goals first | rfl | exact binInt_bind _ _ _ _ _ | exact binShift_bind _ _ _ _ _ | exact binStr_bind _ _ _ _
theorem evNil_bind (op : BinOp) (t : TypeId) (x : AV) (y : AV → Option ρ) : evNil P op t x y = (evNil P op t x some).bind y := by
  unfold evNil
  repeat' split
  all_goals first | rfl | (generalize List.isEmpty _ = b; cases b <;> rfl)
theorem evLen_bind (rows : List (Nat × Row)) (t : TypeId) (x : AV) (y : Eff → Option ρ) : evLen P rows t x y = (evLen P rows t x some).bind y := by
  unfold evLen
  repeat' split
  all_goals rfl
theorem evBuiltin_bind (b : Builtin) (ts : List TypeId) (args : List AV) (rows : List (Nat × Row)) (y : Eff → Option ρ) : evBuiltin P site b ts args rows y = (evBuiltin P site b ts args rows some).bind y := by
  rw [evBuiltin_eq, evBuiltin_eq]
  unfold evBuiltin0
  repeat' split
  all_goals first | rfl | exact evLen_bind _ _ _ _ | (rw [← cond_bind]; rfl)
def NatOK (Γ : Env) : Prop := (∀ g F, find Γ g = some F → SNat F) ∧ (∀ g F, findX Γ g = some F → XNat F) ∧ ∀ key np F, Γ.yld = some (key, np, F) → XNat F
theorem evX_bind {F : SummX} (hF : XNat F) (avs : List AV) (rows : List (Nat × Row)) (y : Eff → Option ρ) : evX site F avs rows y = (evX site F avs rows some).bind y := by
  unfold evX
  split
  · rfl
  · split
    · rfl
    · split
      · rw [hF ρ, hF Eff]
        generalize F _ _ _ _ = x
        cases x with
        | none => rfl
        | some x =>
          simp only [Option.bind_some]
          split <;> rfl
      · rfl
theorem cond_bind2 {α : Type} (b : Bool) (x z : Option α) (y : α → Option ρ) : (bif b then x else z).bind y = bif b then x.bind y else z.bind y := by cases b <;> rfl
theorem cond_eq {α : Type} {b : Bool} {x x' z z' : α} (h : x = x') (h' : z = z') : (bif b then x else z) = bif b then x' else z' := by rw [h, h']
theorem evOp_bind (hN : NatOK Γ) (o : Oper) (tm : List AV) (rows : List (Nat × Row)) (y : Eff → Option ρ) : evOp P Γ site o tm rows y = (evOp P Γ site o tm rows some).bind y := by
  have hl : ∀ (t : TypeId) (cs : List AV), evLoad P t cs (fun v => y { v }) = (evLoad P t cs fun v => some { v }).bind y := fun t cs => by
    rw [evLoad_bind (P := P) t cs (fun v => y { v }), evLoad_bind (P := P) t cs (fun v => some ({ v := v } : Eff))]
    cases evLoad P t cs some <;> rfl
  have hb : ∀ (op : BinOp) (t : TypeId) (x z : AV), evBin P op t x z (fun v => y { v }) = (evBin P op t x z fun v => some { v }).bind y := fun op t x z => by
    rw [evBin_bind (P := P) op t x z (fun v => y { v }), evBin_bind (P := P) op t x z (fun v => some ({ v := v } : Eff))]
    cases evBin P op t x z some <;> rfl
  have hn : ∀ (op : BinOp) (t : TypeId) (x : AV), evNil P op t x (fun v => y { v }) = (evNil P op t x fun v => some { v }).bind y := fun op t x => by
    rw [evNil_bind (P := P) op t x (fun v => y { v }), evNil_bind (P := P) op t x (fun v => some ({ v := v } : Eff))]
    cases evNil P op t x some <;> rfl
  unfold evOp
  split
  all_goals repeat' split
  all_goals first
    | rfl
    | exact hl _ _
    | exact hb _ _ _ _
    | exact hn _ _ _
    | exact evBuiltin_bind _ _ _ _ _
    | (rename_i t _; cases t <;> rfl)
    | (rw [← cond_bind]; rw [hl])
    | (rw [← cond_bind]; rfl)
    | (generalize slb _ _ _ = b; cases b <;> simp only [cond_true, cond_false] <;> first | rfl | (rw [← cond_bind]; rfl))
    | (rw [elemsK_def, elemsK_def]; split <;> first | rfl | (split <;> rfl))
    | (rename_i F hF _; exact evX_bind (hN.2.1 _ F (xOf_find hF)) _ _ _)
    | (exact evX_bind (hN.2.2 _ _ _ (by assumption)) _ _ _)
    | (rename_i F hF _; rw [hN.1 _ F hF ρ, hN.1 _ F hF Eff]; generalize F AV _ some = x; cases x <;> rfl)
    | skip
  all_goals repeat' (first | exact hl _ _ | (rw [cond_bind2]; refine cond_eq ?_ ?_) | rfl | split)
end cps
section congr
variable {ρ : Type} {P : Program} {Γ : Env} {site : Nat}
theorem val_congr {tm tm' : List AV} {x : Operand} (h : ∀ t, x = .tmp t → tm.getD t .unk = tm'.getD t .unk) : val tm x = val tm' x := by
  cases x with
  | tmp t => exact h t rfl
  | _ => rfl
theorem valT_congr {tm tm' : List AV} {x : Operand} (h : ∀ t, x = .tmp t → tm.getD t .unk = tm'.getD t .unk) (t : TypeId) : valT P tm t x = valT P tm' t x := by
  cases x with
  | tmp t => exact h t rfl
  | _ => rfl
theorem valsT_congr {tm tm' : List AV} : ∀ (ts : List TypeId) (xs : List Operand), (∀ x ∈ xs, ∀ t, x = .tmp t → tm.getD t .unk = tm'.getD t .unk) → valsT P tm ts xs = valsT P tm' ts xs
  | _, [], _ => by unfold valsT; split <;> first | contradiction | rfl
  | [], x :: xs, h => by
    simp only [valsT]
    rw [val_congr (h x (by simp)), valsT_congr [] xs (fun y hy => h y (by simp [hy]))]
  | t :: ts, x :: xs, h => by
    simp only [valsT]
    rw [valT_congr (h x (by simp)), valsT_congr ts xs (fun y hy => h y (by simp [hy]))]
theorem map_val_congr {tm tm' : List AV} (x : Option Operand) (h : ∀ z, x = some z → ∀ t, z = .tmp t → tm.getD t .unk = tm'.getD t .unk) : x.map (val tm) = x.map (val tm') := by
  cases x with
  | none => rfl
  | some z => simp only [Option.map_some]; rw [val_congr (h z rfl)]
theorem evOp_tm {tm tm' : List AV} (o : Oper) (rows : List (Nat × Row)) (y : Eff → Option ρ) (h : ∀ x ∈ o.op.operands.toList, ∀ t, x = Operand.tmp t → tm.getD t .unk = tm'.getD t .unk) : evOp P Γ site o tm rows y = evOp P Γ site o tm' rows y := by
  obtain ⟨dst, op, type, pos, after, guard⟩ := o
  simp only at h
  cases op with
  | move x => simp only [evOp]; rw [valT_congr (h x (by simp [Op.operands]))]
  | assign x => simp only [evOp]; rw [valT_congr (h x (by simp [Op.operands]))]
  | pick c x z => simp only [evOp]; rw [val_congr (h c (by simp [Op.operands])), valT_congr (h x (by simp [Op.operands])), valT_congr (h z (by simp [Op.operands]))]
  | alloc t => rfl
  | box t x => simp only [evOp]; rw [valT_congr (h x (by simp [Op.operands]))]
  | build t parts =>
    simp only [evOp]
    have : (parts.toList.map fun p => (p.1, valT P tm (partTypes P t p.1) p.2)) = parts.toList.map fun p => (p.1, valT P tm' (partTypes P t p.1) p.2) := by
      apply List.map_congr_left
      intro p hp
      rw [valT_congr (h p.2 (by simp only [Op.operands, List.mem_map]; exact ⟨p, hp, rfl⟩))]
    rw [this]
  | buildSlice t len parts =>
    simp only [evOp]
    have : ∀ e, (parts.toList.map fun p => valT P tm e p.2) = parts.toList.map fun p => valT P tm' e p.2 := by
      intro e
      apply List.map_congr_left
      intro p hp
      rw [valT_congr (h p.2 (by simp only [Op.operands, List.mem_map]; exact ⟨p, hp, rfl⟩))]
    simp only [this]
  | makeInterface t x => simp only [evOp]; rw [valT_congr (h x (by simp [Op.operands]))]
  | makeSlice t l c => simp only [evOp]; rw [val_congr (h l (by simp [Op.operands])), val_congr (h c (by simp [Op.operands]))]
  | load t x => simp only [evOp]; rw [val_congr (h x (by simp [Op.operands]))]
  | store t x z => simp only [evOp]; rw [val_congr (h x (by simp [Op.operands])), valT_congr (h z (by simp [Op.operands]))]
  | nilCheck x => simp only [evOp]; rw [val_congr (h x (by simp [Op.operands]))]
  | binOp op t x z t' => simp only [evOp]; rw [valT_congr (h x (by simp [Op.operands])), valT_congr (h z (by simp [Op.operands]))]
  | unOp op t x => simp only [evOp]; rw [valT_congr (h x (by simp [Op.operands]))]
  | convert s d x => simp only [evOp]; rw [valT_congr (h x (by simp [Op.operands]))]
  | makeFunc fn first captured =>
    cases fn <;> simp only [evOp]
    have : captured.toList.map (val tm) = captured.toList.map (val tm') := by
      apply List.map_congr_left
      intro x hx
      rw [val_congr (h x (by simp only [Op.operands, Array.toList_append, List.mem_append]; exact .inr hx))]
    rw [this]
  | slice t x lo hi mx =>
    simp only [evOp]
    have h0 : val tm x = val tm' x := val_congr (h x (by simp [Op.operands]))
    have h1 := map_val_congr (tm := tm) (tm' := tm') lo (fun z hz => h z (by subst hz; simp [Op.operands]))
    have h2 := map_val_congr (tm := tm) (tm' := tm') hi (fun z hz => h z (by subst hz; simp [Op.operands]))
    rw [h0, h1, h2]
    cases mx with
    | none => rfl
    | some m =>
      have h3 : val tm m = val tm' m := val_congr (h m (by simp [Op.operands]))
      cases m <;> first | simp only [h3] | rfl
  | fieldAddr t x f => simp only [evOp]; rw [val_congr (h x (by simp [Op.operands]))]
  | field t x f => simp only [evOp]; rw [valT_congr (h x (by simp [Op.operands]))]
  | indexAddr t x i => simp only [evOp]; rw [val_congr (h x (by simp [Op.operands])), val_congr (h i (by simp [Op.operands]))]
  | index t x i => simp only [evOp]; rw [valT_congr (h x (by simp [Op.operands])), val_congr (h i (by simp [Op.operands]))]
  | extract x i => simp only [evOp]; rw [val_congr (h x (by simp [Op.operands]))]
  | range t x => simp only [evOp]; rw [valT_congr (h x (by simp [Op.operands]))]
  | next x b =>
    cases b
    · rfl
    · simp only [evOp]; rw [val_congr (h x (by simp [Op.operands]))]
  | call c =>
    obtain ⟨callee, args, ts⟩ := c
    cases callee with
    | builtin b =>
      simp only [evOp]
      rw [valsT_congr ts.toList args.toList (fun x hx => h x (by simp only [Op.operands, Call.operands, Array.toList_append, List.mem_append]; exact .inr hx))]
    | value f =>
      simp only [evOp]
      rw [valsT_congr ts.toList args.toList (fun x hx => h x (by simp only [Op.operands, Call.operands, Array.toList_append, List.mem_append]; exact .inr hx)), val_congr (h f (by simp [Op.operands, Call.operands]))]
    | invoke r m => rfl
  | _ => rfl
def Row.core : Row → Row := Row.freeze
def coreEq (rows rows' : List (Nat × Row)) : Prop := ∀ id, (lookup rows id).map Row.core = (lookup rows' id).map Row.core
theorem coreEq.box {rows rows' : List (Nat × Row)} (h : coreEq rows rows') (id : Nat) : (∃ cs im im', lookup rows id = some (.box im cs) ∧ lookup rows' id = some (.box im' cs)) ∨ (∃ s e es sp im im', lookup rows id = some (.arr im s e es sp) ∧ lookup rows' id = some (.arr im' s e es sp)) ∨ (lookup rows id = none ∧ lookup rows' id = none) ∨ (∃ s e pre cs post im im', lookup rows id = some (.foc im s e pre cs post) ∧ lookup rows' id = some (.foc im' s e pre cs post)) := by
  have := h id
  cases h1 : lookup rows id with
  | none => cases h2 : lookup rows' id with
    | none => exact .inr (.inr (.inl ⟨rfl, rfl⟩))
    | some r => simp [h1, h2] at this
  | some r => cases h2 : lookup rows' id with
    | none => simp [h1, h2] at this
    | some r' =>
      simp only [h1, h2, Option.map_some, Option.some.injEq] at this
      cases r <;> cases r' <;> simp [Row.core, Row.freeze] at this
      · subst this; exact .inl ⟨_, _, _, rfl, rfl⟩
      · obtain ⟨rfl, rfl, rfl, rfl⟩ := this; exact .inr (.inl ⟨_, _, _, _, _, _, rfl, rfl⟩)
      · obtain ⟨rfl, rfl, rfl, rfl, rfl⟩ := this; exact .inr (.inr (.inr ⟨_, _, _, _, _, _, _, rfl, rfl⟩))
theorem purL_congr {f g : AV → Option (AV × List Nat)} (h : ∀ v, f v = g v) : ∀ cs, purL f cs = purL g cs := fun cs => by rw [show f = g from funext h]
theorem pur1_core {rows rows' : List (Nat × Row)} (h : coreEq rows rows') : ∀ (n : Nat) (v : AV), pur1 rows n v = pur1 rows' n v := by
  intro n
  induction n with
  | zero => intro v; rfl
  | succ n ih =>
    intro v
    have hL := purL_congr ih
    cases v <;> simp only [pur1]
    case ptr id off => rcases h.box id with ⟨cs, im, im', h1, h2⟩ | ⟨s, e, es, sp, im, im', h1, h2⟩ | ⟨h1, h2⟩ | ⟨s, e, p, cs, q, im, im', h1, h2⟩ <;> simp only [h1, h2, hL]
    case eptr id i off => rcases h.box id with ⟨cs, im, im', h1, h2⟩ | ⟨s, e, es, sp, im, im', h1, h2⟩ | ⟨h1, h2⟩ | ⟨s, e, p, cs, q, im, im', h1, h2⟩ <;> simp only [h1, h2]
    case own id => rcases h.box id with ⟨cs, im, im', h1, h2⟩ | ⟨s, e, es, sp, im, im', h1, h2⟩ | ⟨h1, h2⟩ | ⟨s, e, p, cs, q, im, im', h1, h2⟩ <;> simp only [h1, h2, hL]
    case sub id lo n => rcases h.box id with ⟨cs, im, im', h1, h2⟩ | ⟨s, e, es, sp, im, im', h1, h2⟩ | ⟨h1, h2⟩ | ⟨s, e, p, cs, q, im, im', h1, h2⟩ <;> simp only [h1, h2]
    case agg cs => rw [hL]
    case tup cs => rw [hL]
    case fn f cs => rw [hL]
theorem elemsOf_core {rows rows' : List (Nat × Row)} (h : coreEq rows rows') (v : AV) : elemsOf rows v = elemsOf rows' v := by
  cases v <;> simp only [elemsOf]
  case own id => rcases h.box id with ⟨cs, im, im', h1, h2⟩ | ⟨s, e, es, sp, im, im', h1, h2⟩ | ⟨h1, h2⟩ | ⟨s, e, p, cs, q, im, im', h1, h2⟩ <;> simp only [h1, h2]
  case sub id lo n => rcases h.box id with ⟨cs, im, im', h1, h2⟩ | ⟨s, e, es, sp, im, im', h1, h2⟩ | ⟨h1, h2⟩ | ⟨s, e, p, cs, q, im, im', h1, h2⟩ <;> simp only [h1, h2]
theorem focLen_core {rows rows' : List (Nat × Row)} (h : coreEq rows rows') (v : AV) : focLen rows v = focLen rows' v := by
  cases v <;> simp only [focLen]
  case own id => rcases h.box id with ⟨cs, im, im', h1, h2⟩ | ⟨s, e, es, sp, im, im', h1, h2⟩ | ⟨h1, h2⟩ | ⟨s, e, p, cs, q, im, im', h1, h2⟩ <;> simp only [h1, h2]
theorem subOf_core {rows rows' : List (Nat × Row)} (h : coreEq rows rows') (x : AV) (mx : Option Operand) : (subOf x mx rows).map (fun p => (p.1, p.2.core)) = (subOf x mx rows').map (fun p => (p.1, p.2.core)) := by
  unfold subOf
  split
  · rename_i id
    have := h id
    cases h1 : lookup rows id <;> cases h2 : lookup rows' id <;> simp_all
  · rfl
theorem xOf_none {f : Operand} {g : Nat} {caps : List AV} {tm : List AV} {args : Array Operand} {ts : Array TypeId} (hc : changes Γ (.call { callee := .value f, args := args, argTypes := ts }) = false) (hf : val tm f = .fn g caps) : xOf Γ f g = none := by
  cases f with
  | func g0 =>
    simp only [val, AV.fn.injEq] at hf
    obtain ⟨rfl, _⟩ := hf
    simp only [changes, Option.isSome_eq_false_iff, Option.isNone_iff_eq_none] at hc
    exact hc
  | tmp t => simp only [changes, Bool.or_eq_false_iff] at hc; simp [xOf, hc.1]
  | const v => simp only [changes, Bool.or_eq_false_iff] at hc; simp [xOf, hc.1]
  | global v => simp only [changes, Bool.or_eq_false_iff] at hc; simp [xOf, hc.1]
theorem yld_none {f : Operand} {id : Nat} {tm : List AV} {args : Array Operand} {ts : Array TypeId} (hc : changes Γ (.call { callee := .value f, args := args, argTypes := ts }) = false) (hf : val tm f = .own id) : Γ.yld = none := by
  cases f with
  | func g0 => simp [val] at hf
  | tmp t => simp only [changes, Bool.or_eq_false_iff] at hc; simpa using hc.2
  | const v => simp only [changes, Bool.or_eq_false_iff] at hc; simpa using hc.2
  | global v => simp only [changes, Bool.or_eq_false_iff] at hc; simpa using hc.2
theorem evOp_core {rows rows' : List (Nat × Row)} (h : coreEq rows rows') (o : Oper) (hc : changes Γ o.op = false) (tm : List AV) (y : Eff → Option ρ) : evOp P Γ site o tm rows y = evOp P Γ site o tm rows' y := by
  obtain ⟨dst, op, type, pos, after, guard⟩ := o
  simp only at hc
  have hp := pur1_core h depth
  have hpL := purL_congr hp
  cases op with
  | buildSlice t len parts => simp only [evOp, hpL]
  | load t x =>
    simp only [evOp]
    cases val tm x <;> simp only []
    case ptr id off => rcases h.box id with ⟨cs, im, im', h1, h2⟩ | ⟨s, e, es, sp, im, im', h1, h2⟩ | ⟨h1, h2⟩ | ⟨s, e, p, cs, q, im, im', h1, h2⟩ <;> simp only [h1, h2]
    case eptr id i off => rcases h.box id with ⟨cs, im, im', h1, h2⟩ | ⟨s, e, es, sp, im, im', h1, h2⟩ | ⟨h1, h2⟩ | ⟨s, e, p, cs, q, im, im', h1, h2⟩ <;> simp only [h1, h2]
  | store t x z => simp [changes] at hc
  | makeInterface t x => simp only [evOp, hp]
  | slice t x lo hi mx =>
    have hext : (Γ.ext.contains site && lo.isNone) = false := by
      simp only [changes] at hc
      cases lo with
      | some _ => simp
      | none =>
        cases he : Γ.ext with
        | nil => simp
        | cons a l => rw [he] at hc; simp at hc
    have hs := subOf_core h (val tm x) mx
    simp only [evOp, hp, hext]
    split
    · split
      · rfl
      · rfl
      · cases h1 : subOf (val tm x) mx rows with
        | none =>
          cases h2 : subOf (val tm x) mx rows' with
          | none => rfl
          | some q => rw [h1, h2] at hs; simp at hs
        | some p =>
          cases h2 : subOf (val tm x) mx rows' with
          | none => rw [h1, h2] at hs; simp at hs
          | some q =>
            rw [h1, h2] at hs
            obtain ⟨id, r⟩ := p
            obtain ⟨id', r'⟩ := q
            simp only [Option.map_some, Option.some.injEq, Prod.mk.injEq] at hs
            obtain ⟨rfl, hs⟩ := hs
            cases r <;> cases r' <;> simp [Row.core, Row.freeze] at hs
            · rfl
            · obtain ⟨rfl, rfl, rfl, rfl⟩ := hs
              rename_i im s e es sp im'
              rfl
            · rfl
      · rfl
    · rfl
  | indexAddr t x i =>
    simp only [evOp]
    cases val tm i <;> simp only []
    cases P.underlying t with
    | none => rfl
    | some d =>
      cases d <;> try rfl
      case array => cases val tm x <;> rfl
      cases val tm x <;> try rfl
      case own id => rcases h.box id with ⟨cs, im, im', h1, h2⟩ | ⟨s, e, es, sp, im, im', h1, h2⟩ | ⟨h1, h2⟩ | ⟨s, e, p, cs, q, im, im', h1, h2⟩ <;> simp only [h1, h2]
      case sub id lo len => rcases h.box id with ⟨cs, im, im', h1, h2⟩ | ⟨s, e, es, sp, im, im', h1, h2⟩ | ⟨h1, h2⟩ | ⟨s, e, p, cs, q, im, im', h1, h2⟩ <;> simp only [h1, h2]
  | call c =>
    obtain ⟨callee, args, ts⟩ := c
    cases callee with
    | builtin b =>
      simp only [evOp]
      rw [evBuiltin_eq, evBuiltin_eq]
      unfold evBuiltin0
      split
      · simp only [evLen, elemsOf_core h, focLen_core h]
      · rfl
      · rfl
      · rename_i id _ _
        rcases h.box id with ⟨cs, im, im', h1, h2⟩ | ⟨s, e, es, sp, im, im', h1, h2⟩ | ⟨h1, h2⟩ | ⟨s, e, p, cs, q, im, im', h1, h2⟩
        · simp only [h1, h2]
        · simp only [h1, h2]; cases sp <;> rfl
        · simp only [h1, h2]
        · simp only [h1, h2]
      all_goals first | (simp [changes] at hc; done) | rfl
    | value f =>
      simp only [evOp, hpL]
      split
      · rename_i g caps hf
        rw [xOf_none hc hf]
      · rename_i id hf
        rw [yld_none hc hf]
      · rfl
    | invoke r m => rfl
  | makeFunc fn first captured => cases fn <;> rfl
  | convert s d x =>
    have hc' : (Γ.conv && s == d) = false := hc
    simp only [evOp, elemsK_def, elemsOf_core h, ← Bool.and_assoc, hc', Bool.false_and, Bool.false_eq_true, if_false]
  | next x b => simp [changes] at hc
  | _ => rfl
theorem pur1_free {rows rows' : List (Nat × Row)} : ∀ (n : Nat) (v : AV), v.refs = [] → pur1 rows n v = pur1 rows' n v := by
  intro n
  induction n with
  | zero => intro v _; rfl
  | succ n ih =>
    intro v hv
    have hL : ∀ cs : List AV, AV.refss cs = [] → purL (pur1 rows n) cs = purL (pur1 rows' n) cs := by
      intro cs
      induction cs with
      | nil => intro _; rfl
      | cons c cs ihc =>
        intro h
        simp only [AV.refss, List.append_eq_nil_iff] at h
        simp only [purL, ih c h.1, ihc h.2]
    cases v <;> simp only [pur1] <;> try rfl
    case ptr => simp [AV.refs] at hv
    case eptr => simp [AV.refs] at hv
    case own => simp [AV.refs] at hv
    case sub => simp [AV.refs] at hv
    case agg cs => rw [hL cs hv]
    case tup cs => rw [hL cs hv]
    case fn f cs => rw [hL cs hv]
theorem purL_free {rows rows' : List (Nat × Row)} (n : Nat) : ∀ cs : List AV, (∀ c ∈ cs, c.refs = []) → purL (pur1 rows n) cs = purL (pur1 rows' n) cs
  | [], _ => rfl
  | c :: cs, h => by
    have h1 := pur1_free (rows := rows) (rows' := rows') n c (h c (by simp))
    have h2 := purL_free (rows := rows) (rows' := rows') n cs (fun x hx => h x (by simp [hx]))
    simp only [purL, h1, h2]
theorem ofCell_refs (s : Sh) (v : Value) : (ofCell s v).refs = [] := by
  unfold ofCell
  split <;> first | rfl | (split <;> rfl)
theorem ofCells_refs : ∀ (l : List Sh) (vs : List Value), AV.refss (ofCells l vs) = []
  | _, [] => rfl
  | l, v :: vs => by simp [ofCells, AV.refss, ofCell_refs, ofCells_refs]
theorem ofVal_refs (s : Sh) (v : Value) : (ofVal s v).refs = [] := by
  unfold ofVal
  split
  · split
    · exact ofCells_refs _ _
    · rfl
  · split <;> rfl
  · exact ofCell_refs _ _
theorem ofLit_refs (v : Value) : (ofLit v).refs = [] := by unfold ofLit; split <;> rfl
theorem valsT_const (tm : List AV) : ∀ (ts : List TypeId) (xs : List Operand), xs.all isConst = true → ∀ c ∈ valsT P tm ts xs, c.refs = []
  | _, [], _, c, hc => by
    unfold valsT at hc
    split at hc <;> first | contradiction | simp at hc
  | [], x :: xs, h, c, hc => by
    simp only [List.all_cons, Bool.and_eq_true] at h
    simp only [valsT, List.mem_cons] at hc
    rcases hc with rfl | hc
    · cases x <;> simp [isConst] at h
      exact ofLit_refs _
    · exact valsT_const tm [] xs h.2 c hc
  | t :: ts, x :: xs, h, c, hc => by
    simp only [List.all_cons, Bool.and_eq_true] at h
    simp only [valsT, List.mem_cons] at hc
    rcases hc with rfl | hc
    · cases x <;> simp [isConst] at h
      exact ofVal_refs _ _
    · exact valsT_const tm ts xs h.2 c hc
theorem evOp_free {rows rows' : List (Nat × Row)} (o : Oper) (hc : touches Γ o.op = false) (tm : List AV) (y : Eff → Option ρ) : evOp P Γ site o tm rows y = evOp P Γ site o tm rows' y := by
  obtain ⟨dst, op, type, pos, after, guard⟩ := o
  simp only at hc
  cases op <;> first | rfl | (simp [touches] at hc; done) | skip
  · have hc : Γ.conv = false := hc
    simp only [evOp, hc, Bool.false_and]
    rfl
  · rename_i fn first captured
    cases fn <;> rfl
  · rename_i c
    obtain ⟨callee, args, ts⟩ := c
    cases callee with
    | builtin b => simp [touches] at hc
    | invoke r m => simp [touches] at hc
    | value f =>
      cases f with
      | tmp t => simp [touches] at hc
      | const v => simp [touches] at hc
      | global v => simp [touches] at hc
      | func g =>
        simp only [touches, Bool.or_eq_false_iff, Option.isSome_eq_false_iff, Option.isNone_iff_eq_none, Bool.not_eq_false'] at hc
        obtain ⟨h1, h2⟩ := hc
        have hx : xOf Γ (.func g) g = none := h1
        simp only [evOp, val, hx, List.append_nil]
        rw [purL_free (rows := rows) (rows' := rows') depth _ (valsT_const tm ts.toList args.toList (by simpa using h2))]
theorem lookupEq_core {rows rows' : List (Nat × Row)} (h : ∀ id, lookup rows id = lookup rows' id) : coreEq rows rows' := fun id => by rw [h id]
theorem opn1_look {rows rows' : List (Nat × Row)} (h : ∀ id, lookup rows id = lookup rows' id) : ∀ (n : Nat) (v : AV), opn1 rows n v = opn1 rows' n v := by
  have hp := pur1_core (lookupEq_core h) depth
  intro n
  induction n with
  | zero => intro v; rfl
  | succ n ih =>
    intro v
    have hL := purL_congr ih
    cases v <;> simp only [opn1, h, hp, hL]
theorem reachF_look {rows rows' : List (Nat × Row)} (h : ∀ id, lookup rows id = lookup rows' id) {f f' : List AV → List Nat → List Nat} (hf : ∀ cs acc, f cs acc = f' cs acc) : ∀ (is acc : List Nat), reachF rows f is acc = reachF rows' f' is acc
  | [], _ => rfl
  | i :: is, acc => by simp only [reachF, h, hf, reachF_look h hf is]
theorem reach_look {rows rows' : List (Nat × Row)} (h : ∀ id, lookup rows id = lookup rows' id) : ∀ (n : Nat) (avs : List AV) (acc : List Nat), reach rows n avs acc = reach rows' n avs acc
  | 0, _, _ => rfl
  | n + 1, _, _ => reachF_look h (reach_look h n) _ _
theorem rowsAt_look {rows rows' : List (Nat × Row)} (h : ∀ id, lookup rows id = lookup rows' id) : ∀ (ids : List Nat), rowsAt rows ids = rowsAt rows' ids
  | [] => rfl
  | i :: is => by simp only [rowsAt, h, rowsAt_look h is, purL_congr (opn1_look h depth)]
theorem evX_look {rows rows' : List (Nat × Row)} (h : ∀ id, lookup rows id = lookup rows' id) (F : SummX) (avs : List AV) (y : Eff → Option ρ) : evX site F avs rows y = evX site F avs rows' y := by
  simp only [evX, purL_congr (opn1_look h depth), reach_look h, rowsAt_look h]
theorem evOp_look {rows rows' : List (Nat × Row)} (h : ∀ id, lookup rows id = lookup rows' id) (o : Oper) (tm : List AV) (y : Eff → Option ρ) : evOp P Γ site o tm rows y = evOp P Γ site o tm rows' y := by
  by_cases hc : changes Γ o.op = false
  · exact evOp_core (lookupEq_core h) o hc tm y
  · obtain ⟨dst, op, type, pos, after, guard⟩ := o
    simp only [Bool.not_eq_false] at hc
    have hp := pur1_core (lookupEq_core h) depth
    cases op with
    | store t x z => simp only [evOp, focOf, h, hp]
    | call c =>
      obtain ⟨callee, args, ts⟩ := c
      cases callee with
      | builtin b =>
        simp only [evOp]
        rw [evBuiltin_eq, evBuiltin_eq]
        unfold evBuiltin0
        simp only [h, elemsOf_core (lookupEq_core h), srcOf, focLen_core (lookupEq_core h), evLen]
      | value f => simp only [evOp, evX_look h, purL_congr hp, h]
      | invoke r m => simp [changes] at hc
    | slice t x lo hi mx => simp only [evOp, subOf, h, hp]
    | convert src dst x => simp only [evOp, h, elemsK_def, elemsOf_core (lookupEq_core h)]
    | next x b => cases b <;> simp only [evOp, h]
    | _ => simp [changes] at hc
end congr
end Go.Ev
