/-
  Code, calls: what the evaluator says of a function is so.
-/
import Derived.Test.YtpgaobdgohlegaaEvO
namespace Go.Ev
open Go.RowKit

section norm
variable {w0 w : World} {S0 : Nat → Prop} {B : Ctx} {st : St} {a : Act}

theorem RelX.mask (h : RelX w0 S0 B st a w) (slots ids : List Nat) : RelX w0 S0 B (mask slots ids st) a w := by
  obtain ⟨S, β, og, hR, hO⟩ := h
  exact ⟨S, _, og, hR.mask slots ids, hO⟩

theorem getD_some {tm : List AV} {t : Nat} {v : AV} (h : tm.getD t .unk = v) (hne : v ≠ .unk) : tm[t]? = some v := by
  cases ht : tm[t]? with
  | none => simp [List.getD, ht] at h; exact absurd h.symm hne
  | some c => simp [List.getD, ht] at h; rw [h]

theorem arr_set_self {tmps : Array Value} {i : Nat} (h : i < tmps.size) : tmps.setIfInBounds i tmps[i] = tmps := by
  apply Array.ext'
  rw [Array.toList_setIfInBounds]
  have := List.set_getElem_self (as := tmps.toList) (i := i) (by simpa using h)
  simpa using this

theorem RelX.home1 (h : RelX w0 S0 B st a w) (x : Nat × Nat × TypeId) : RelX w0 S0 B (home1 st x) a w := by
  obtain ⟨S, β, og, hR, hO⟩ := h
  unfold Go.Ev.home1
  split
  · exact RelX.mask ⟨S, β, og, hR, hO⟩ _ _
  split
  · exact ⟨S, β, og, hR, hO⟩
  · rename_i hc
    have hf : Fresh x.2.1 st.used := by
      simp only [Bool.or_eq_true, not_or, Bool.not_eq_true] at hc
      exact ⟨by simpa using hc.1, Nat.lt_of_not_le fun h => by rw [Nat.ble_eq_true_of_le h] at hc; simp at hc⟩
    split
    · rename_i id hid
      split
      · rename_i r hl
        obtain ⟨h1, h2⟩ := hR.rename hl hf
        have ht := getD_some hid (by simp)
        obtain ⟨u, hu, hv⟩ := hR.tm.at_ ht
        have := h1.put (some x.1) (v := .own x.2.1) (u := u) (h2 u hv)
        have hput : (a.put (some x.1) u) = a := by
          obtain ⟨hlt, he⟩ := List.getElem?_eq_some_iff.1 hu
          have hlt' : x.1 < a.tmps.size := by simpa using hlt
          have he' : a.tmps[x.1] = u := by simpa using he
          simp only [Act.put]
          congr 1
          rw [← he']
          exact arr_set_self hlt'
        rw [hput] at this
        exact ⟨S, _, _, this, hO⟩
      · exact ⟨S, β, og, hR, hO⟩
    · rename_i s hs
      split
      · rename_i hw
        have ht := getD_some hs (by simp)
        obtain ⟨u, hu, hv⟩ := hR.tm.at_ ht
        cases hv with
        | slz _ _ A =>
          obtain ⟨h1, h2⟩ := hR.promote x.2.2 A hf (by rw [Nat.blt_eq] at hw; exact hw)
          have := h1.put (some x.1) (v := .own x.2.1) (u := .slice A 0 0) h2
          have hput : (a.put (some x.1) (.slice A 0 0)) = a := by
            obtain ⟨hlt, he⟩ := List.getElem?_eq_some_iff.1 hu
            have hlt' : x.1 < a.tmps.size := by simpa using hlt
            have he' : a.tmps[x.1] = .slice A 0 0 := by simpa using he
            simp only [Act.put]
            congr 1
            rw [← he']
            exact arr_set_self hlt'
          rw [hput] at this
          exact ⟨S, _, _, this, hO⟩
      · exact ⟨S, β, og, hR, hO⟩
    · rename_i id n hs
      split
      · rename_i s e es csp hl
        split
        · rename_i hle
          have hle' : n ≤ es.length := Nat.le_of_ble_eq_true hle
          have ht := getD_some hs (by simp)
          obtain ⟨u, hu, hv⟩ := hR.tm.at_ ht
          have hrow := hR.row id _ hl
          obtain ⟨A, c, hbt, hc, hcl, hA⟩ := arr_val hrow
          have huv := sub_val hbt hv
          have hu1 : u = .slice A n c := by
            rw [huv]
            rcases Nat.eq_zero_or_pos c with h0 | h0
            · rw [if_pos h0]; rfl
            · obtain ⟨g, rfl, _⟩ := hA h0
              rw [if_neg (by omega)]
              simp [Addr.add]
          have hfree := hrow.free rfl
          have hN := hR.moved (site := x.2.1) (id := id) hf none (World.grownBy.refl w _) hfree (x := u) (wd := s.width) (o' := og id) (v := .unk) (u := undef) (r1 := .arr false s e (es.take n) none) (by rw [hu1]; rfl) (fun g hg => ⟨.inl hg, hR.lt id g hg⟩) ?_ (.unk _ _)
          · have := hN.put (some x.1) (v := .own x.2.1) (u := u) (.own _ _ _ _ (upd_same _ _ _))
            have hput : ((a.put none undef).put (some x.1) u) = a := by
              obtain ⟨hlt, he⟩ := List.getElem?_eq_some_iff.1 hu
              have hlt' : x.1 < a.tmps.size := by simpa using hlt
              have he' : a.tmps[x.1] = u := by simpa using he
              simp only [Act.put]
              congr 1
              rw [← he']
              exact arr_set_self hlt'
            rw [hput] at this
            exact ⟨S, _, _, this, hO⟩
          · obtain ⟨hp, v, sp, xs, hshS, hcs, hbt', h1, hvs, hor⟩ := hrow
            rw [hbt] at hbt'
            simp only [Option.some.injEq, Prod.mk.injEq, and_true] at hbt'
            subst hbt'
            have hsplit : es.take n ++ (es.drop n ++ sp) = es ++ sp := by rw [← List.append_assoc, List.take_append_drop]
            have hlt : (es.take n).length = n := by rw [List.length_take]; omega
            have hld : (es.drop n ++ sp).length = es.length - n + sp.length := by simp
            refine ⟨hp, u, es.drop n ++ sp, xs, by rw [hsplit]; exact hshS, (fun c h => by cases h), upd_same _ _ _, h1, by rw [hsplit]; exact hvs, ?_⟩
            rcases hor with ⟨rfl, rfl, ho, A', hA'⟩ | ⟨g, ho, hvv, hBg, hh, hmx, hi1, _⟩
            · cases hA'
              refine .inl ⟨by simp, by simp, ho, A, ?_⟩
              rw [hu1]
              simp at hle'
              rw [hle']
            · cases hvv
              refine .inr ⟨g, ho, ?_, hBg, hh, ?_, hi1, (fun h => by cases h)⟩
              · rw [hu1, hlt, hld]; congr 1; omega
              · rw [hlt, hld]; omega
        · exact ⟨S, β, og, hR, hO⟩
      · exact ⟨S, β, og, hR, hO⟩
    · exact ⟨S, β, og, hR, hO⟩

/-- A variable's cell is described otherwise. -/
theorem Rel.setBox {S : Nat → Prop} {β : Bet} {og : Nat → Option Nat} (h : Rel w S B β og st a) {b c : Nat} {im : Bool} {cs : List AV} {v v' : AV} (hl : lookup st.rows b = some (.box im cs)) (hv : cs[c]? = some v) (hvv : ∀ u, VRel w S β v u → VRel w S β v' u) :
    Rel w S B β og ⟨st.tm, setRow st.rows b (.box im (cs.set c v')), st.used⟩ a := by
  refine ⟨h.tm, h.df, fun i y hy => ?_, h.inj, h.lt, h.used, h.one, h.Slt, h.Ble, h.pid⟩
  rw [lookup_setRow] at hy
  by_cases e : i = b
  · subst e
    simp only [if_pos] at hy
    cases hy
    obtain ⟨g, vs, t, ho, hb, hh, h1, hvs, rest⟩ := h.row i _ hl
    refine ⟨g, vs, t, ho, hb, hh, h1, ?_, rest⟩
    obtain ⟨u, hu, hr⟩ := hvs.at_ hv
    have := hvs.set c (hvv u hr)
    obtain ⟨hlt, he⟩ := List.getElem?_eq_some_iff.1 hu
    rwa [← he, List.set_getElem_self hlt] at this
  · rw [if_neg e] at hy
    exact h.row i y hy

theorem RelX.home2 (h : RelX w0 S0 B st a w) (x : Nat × Nat × Nat × TypeId) : RelX w0 S0 B (home2 st x) a w := by
  obtain ⟨S, β, og, hR, hO⟩ := h
  unfold Go.Ev.home2
  split
  · exact ⟨S, β, og, hR, hO⟩
  · rename_i hc
    have hf : Fresh x.2.2.1 st.used := by
      simp only [Bool.or_eq_true, not_or, Bool.not_eq_true] at hc
      exact ⟨by simpa using hc.1, Nat.lt_of_not_le fun h => by rw [Nat.ble_eq_true_of_le h] at hc; simp at hc⟩
    split
    · rename_i im cs hb
      have hbu : x.1 ≠ x.2.2.1 := by
        intro e
        obtain ⟨g, vs, t, _, hbt, _⟩ := hR.row x.1 _ hb
        exact hf.1 (by rw [← e]; exact hR.used _ _ hbt)
      split
      · rename_i id hid
        split
        · rename_i r hl
          split
          · exact ⟨S, β, og, hR, hO⟩
          · rename_i hne
            obtain ⟨h1, h2⟩ := hR.rename hl hf
            have ht := getD_some hid (by simp)
            refine ⟨S, _, _, h1.setBox (b := x.1) (c := x.2.1) (im := im) (cs := cs) (v := .own id) ?_ ht ?_, hO⟩
            · show lookup (setRow (delRow st.rows id) x.2.2.1 r) x.1 = _
              rw [lookup_setRow, if_neg hbu, lookup_delRow, if_neg (fun e => hne e.symm)]
              exact hb
            · intro u hu
              cases hu with
              | own _ _ _ wd hbt =>
                refine h2 u ?_
                by_cases e : id = x.2.2.1
                · exfalso
                  have h0 := hR.row id r hl
                  cases r with
                  | box _ _ => obtain ⟨_, _, _, _, hbt', _⟩ := h0; exact hf.1 (by rw [← e]; exact hR.used _ _ hbt')
                  | arr _ _ _ _ _ => obtain ⟨_, _, _, _, _, _, hbt', _⟩ := h0; exact hf.1 (by rw [← e]; exact hR.used _ _ hbt')
                · rw [upd_other _ _ _ _ e] at hbt
                  exact .own _ id u wd hbt
        · exact ⟨S, β, og, hR, hO⟩
      · rename_i s hs
        split
        · rename_i hw
          have ht := getD_some hs (by simp)
          obtain ⟨g, vs, t, hog, hbt, hhh, h1c, hvs, hrest⟩ := hR.row x.1 _ hb
          obtain ⟨u, hu, hv⟩ := hvs.at_ ht
          cases hv with
          | slz _ _ A =>
            obtain ⟨h1, h2⟩ := hR.promote x.2.2.2 A hf (by rw [Nat.blt_eq] at hw; exact hw)
            have hβ : ∀ i y, β i = some y → upd β x.2.2.1 (some (.slice A 0 0, s.width)) i = some y := fun i y hy => by
              have hne : i ≠ x.2.2.1 := fun e => hf.1 (by rw [← e]; exact hR.used i y hy)
              rw [upd_other _ _ _ _ hne]; exact hy
            refine ⟨S, _, _, ⟨h1.tm, h1.df, fun i y hy => ?_, h1.inj, h1.lt, h1.used, h1.one, h1.Slt, h1.Ble, h1.pid⟩, hO⟩
            rw [lookup_setRow] at hy
            by_cases e : i = x.1
            · subst e
              simp only [if_pos] at hy
              cases hy
              rw [upd_other _ _ _ _ hbu]
              refine ⟨g, vs, t, hog, hβ _ _ hbt, hhh, h1c, ?_, hrest⟩
              have := (hvs.mono (fun _ h => h) (fun _ _ => rfl) hβ).set x.2.1 h2
              obtain ⟨hlt, he⟩ := List.getElem?_eq_some_iff.1 hu
              have hsame : vs.set x.2.1 (.slice A 0 0) = vs := by rw [← he]; exact List.set_getElem_self hlt
              rw [hsame] at this
              exact this
            · rw [if_neg e] at hy
              exact h1.row i y hy
        · exact ⟨S, β, og, hR, hO⟩
      · exact ⟨S, β, og, hR, hO⟩
    · exact ⟨S, β, og, hR, hO⟩

theorem foldl_rel {α : Type} {f : St → α → St} (hf : ∀ st x, RelX w0 S0 B st a w → RelX w0 S0 B (f st x) a w) : ∀ (l : List α) (st : St), RelX w0 S0 B st a w → RelX w0 S0 B (l.foldl f st) a w
  | [], _, h => h
  | x :: l, st, h => foldl_rel hf l _ (hf st x h)

theorem RelX.norm (h : RelX w0 S0 B st a w) (N : Norm) : RelX w0 S0 B (norm N st) a w := by
  unfold Go.Ev.norm
  refine RelX.mask (foldl_rel (fun st x h => RelX.home2 h x) _ _ (foldl_rel (fun st x h => RelX.home1 h x) _ _ ?_)) _ _
  exact h.mask _ _

theorem setAll_at : ∀ (is : List Nat) (vs tm : List AV) (j : Nat) (v : AV), (setAll tm is vs)[j]? = some v → tm[j]? = some v ∨ ∃ n : Nat, is[n]? = some j ∧ vs[n]? = some v
  | [], vs, tm, j, v, h => by simp only [setAll] at h; exact .inl h
  | i :: is, [], tm, j, v, h => by simp [setAll] at h; exact .inl h
  | i :: is, x :: vs, tm, j, v, h => by
    simp only [setAll] at h
    rcases setAll_at is vs _ j v h with h | ⟨n, h1, h2⟩
    · rw [List.getElem?_set] at h
      split at h
      · rename_i e
        split at h
        · cases h; exact .inr ⟨0, by simp [e], rfl⟩
        · cases h
      · exact .inl h
    · exact .inr ⟨n + 1, by simpa using h1, by simpa using h2⟩
theorem setAll_length : ∀ (is : List Nat) (vs tm : List AV), (setAll tm is vs).length = tm.length
  | [], vs, tm => by simp only [setAll]
  | i :: is, [], tm => rfl
  | i :: is, x :: vs, tm => by simp [setAll, setAll_length is vs]
theorem lookup_putRows (rows : List (Nat × Row)) : ∀ (is : List Nat) (id : Nat) (r : Row), lookup (putRows is (is.map fun i => lookup rows i)) id = some r → lookup rows id = some r
  | [], id, r, h => by simp [putRows, lookup] at h
  | i :: is, id, r, h => by
    simp only [List.map_cons] at h
    cases hl : lookup rows i with
    | none => rw [hl] at h; exact lookup_putRows rows is id r h
    | some x =>
      rw [hl] at h
      simp only [putRows, lookup] at h
      split at h
      · rename_i e; cases h; rw [← e]; exact hl
      · exact lookup_putRows rows is id r h
theorem maskFrom_length (keep ids : List Nat) : ∀ (i : Nat) (tm : List AV), (maskFrom keep ids i tm).length = tm.length
  | _, [] => rfl
  | i, v :: vs => by simp [maskFrom, maskFrom_length keep ids (i + 1) vs]
theorem home1_length (st : St) (x : Nat × Nat × TypeId) : (home1 st x).tm.length = st.tm.length := by
  unfold home1
  repeat' split
  all_goals simp [dropRow, mask, maskFrom_length]
theorem home2_length (st : St) (x : Nat × Nat × Nat × TypeId) : (home2 st x).tm.length = st.tm.length := by
  unfold home2
  repeat' split
  all_goals rfl
theorem foldl_length {α : Type} {f : St → α → St} (hf : ∀ st x, (f st x).tm.length = st.tm.length) : ∀ (l : List α) (st : St), (l.foldl f st).tm.length = st.tm.length
  | [], _ => rfl
  | x :: l, st => by rw [List.foldl_cons, foldl_length hf l, hf]
theorem norm_length (N : Norm) (st : St) : (norm N st).tm.length = st.tm.length := by
  unfold norm mask
  simp only [maskFrom_length]
  rw [foldl_length home2_length, foldl_length home1_length]
  simp only [maskFrom_length]

/-- The slots and rows that a loop keeps. -/
theorem RelX.expand (h : RelX w0 S0 B st a w) (N : Norm) (hl : st.tm.length = N.len) : RelX w0 S0 B (Go.Ev.expand N (valsOf N (Go.Ev.norm N st)) (rowsN N (Go.Ev.norm N st))) a w := by
  obtain ⟨S, β, og, hR, hO⟩ := h.norm N
  refine ⟨S, β, og, ⟨⟨?_, fun j c u hc hu => ?_⟩, hR.df, fun id r hr => hR.row id r (lookup_putRows _ _ _ _ hr), hR.inj, hR.lt, fun id x hx => ?_, hR.one, hR.Slt, hR.Ble, hR.pid⟩, hO⟩
  · simp only [Go.Ev.expand, setAll_length, List.length_replicate]
    rw [hR.tm.1, norm_length, hl]
  · rcases setAll_at _ _ _ _ _ hc with h1 | ⟨n, h1, h2⟩
    · have := (List.mem_replicate.1 (List.mem_of_getElem? h1)).2
      subst this
      exact .unk _ _
    · simp only [valsOf, List.getElem?_map, h1, Option.map_some, Option.some.injEq] at h2
      rw [← h2]
      cases hj : (Go.Ev.norm N st).tm[j]? with
      | none => simp only [List.getD, hj, Option.getD_none]; exact .unk _ _
      | some c' => simp only [List.getD, hj, Option.getD_some]; exact hR.tm.2 j c' u hj hu
  · exact hR.used id x hx

end norm

section code
variable {P : Program} {w0 : World} {S0 : Nat → Prop} {B : Ctx} {Γ : Env} {K : List (Nat × Loop)}

def exOf : Ex → Exit
  | .normal => .normal
  | .exit id => .exit id
  | .ret => .ret

/-- A region in whatever order its edges allow. -/
def DrawOK (P : Program) (Γ : Env) : Prop :=
  ∀ (ρ : Type) (w0 : World) (S0 : Nat → Prop) (B : Ctx) (id : Nat) (ops : Array Oper) (k : St → Option ρ) (r : ρ) (st : St) (a : Act) (w : World) (Q : Exit → Act → World → Prop), ops.size ≤ 64 → regOK Γ ops st.tm = true → id < 67108864 →
    evOps P Γ id ops.toList (some (ancTab ops.toList)) k 0 ops.toList st = some r → RelX w0 S0 B st a w → (∀ st a w, k st = some r → RelX w0 S0 B st a w → Q .normal a w) → (Code.region id ops true).wp P Q a w

/-! ### Loops -/
def LoopOK (P : Program) (Γ : Env) (K : List (Nat × Loop)) (b : Code) (l : Loop) : Prop :=
  (∀ (ρ : Type) (vs : List AV) (rs : List (Option Row)) (k : Ex → List AV → List (Option Row) → Option ρ) (r : ρ), l.L ρ vs rs k = some r →
    ∃ m p, iter l.N (fun st => evC P Γ K b (Ex × St) st fun e st' => some (e, st')) m vs rs = some p ∧ k p.1 p.2.1 p.2.2 = some r) ∧
  ∀ (ρ : Type) (vs : List AV) (rs : List (Option Row)) (k : Ex → List AV → List (Option Row) → Option ρ), l.L ρ vs rs k = (l.L (Ex × List AV × List (Option Row)) vs rs fun e v x => some (e, v, x)).bind fun q => k q.1 q.2.1 q.2.2
def KOK (P : Program) (Γ : Env) (K : List (Nat × Loop)) (c : Code) : Prop := ∀ b ∈ loopsOf c, ∀ l, findIn K (firstRegion b) = some l → LoopOK P Γ K b l
theorem KOK.seqL {c d : Code} (h : KOK P Γ K (.seq c d)) : KOK P Γ K c := fun b hb => h b (by simp [loopsOf, hb])
theorem KOK.seqR {c d : Code} (h : KOK P Γ K (.seq c d)) : KOK P Γ K d := fun b hb => h b (by simp [loopsOf, hb])
theorem KOK.condL {x : Operand} {c d : Code} (h : KOK P Γ K (.cond x c d)) : KOK P Γ K c := fun b hb => h b (by simp [loopsOf, hb])
theorem KOK.condR {x : Operand} {c d : Code} (h : KOK P Γ K (.cond x c d)) : KOK P Γ K d := fun b hb => h b (by simp [loopsOf, hb])
theorem KOK.block {i : Nat} {c : Code} (h : KOK P Γ K (.block i c)) : KOK P Γ K c := fun b hb => h b (by simp [loopsOf, hb])
theorem KOK.loop {c : Code} (h : KOK P Γ K (.loop c)) : KOK P Γ K c := fun b hb => h b (by simp [loopsOf, hb])

theorem evC_sound (hΓ : GOK P Γ) (hD : DrawOK P Γ) : ∀ (c : Code), KOK P Γ K c → ∀ (ρ : Type) (st : St) (k : Ex → St → Option ρ) (r : ρ) (a : Act) (w : World) (Q : Exit → Act → World → Prop), evC P Γ K c ρ st k = some r → RelX w0 S0 B st a w →
    (∀ e st a w, k e st = some r → RelX w0 S0 B st a w → Q (exOf e) a w) → c.wp P Q a w := by
  intro c
  induction c with
  | skip => intro _ ρ st k r a w Q h hR hk; exact wp_skip (hk .normal st a w h hR)
  | label l => intro _ ρ st k r a w Q h hR hk; exact wp_label (hk .normal st a w h hR)
  | region id ops draw =>
    intro hKc ρ st k r a w Q h hR hk
    simp only [evC] at h
    split at h
    · rename_i hsz
      split at h
      · rename_i hd
        split at h
        · rename_i hok
          subst hd
          simp only [Bool.and_eq_true] at hok
          exact hD ρ w0 S0 B id ops _ r st a w Q (Nat.le_of_ble_eq_true hsz) hok.1 (Nat.blt_eq ▸ hok.2) h hR (fun st a w hs hx => hk .normal st a w hs hx)
        · cases h
      · rename_i hd
        have hd' : draw = false := by simpa using hd
        subst hd'
        exact wp_region_list (evOps_sound hΓ (fun st a w hs hx => hk .normal st a w hs hx) ops.toList 0 st a w h hR)
    · cases h
  | seq x z ihx ihz =>
    intro hKc ρ st k r a w Q h hR hk
    refine wp_seq (ihx hKc.seqL ρ st _ r a w _ h hR fun e st' a' w' he hx => ?_)
    cases e with
    | normal => exact ihz hKc.seqR ρ st' k r a' w' Q he hx hk
    | exit id => exact hk (.exit id) st' a' w' he hx
    | ret => exact hk .ret st' a' w' he hx
  | cond c x z ihx ihz =>
    intro hKc ρ st k r a w Q h hR hk
    simp only [evC] at h
    split at h
    · rename_i t hc
      have hcv : a.eval c = .bool t := by
        obtain ⟨S, β, og, hR', _⟩ := hR
        have := val_rel hR'.tm c
        rw [hc] at this
        exact this.bool_inv
      refine wp_cond hcv ?_
      cases t with
      | true => exact ihx hKc.condL ρ st k r a w Q h hR hk
      | false => exact ihz hKc.condR ρ st k r a w Q h hR hk
    · rename_i hc
      split at h
      · obtain ⟨h1, h2⟩ := both_some h
        obtain ⟨t, hcv⟩ : ∃ t, a.eval c = .bool t := by
          obtain ⟨S, β, og, hR', _⟩ := hR
          have := val_rel hR'.tm c
          rw [hc] at this
          generalize hu : a.eval c = u at this
          cases this with
          | ubool _ b => exact ⟨b, rfl⟩
        refine wp_cond hcv ?_
        cases t with
        | true => exact ihx hKc.condL ρ st k r a w Q h1 hR hk
        | false => exact ihz hKc.condR ρ st k r a w Q h2 hR hk
      · cases h
    · cases h
  | block id b ih =>
    intro hKc ρ st k r a w Q h hR hk
    refine wp_block (ih hKc.block ρ st _ r a w _ h hR fun e st' a' w' he hx => ?_)
    cases e with
    | normal => exact hk .normal st' a' w' he hx
    | ret => exact hk .ret st' a' w' he hx
    | exit i =>
      simp only at he
      simp only [exOf, Exit.inBlock]
      split at he
      · rename_i e; rw [if_pos e]; exact hk .normal st' a' w' he hx
      · rename_i e; rw [if_neg e]; exact hk (.exit i) st' a' w' he hx
  | loop b ih =>
    intro hKc ρ st k r a w Q h hR hk
    simp only [evC] at h
    split at h
    · rename_i l hl
      split at h
      · rename_i hlen
        have hlen' : st.tm.length = l.N.len := Nat.eq_of_beq_eq_true hlen
        rw [St.force_eq] at h
        obtain ⟨m, p, hp, hkp⟩ := (hKc b (by simp [loopsOf]) l hl).1 ρ _ _ _ r h
        refine wp_loop_rounds m ?_
        have key : ∀ m vs rs a w, iter l.N (fun st => evC P Γ K b (Ex × St) st fun e st' => some (e, st')) m vs rs = some p → RelX w0 S0 B (expand l.N vs rs) a w → Code.rounds P b Q m a w := by
          intro m
          induction m with
          | zero => intro vs rs a w hi; simp [iter] at hi
          | succ m ihm =>
            intro vs rs a w hi hR
            rw [rounds_succ]
            simp only [iter] at hi
            cases hb : evC P Γ K b (Ex × St) (expand l.N vs rs) fun e st' => some (e, st') with
            | none => simp [hb] at hi
            | some q =>
              simp only [hb] at hi
              split at hi
              · rename_i hql
                have hql' : q.2.tm.length = l.N.len := Nat.eq_of_beq_eq_true hql
                refine ih hKc.loop (Ex × St) _ _ q a w _ hb hR fun e st' a' w' he hx => ?_
                simp only [Option.some.injEq] at he
                subst he
                have hout : RelX w0 S0 B (expand l.N (valsOf l.N (norm l.N st')) (rowsN l.N (norm l.N st'))) a' w' := hx.expand l.N hql'
                cases e with
                | normal => exact ihm _ _ a' w' hi hout
                | exit id => simp only [Option.some.injEq] at hi; subst hi; exact hk (.exit id) _ a' w' hkp hout
                | ret => simp only [Option.some.injEq] at hi; subst hi; exact hk .ret _ a' w' hkp hout
              · cases hi
        exact key m _ _ a w hp (hR.expand l.N hlen')
      · cases h
    · cases h
  | exit id => intro _ ρ st k r a w Q h hR hk; exact wp_exit (hk (.exit id) st a w h hR)
  | ret => intro _ ρ st k r a w Q h hR hk; exact wp_ret (hk .ret st a w h hR)
  | rangeFunc f params assign body _ _ => intro _ ρ st k r a w Q h; simp [evC] at h
  | scope b _ => intro _ ρ st k r a w Q h; simp [evC] at h
  | goto l => intro _ ρ st k r a w Q h; simp [evC] at h
  | refuse why => intro _ ρ st k r a w Q h; simp [evC] at h

/-! ### Results -/
def resRun (tmps : Array Value) : ResultVar → Sem Value
  | .tmp t => pure (tmps.getD t undef)
  | .cell ad t => do loadVar t (← asAddr (tmps.getD ad undef))

theorem resultOf_sound {w : World} {S : Nat → Prop} {β : Bet} {og : Nat → Option Nat} {st : St} {a : Act} (hR : Rel w S B β og st a) {rv : ResultVar} {v : AV} (h : resultOf P st.rows st.tm rv = some v) :
    ∃ u, (resRun a.tmps rv).run P w = .ok u w ∧ VRel w S β v u := by
  cases rv with
  | tmp t =>
    simp only [resultOf, Option.some.injEq] at h
    subst h
    exact ⟨_, rfl, getD_rel hR.tm t⟩
  | cell t ty =>
    simp only [resultOf] at h
    have hg := getD_rel hR.tm t
    split at h
    · rename_i id off hp
      rw [hp] at hg
      split at h
      · rename_i im cs hl
        obtain ⟨g, vs, t', ho, hb, hh, h1, hvs, _⟩ := hR.row id _ hl
        generalize he : a.tmps.getD t undef = u at hg
        cases hg with
        | ptr _ _ _ g' wd hb' =>
          rw [hb] at hb'
          simp at hb'
          obtain ⟨rfl, _⟩ := hb'
          have hload := load_sound (P := P) (t := ty) (cs := cs.drop off) (z := fun x => some x) (r := v) (w := w) (S := S) (β := β) (ad := ⟨g, off, none⟩) (xs := vs.drop off) h (hvs.drop off) (fun u hu => h1 u (List.mem_of_mem_drop hu)) (fun j u hu => by
            rw [add_lit', row_cell hh]; simpa using hu)
          obtain ⟨v', u, hv', hvu, hrun⟩ := hload
          cases hv'
          refine ⟨u, ?_, hvu⟩
          simp only [resRun, he, asAddr, pure_bind]
          exact hrun
      · cases h
    · cases h

theorem resultsOf_sound {w : World} {S : Nat → Prop} {β : Bet} {og : Nat → Option Nat} {st : St} {a : Act} (hR : Rel w S B β og st a) : ∀ (rs : List ResultVar) (vs : List AV), resultsOf P st.rows st.tm rs = some vs →
    ∃ us, (rs.mapM (resRun a.tmps)).run P w = .ok us w ∧ VRels w S β vs us
  | [], vs, h => by simp [resultsOf] at h; subst h; exact ⟨[], by simp, VRels.nil⟩
  | rv :: rs, vs, h => by
    simp only [resultsOf] at h
    cases h1 : resultOf P st.rows st.tm rv with
    | none => simp [h1] at h
    | some v =>
      cases h2 : resultsOf P st.rows st.tm rs with
      | none => simp [h1, h2] at h
      | some vs' =>
        simp [h1, h2] at h
        subst h
        obtain ⟨u, hu, hvu⟩ := resultOf_sound hR h1
        obtain ⟨us, hus, hvs⟩ := resultsOf_sound hR rs vs' h2
        refine ⟨u :: us, ?_, VRels.cons hvu hvs⟩
        rw [List.mapM_cons]
        simp only [Sem.run_bind]
        rw [hu]
        simp only [Result.andThen_ok]
        rw [hus]
        rfl

theorem finish_sound {ρ : Type} {w : World} {st : St} {a : Act} (hX : RelX w0 S0 B st a w) {fn : Func} {k : AV → Option ρ} {r : ρ} (h : finish P fn st k = some r) :
    ∃ v u S', k v = some r ∧ (results fn a.tmps).run P w = .ok u w ∧ VRel w S' nob v u ∧ (∀ b, S' b → S0 b ∨ ¬ B b) ∧ (∀ b, S' b → b < w.heap.size) := by
  obtain ⟨S, β, og, hR, hO⟩ := hX
  unfold finish at h
  cases h1 : resultsOf P st.rows st.tm fn.results.toList with
  | none => simp [h1] at h
  | some vs =>
    cases h2 : purL (pur1 st.rows depth) vs with
    | none => simp [h1, h2] at h
    | some p =>
      simp only [h1, h2] at h
      obtain ⟨us, hus, hvs⟩ := resultsOf_sound hR _ _ h1
      have hp := purL_sound (w := w) (S := S) (β := β) (og := og) (f := pur1 st.rows depth) (pur1_sound hR.row depth) _ _ _ h2 hvs
      replace hp := nzs_rel hp
      have hin : ∀ id ∈ p.2, ∃ r, lookup st.rows id = some r := purL_in (rows := st.rows) (pur1_in depth) _ _ h2
      have hOF := hO.freeze hR p.2 hin
      have hFr := hR.freeze p.2
      have hres : (results fn a.tmps).run P w = .ok (if h : us.toArray.size = 1 then us.toArray[0] else .tuple us.toArray) w := by
        show (do let vs ← fn.results.mapM (resRun a.tmps); pure (if h : vs.size = 1 then vs[0] else .tuple vs) : Sem Value).run P w = _
        rw [Array.mapM_eq_mapM_toList]
        simp only [Sem.run_bind, Sem.run_map]
        rw [hus]
        rfl
      refine ⟨_, _, With S og p.2, h, hres, ?_, hOF.sin, hFr.Slt⟩
      unfold one
      split
      · rename_i x hx
        rw [hx] at hp
        obtain ⟨u, us', rfl, hu, hn⟩ := hp.inv
        rw [hn.inv_nil]
        simpa using hu
      · rename_i hx
        have hne : us.length ≠ 1 := by
          rw [hp.1]
          intro hl
          match hq : AV.nzs p.1, hl with
          | [x], _ => exact hx x hq
        have : ¬ us.toArray.size = 1 := by simpa using hne
        rw [dif_neg this]
        exact .tup _ _ _ hp.1 hp.2

/-- WHAT THE EVALUATOR SAYS OF A FUNCTION IS SO. -/
theorem sumOK_of (hΓ : GOK P Γ) (hD : DrawOK P Γ) {f : FuncId} {fn : Func} (hfn : P.funcs[f]? = some fn) {F : Summ} (hF : ∀ ρ avs k r, F ρ avs k = some r → ∃ K, (∀ c, fn.body = some c → KOK P Γ K c) ∧ evF P Γ K fn ρ avs k = some r) : SumOK P f F := by
  intro ρ w S avs args k r hS hv hrun
  obtain ⟨K, hKc, he⟩ := hF ρ avs k r hrun
  unfold evF at he
  cases hb : fn.body with
  | none => simp [hb] at he
  | some c =>
    simp only [hb, St.force_eq] at he
    refine Goes.of hfn hb (calls_of_wp hfn hb ?_)
    have hrep : ∀ m, VRels w S nob (List.replicate m AV.undef) (List.replicate m undef) := by
      intro m
      induction m with
      | zero => exact VRels.nil
      | succ m ih => exact VRels.cons (.undef _) ih
    have hX : RelX w S ⟨fun b => b < w.heap.size, nob⟩ (St.mk (avs ++ List.replicate (fn.ntmps - avs.length) .undef) [] []) { tmps := args.toArray ++ Array.replicate (fn.ntmps - args.toArray.size) undef, defers := [] } w := by
      refine ⟨S, nob, fun _ => none, ⟨?_, rfl, fun id r hr => by simp [lookup] at hr, fun _ _ _ h => by (cases h), fun _ _ h => by (cases h), fun _ _ h => by (cases h), fun _ _ h => by (cases h), hS, fun _ h => h, fun _ _ _ h => by cases h⟩, ⟨Kept.refl _ _, fun _ h => .inl h, fun _ h => h⟩⟩
      have : (args.toArray ++ Array.replicate (fn.ntmps - args.toArray.size) undef).toList = args ++ List.replicate (fn.ntmps - avs.length) undef := by simp [hv.1]
      show VRels w S nob _ (args.toArray ++ Array.replicate (fn.ntmps - args.toArray.size) undef).toList
      rw [this]
      exact hv.append (hrep _)
    refine evC_sound hΓ hD c (hKc c hb) ρ _ _ _ _ w _ he hX fun e st' a' w' hk hx => ?_
    have fin : finish P fn st' k = some r → a'.defers = [] ∧ ∃ v, (results fn a'.tmps).run P w' = .ok v w' ∧ ∃ u v' S', Ending.returned v = Ending.returned u ∧ k v' = some r ∧ Below w.heap.size w w' ∧ (∀ b, S' b → S b ∨ w.heap.size ≤ b) ∧ (∀ b, S' b → b < w'.heap.size) ∧ VRel w' S' nob v' u := fun hf => by
      obtain ⟨v', u, S', hk', hrun, hv', hs1, hs2⟩ := finish_sound hx hf
      obtain ⟨S2, β, og, hR, hO⟩ := hx
      exact ⟨hR.df, u, hrun, u, v', S', rfl, hk', hO.bel.below, fun b hb => (hs1 b hb).imp id fun h => Nat.le_of_not_lt h, hs2, hv'⟩
    cases e with
    | ret => exact fin hk
    | normal => exact fin hk
    | exit id => cases hk

/-! ### Calls that are handed rows -/
theorem paramRows_at (rows : List (Nat × Row)) : ∀ (n b j : Nat) (x : Option Row), (paramRows rows n b)[j]? = some x → x = lookup rows (b + j)
  | 0, b, j, x, h => by simp [paramRows] at h
  | n + 1, b, j, x, h => by
    cases j with
    | zero => simp [paramRows] at h; exact h.symm
    | succ j =>
      simp only [paramRows, List.getElem?_cons_succ] at h
      rw [paramRows_at rows n (b + 1) j x h]
      congr 1
      omega
theorem rowsOf_at (rows : List (Nat × Row)) : ∀ (ids : List Nat) (rs : List Row), rowsOf rows ids = some rs → ∀ (j : Nat) (r : Row), rs[j]? = some r → ∃ i, ids[j]? = some i ∧ lookup rows i = some r
  | [], rs, h, j, r, hj => by simp [rowsOf] at h; subst h; simp at hj
  | i :: is, rs, h, j, r, hj => by
    simp only [rowsOf] at h
    split at h
    · cases h
    · rename_i q hq
      split at h
      · rename_i r' hr
        cases h
        cases j with
        | zero => simp at hj; subst hj; exact ⟨i, rfl, hr⟩
        | succ j => simpa using rowsOf_at rows is q hq j r (by simpa using hj)
      · cases h

theorem finishX_sound {ρ : Type} {w : World} {st : St} {a : Act} (hX : RelX w0 S0 B st a w) {np : Nat} (hdom : ∀ id x, B.bet id = some x → id < RID) {fn : Func} {k : AV → List (Option Row) → List Row → Option ρ} {r : ρ} (h : finishX P fn np st k = some r) :
    ∃ u, (results fn a.tmps).run P w = .ok u w ∧ ∃ v prow nrow S' β' og', k v prow nrow = some r ∧ After w0 S0 B B.bet prow nrow v u w S' β' og' := by
  obtain ⟨S, β, og, hR, hO⟩ := hX
  unfold finishX at h
  split at h
  · cases h
  · rename_i vs h1
    split at h
    · cases h
    · rename_i p h2
      obtain ⟨p1, fz⟩ := p
      simp only at h
      generalize hids : (reach (setImm fz st.rows) depth (p1 ++ cellsOfRows (paramRows (setImm fz st.rows) np PID)) []).filter (fun i => Nat.blt i PID) = ids at h
      have hlt : ∀ i ∈ ids, i < PID := fun i hi => by
        rw [← hids] at hi
        have := (List.mem_filter.1 hi).2
        exact Nat.blt_eq ▸ this
      split at h
      · cases h
      · rename_i nrow hn
        split at h
        · rename_i hc
          simp only [Bool.and_eq_true] at hc
          obtain ⟨hnd, hnp, hsm⟩ := hc
          have hnd' := nodupB_spec ids hnd
          obtain ⟨us, hus, hvs⟩ := resultsOf_sound hR _ _ h1
          have hp := purL_soundX (w := w) (S := S) (β := β) (og := og) (f := opn1 st.rows depth) (opn1_sound hR.row depth) _ _ _ h2 hvs
          have hin : ∀ id ∈ fz, ∃ r, lookup st.rows id = some r := purL_in (rows := st.rows) (opn1_in depth) _ _ h2
          have hOF := hO.freeze hR fz hin
          have hFr := hR.freeze fz
          have hPR : PID + 1000000 < RID := by decide
          have hnp' : np ≤ 1000000 := Nat.le_of_ble_eq_true hnp
          have hm : ∀ id x j, β id = some x → toR ids id = some j → (if j < RID then (if PID ≤ j then β j else none) else (ids[j - RID]?).bind β) = some x := fun id x j hx hj => by
            unfold toR at hj
            split at hj
            · rename_i hle
              cases hj
              have hle' : PID ≤ id := Nat.le_of_ble_eq_true hle
              rw [if_pos (hdom id x (hR.pid id x hle' hx)), if_pos hle']
              exact hx
            · cases hi : idx ids id with
              | none => simp [hi] at hj
              | some jj =>
                simp [hi] at hj
                subst hj
                rw [if_neg (by omega), Nat.add_sub_cancel_left, idx_some ids id jj hi]
                exact hx
          have hren := rens_rel (w := w) (S := With S og fz) (β := β) (β' := fun j => if j < RID then (if PID ≤ j then β j else none) else (ids[j - RID]?).bind β) hm hp
          replace hren := nzs_rel hren
          have hres : (results fn a.tmps).run P w = .ok (if h : us.toArray.size = 1 then us.toArray[0] else .tuple us.toArray) w := by
            show (do let vs ← fn.results.mapM (resRun a.tmps); pure (if h : vs.size = 1 then vs[0] else .tuple vs) : Sem Value).run P w = _
            rw [Array.mapM_eq_mapM_toList]
            simp only [Sem.run_bind, Sem.run_map]
            rw [hus]
            rfl
          refine ⟨_, hres, _, _, _, With S og fz, (fun j => if j < RID then (if PID ≤ j then β j else none) else (ids[j - RID]?).bind β), (fun j => if j < RID then (if PID ≤ j then og j else none) else (ids[j - RID]?).bind og), h, ⟨hO.bel, fun b hb => .inl (hO.sub b hb), hOF.sin, ?_, fun j r hj => ?_, fun j r hj => ?_, fun id id' g hg hg' => ?_, fun id g hg => ?_, fun id x hx => ?_, hFr.Slt, fun id x hlt hx => ?_⟩⟩
          · unfold one
            split
            · rename_i x hx
              rw [hx] at hren
              obtain ⟨u, us', rfl, hu, hn⟩ := hren.inv
              rw [hn.inv_nil]
              simpa using hu
            · rename_i hx
              have hne : us.length ≠ 1 := by
                rw [hren.1]
                intro hl
                match hq : AV.nzs (AV.rens (toR ids) p1), hl with
                | [x], _ => exact hx x hq
              have : ¬ us.toArray.size = 1 := by simpa using hne
              rw [dif_neg this]
              exact .tup _ _ _ hren.1 hren.2
          · rw [List.getElem?_map] at hj
            cases hq : (paramRows (setImm fz st.rows) np PID)[j]? with
            | none => simp [hq] at hj
            | some x =>
              have hx := paramRows_at _ _ _ _ _ hq
              have hjl : j < np := by
                have : (paramRows (setImm fz st.rows) np PID).length = np := by
                  have aux : ∀ n b, (paramRows (setImm fz st.rows) n b).length = n := by
                    intro n
                    induction n with
                    | zero => intro b; rfl
                    | succ n ih => intro b; simp [paramRows, ih]
                  exact aux np PID
                rw [← this]
                exact (List.getElem?_eq_some_iff.1 hq).1
              simp only [hq, Option.map_some, Option.some.injEq] at hj
              cases x with
              | none => simp at hj
              | some r0 =>
                simp only [Option.map_some, Option.some.injEq] at hj
                subst hj
                have h0 := (hFr.row (PID + j) r0 hx.symm).forget
                have e1 : (if PID + j < RID then (if PID ≤ PID + j then og (PID + j) else none) else (ids[PID + j - RID]?).bind og) = og (PID + j) := by rw [if_pos (by omega), if_pos (by omega)]
                rw [e1]
                refine h0.ren hm (fun x hx => ?_) (fun g _ h => h)
                rw [if_pos (by omega), if_pos (by omega)]
                exact hx
          · rw [List.getElem?_map] at hj
            cases hq : nrow[j]? with
            | none => simp [hq] at hj
            | some r0 =>
              simp only [hq, Option.map_some, Option.some.injEq] at hj
              subst hj
              obtain ⟨i, hi, hl⟩ := rowsOf_at _ _ _ hn j r0 hq
              have h0 := (hFr.row i r0 hl).forget
              have e1 : (if RID + j < RID then (if PID ≤ RID + j then og (RID + j) else none) else (ids[RID + j - RID]?).bind og) = og i := by rw [if_neg (by omega), Nat.add_sub_cancel_left, hi]; rfl
              rw [e1]
              refine h0.ren hm (fun x hx => ?_) (fun g _ h => h)
              rw [if_neg (by omega), Nat.add_sub_cancel_left, hi]
              exact hx
          · have cl : ∀ id, (if id < RID then (if PID ≤ id then og id else none) else (ids[id - RID]?).bind og) = some g → (PID ≤ id ∧ id < RID ∧ og id = some g) ∨ (∃ j i, id = RID + j ∧ ids[j]? = some i ∧ i < PID ∧ og i = some g) := fun id h => by
              split at h
              · split at h
                · rename_i h1 h2; exact .inl ⟨h2, h1, h⟩
                · cases h
              · rename_i h1
                cases hi : ids[id - RID]? with
                | none => simp [hi] at h
                | some i => exact .inr ⟨id - RID, i, by omega, hi, hlt i (List.mem_of_getElem? hi), by simpa [hi] using h⟩
            rcases cl id hg with ⟨a1, a2, a3⟩ | ⟨j, i, rfl, a2, a3, a4⟩ <;> rcases cl id' hg' with ⟨b1, b2, b3⟩ | ⟨j', i', rfl, b2, b3, b4⟩
            · exact hR.inj id id' g a3 b3
            · have := hR.inj id i' g a3 b4; omega
            · have := hR.inj i id' g a4 b3; omega
            · have := hR.inj i i' g a4 b4
              subst this
              rw [hnd' j j' i a2 b2]
          · split at hg
            · split at hg
              · exact hR.lt _ g hg
              · cases hg
            · cases hi : ids[id - RID]? with
              | none => simp [hi] at hg
              | some i => exact hR.lt i g (by simpa [hi] using hg)
          · split at hx
            · split at hx
              · exact hR.one _ x hx
              · cases hx
            · cases hi : ids[id - RID]? with
              | none => simp [hi] at hx
              | some i => exact hR.one i x (by simpa [hi] using hx)
          · rw [if_pos hlt] at hx
            split at hx
            · rename_i hle; exact hR.pid id x hle hx
            · cases hx
        · cases h

/-- What lies behind the elements of the rows that a call is handed. -/
def Spared : List Row → List Row → Prop
  | [], [] => True
  | .box i cs :: rs, r :: rs' => r = .box i cs ∧ Spared rs rs'
  | .arr i s e es csp :: rs, r :: rs' => (∃ sp, r = .arr i s e es (some sp) ∧ (∀ x ∈ es ++ sp, hasSh s x = true) ∧ ∀ c, csp = some c → c = sp) ∧ Spared rs rs'
  | _, _ => False
theorem spared_of {w : World} {S B : Nat → Prop} {β : Bet} {og : Nat → Option Nat} : ∀ (rs : List Row) (b : Nat), (∀ (j : Nat) (r : Row), rs[j]? = some r → RowRel w S B β (b + j) (og (b + j)) r) → ∃ rs', Spared rs rs' ∧ rs'.length = rs.length ∧ ∀ (j : Nat) (r : Row), rs'[j]? = some r → RowRel w S B β (b + j) (og (b + j)) r
  | [], b, _ => ⟨[], trivial, rfl, fun j r h => by simp at h⟩
  | r :: rs, b, h => by
    obtain ⟨rs', i1, i2, i3⟩ := spared_of rs (b + 1) (fun j r hj => by have := h (j + 1) r (by simpa using hj); rwa [show b + (j + 1) = b + 1 + j from by omega] at this)
    have key : ∀ r', RowRel w S B β b (og b) r' → ∀ (j : Nat) (x : Row), (r' :: rs')[j]? = some x → RowRel w S B β (b + j) (og (b + j)) x := fun r' hr' j x hj => by
      cases j with
      | zero => simp at hj; subst hj; exact hr'
      | succ j => have := i3 j x (by simpa using hj); rwa [show b + 1 + j = b + (j + 1) from by omega] at this
    have h0 := h 0 r rfl
    cases r with
    | box i cs => exact ⟨.box i cs :: rs', ⟨rfl, i1⟩, by simp [i2], key _ h0⟩
    | arr i s e es csp =>
      obtain ⟨hp, v, sp, xs, hsh, hcs, rest⟩ := h0
      exact ⟨.arr i s e es (some sp) :: rs', ⟨⟨sp, rfl, hsh, hcs⟩, i1⟩, by simp [i2], key _ ⟨hp, v, sp, xs, hsh, (fun c hc => by cases hc; rfl), rest⟩⟩
theorem lookup_zipIds' : ∀ (rs : List Row) (b j : Nat) (r : Row), rs[j]? = some r → lookup (zipIds b rs) (b + j) = some r
  | [], b, j, r, h => by simp at h
  | x :: rs, b, j, r, h => by
    cases j with
    | zero => simp at h; simp [zipIds, lookup, h]
    | succ j =>
      have := lookup_zipIds' rs (b + 1) j r (by simpa using h)
      simp only [zipIds, lookup]
      rw [if_neg (by omega), show b + (j + 1) = b + 1 + j from by omega]
      exact this

theorem homeK_eq {ρ : Type} {st : St} {x : Nat × Nat × TypeId} {k : St → Option ρ} {r : ρ} (h : homeK st x k = some r) : k (home1 st x) = some r := by
  unfold homeK at h
  unfold home1
  split at h
  · rename_i hc; rw [if_pos hc]; exact h
  rename_i hc0
  rw [if_neg hc0]
  split at h
  · rename_i hc; rw [if_pos hc]; exact h
  · rename_i hc
    rw [if_neg hc]
    split at h
    · rename_i id n hs
      rw [hs]
      simp only
      split at h
      · rename_i s e es csp hl
        obtain ⟨hb, h⟩ := bif_some h
        simp only [hb, if_true]
        exact h
      · exact h
    · unfold home1 at h
      rw [if_neg hc0, if_neg hc] at h
      exact h
theorem homes_eq {ρ : Type} : ∀ {H : List (Nat × Nat × TypeId)} {st : St} {k : St → Option ρ} {r : ρ}, homes H st k = some r → k (H.foldl home1 st) = some r
  | [], _, _, _, h => h
  | _ :: H, _, _, _, h => homes_eq (H := H) (homeK_eq h)
/-- WHAT THE EVALUATOR SAYS OF A FUNCTION THAT IS HANDED ROWS IS SO. -/
theorem xok_of (hΓ : GOK P Γ) (hD : DrawOK P Γ) {f : FuncId} {fn : Func} (hfn : P.funcs[f]? = some fn) {F : SummX} (hF : ∀ ρ avs rows k r, F ρ avs rows k = some r → rows.length ≤ 1000000 ∧ ∀ rows', Spared rows rows' → ∃ K H, (∀ c, fn.body = some c → KOK P Γ K c) ∧ evFX P Γ K H fn ρ avs rows' k = some r) : XOK P f F := by
  intro ρ w S B β og avs rows args k r hH hSB hdom hv hrun
  obtain ⟨hsm, hF'⟩ := hF ρ avs rows k r hrun
  obtain ⟨rows', hsp, hlen, hrow'⟩ := spared_of (w := w) (S := S) (B := B) (β := β) (og := og) rows PID (fun j r hj => hH.row _ _ (lookup_zipIds' rows PID j r hj))
  obtain ⟨K, H, hKc, he⟩ := hF' rows' hsp
  have hPR : PID + 1000000 < RID := by decide
  unfold evFX at he
  cases hb : fn.body with
  | none => simp [hb] at he
  | some c =>
    simp only [hb, St.force_eq] at he
    refine Goes.of hfn hb (calls_of_wp hfn hb ?_)
    have hrep : ∀ m, VRels w S β (List.replicate m AV.undef) (List.replicate m undef) := by
      intro m
      induction m with
      | zero => exact VRels.nil
      | succ m ih => exact VRels.cons (.undef _) ih
    have hX : RelX w S ⟨B, β⟩ (St.mk (avs ++ List.replicate (fn.ntmps - avs.length) .undef) (zipIds PID rows') (List.range' PID rows'.length)) { tmps := args.toArray ++ Array.replicate (fn.ntmps - args.toArray.size) undef, defers := [] } w := by
      refine ⟨S, β, og, ⟨?_, rfl, fun id r hr => ?_, hH.inj, hH.lt, fun id x hx => ?_, hH.one, hH.Slt, hH.Ble, fun id x _ hx => hx⟩, ⟨Kept.refl _ _, fun _ h => .inl h, fun _ h => h⟩⟩
      · have : (args.toArray ++ Array.replicate (fn.ntmps - args.toArray.size) undef).toList = args ++ List.replicate (fn.ntmps - avs.length) undef := by simp [hv.1]
        show VRels w S β _ (args.toArray ++ Array.replicate (fn.ntmps - args.toArray.size) undef).toList
        rw [this]
        exact hv.append (hrep _)
      · obtain ⟨hle, hx⟩ := lookup_zipIds _ _ _ _ hr
        obtain ⟨jj, rfl⟩ : ∃ jj, id = PID + jj := ⟨id - PID, by omega⟩
        rw [Nat.add_sub_cancel_left] at hx
        exact hrow' jj r hx
      · obtain ⟨h1, h2⟩ := hdom id x hx
        show id ∈ List.range' PID rows'.length
        rw [List.mem_range'_1, hlen]
        exact ⟨h1, h2⟩
    have hdom' : ∀ id x, (Ctx.mk B β).bet id = some x → id < RID := fun id x hx => by have := (hdom id x hx).2; omega
    refine evC_sound hΓ hD c (hKc c hb) ρ _ _ _ _ w _ he hX fun e st' a' w' hk hx => ?_
    have fin : (homes H st' fun st => finishX P fn rows'.length st k) = some r → a'.defers = [] ∧ ∃ v, (results fn a'.tmps).run P w' = .ok v w' ∧ ∃ u v' prow nrow S' β' og', Ending.returned v = Ending.returned u ∧ k v' prow nrow = some r ∧ After w S B β prow nrow v' u w' S' β' og' := fun hf => by
      have hx' := foldl_rel (fun st x h => RelX.home1 h x) H st' hx
      obtain ⟨u, hrun, v, prow, nrow, S', β', og', hk', hA⟩ := finishX_sound hx' hdom' (homes_eq hf)
      obtain ⟨S2, β2, og2, hR, hO⟩ := hx
      exact ⟨hR.df, u, hrun, u, v, prow, nrow, S', β', og', rfl, hk', hA⟩
    cases e with
    | ret => exact fin hk
    | normal => exact fin hk
    | exit id => cases hk

end code
end Go.Ev
