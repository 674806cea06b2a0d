/-
  Regions in the order of their text; what a loop's head forgets.
-/
import Derived.Test.YtpgaobdgohlegaaEvN
import Derived.LoopN
namespace Go.Ev
open Go.RowKit

section regions
variable {ρ : Type} {P : Program} {w0 : World} {S0 : Nat → Prop} {B : Ctx} {Γ : Env} {Q : Exit → Act → World → Prop}

theorem guard_at {w : World} {S : Nat → Prop} {β : Bet} {tm : List AV} {a : Act} (h : VRels w S β tm a.tmps.toList) (ops : Array Oper) (j : Nat) :
    (∀ b, guardAt ops.toList tm j = .bool b → yielded ops a.tmps j = some b) ∧ (guardAt ops.toList tm j = .undef → yielded ops a.tmps j = none) := by
  unfold guardAt yielded
  simp only [Array.getElem?_toList]
  cases ho : ops[j]? with
  | none => simp
  | some o =>
    simp only [Option.bind_some]
    cases hd : o.dst with
    | none => simp
    | some d =>
      simp only [Option.bind_some]
      have hat : ∀ c, tm.getD d .unk = c → c ≠ .unk → ∃ u, a.tmps[d]? = some u ∧ VRel w S β c u := fun c hc hne => by
        cases ht : tm[d]? with
        | none => simp [List.getD, ht] at hc; exact absurd hc.symm hne
        | some c' =>
          simp [List.getD, ht] at hc
          subst hc
          obtain ⟨u, hu, hv⟩ := h.at_ ht
          exact ⟨u, by simpa using hu, hv⟩
      constructor
      · intro b hb
        obtain ⟨u, hu, hv⟩ := hat _ hb (by simp)
        rw [hu, hv.bool_inv]
      · intro hb
        obtain ⟨u, hu, hv⟩ := hat _ hb (by simp)
        rw [hu]
        cases hv
        rfl

theorem set_same {tm : List AV} {d : Nat} {c : AV} (h : tm.getD d .unk = c) (hne : c ≠ .unk) : tm.set d c = tm := by
  cases ht : tm[d]? with
  | none => simp [List.getD, ht] at h; exact absurd h.symm hne
  | some c' =>
    simp [List.getD, ht] at h
    subst h
    obtain ⟨hd, he⟩ := List.getElem?_eq_some_iff.1 ht
    rw [← he]
    exact List.set_getElem_self hd

theorem decideAt_eq {ops : List Oper} {i : Nat} {dst : Option Tmp} {st : St} {k : St → Option ρ} {r : ρ} (h : decideAt ops i dst st k = some r) : k st = some r := by
  unfold decideAt at h
  split at h
  · split at h
    · rename_i d
      split at h
      · rename_i b hb
        have hs := set_same hb (by simp)
        cases b with
        | true => simp only [cond_true, hs] at h; exact h
        | false => simp only [cond_false, hs] at h; exact h
      · cases h
    · cases h
  · exact h

theorem evOps_sound (hΓ : GOK P Γ) {ops : Array Oper} {rid : Nat} {k : St → Option ρ} {r : ρ} (hk : ∀ st a w, k st = some r → RelX w0 S0 B st a w → Q .normal a w) :
    ∀ (l : List Oper) (i : Nat) (st : St) (a : Act) (w : World), evOps P Γ rid ops.toList none k i l st = some r → RelX w0 S0 B st a w → wpList P ops Q l a w
  | [], i, st, a, w, h, hR => hk st a w h hR
  | o :: rest, i, st, a, w, h, ⟨S, β, og, hR, hO⟩ => by
    have ih := evOps_sound hΓ (ops := ops) (rid := rid) hk rest (i + 1)
    have run : evOp P Γ (rid * 64 + i) o st.tm st.rows (fun e => if freshB (rid * 64 + i) e st.used then (apply (rid * 64 + i) o.dst e st).force fun st1 => decideAt ops.toList i o.dst st1 (evOps P Γ rid ops.toList none k (i + 1) rest) else none) = some r →
        ∀ K : Act → World → Prop, (∀ a w, wpList P ops Q rest a w → K a w) → o.wp P a w K Q := fun hrun K hK => by
      refine evOp_sound hΓ hR hO (fun _ _ h => h) (fun e he => ?_) hrun (fun e a' w' he hx => hK _ _ ?_)
      · by_cases hf : freshB (rid * 64 + i) e st.used = true
        · exact hf
        · simp [hf] at he
      · by_cases hf : freshB (rid * 64 + i) e st.used = true
        · simp only [hf, if_true, St.force_eq] at he
          exact ih _ _ _ (decideAt_eq he) hx
        · simp [hf] at he
    have skip : evOps P Γ rid ops.toList none k (i + 1) rest ⟨putTm st.tm o.dst .undef, st.rows, st.used⟩ = some r → wpList P ops Q rest (a.put o.dst undef) w := fun hs =>
      ih _ _ _ hs ⟨S, β, og, hR.put o.dst (.undef _), hO⟩
    refine wpList_step fun K hK => ?_
    simp only [evOps] at h
    split at h
    · rename_i hg
      simp only [Region.wanted, hg, if_true]
      exact run h K hK
    · rename_i j want hg
      obtain ⟨hgb, hgu⟩ := guard_at hR.tm ops j
      simp only [Region.wanted, hg]
      split at h
      · rename_i b hb
        rw [hgb b hb]
        cases hbw : (b == want) with
        | true =>
          simp only [hbw, cond_true] at h
          have hbe : b = want := by simpa using hbw
          simp only [hbe, beq_self_eq_true, if_true]
          exact run h K hK
        | false =>
          simp only [hbw, cond_false] at h
          have hbe : ¬ (some b == some want) = true := by simpa using hbw
          rw [if_neg hbe]
          exact hK _ _ (skip h)
      · rename_i hb
        rw [hgu hb]
        have : ¬ ((none : Option Bool) == some want) = true := by simp
        rw [if_neg this]
        exact hK _ _ (skip h)
      · cases h

end regions

/-! ### What a loop's head forgets -/
def restr (β : Bet) (ids : List Nat) : Bet := fun i => if ids.contains i then β i else none

theorem only_rel {w : World} {S : Nat → Prop} {β : Bet} {v : AV} {u : Value} (ids : List Nat) (h : VRel w S β v u) : VRel w S (restr β ids) (v.only ids) u := by
  have hL : ∀ (cs : List AV) (j : Nat) (c : AV), (AV.onlys ids cs)[j]? = some c → ∃ c', cs[j]? = some c' ∧ c = c'.only ids := by
    intro cs
    induction cs with
    | nil => intro j c hc; simp [AV.onlys] at hc
    | cons x cs ih =>
      intro j c hc
      cases j with
      | zero => simp [AV.onlys] at hc; exact ⟨x, rfl, hc.symm⟩
      | succ j => simp only [AV.onlys, List.getElem?_cons_succ] at hc; obtain ⟨c', h1, h2⟩ := ih j c hc; exact ⟨c', by simpa using h1, h2⟩
  have hlen : ∀ cs : List AV, (AV.onlys ids cs).length = cs.length := by
    intro cs
    induction cs with
    | nil => rfl
    | cons x cs ih => simp [AV.onlys, ih]
  induction h with
  | unk β v => exact .unk _ v
  | undef => exact .undef _
  | int β k n => exact .int _ k n
  | bool β b => exact .bool _ b
  | ubool β b => exact .ubool _ b
  | str β s => exact .str _ s
  | agg β cs vs hl h1 _ ih =>
    refine .agg _ _ vs (by rw [hlen]; exact hl) h1 fun j c u hc hu => ?_
    obtain ⟨c', hc', rfl⟩ := hL cs j c hc
    exact ih j c' u hc' hu
  | tup β cs vs hl _ ih =>
    refine .tup _ _ vs (by rw [hlen]; exact hl) fun j c u hc hu => ?_
    obtain ⟨c', hc', rfl⟩ := hL cs j c hc
    exact ih j c' u hc' hu
  | slv β s es A c a xs hs hc hm hA hl h1 hx hh _ => exact .slv _ s es A c a xs hs hc hm hA hl h1 hx hh
  | slz β s A => exact .slz _ s A
  | eref β s es i off a xs hi hs hSa hl h1 hx hh _ => exact .eref _ s es i off a xs hi hs hSa hl h1 hx hh
  | ref β cs a xs hSa hl h1 hx hh _ => exact .ref _ cs a xs hSa hl h1 hx hh
  | ptr β id off g wd hbt =>
    simp only [AV.only]
    split
    · rename_i hc; exact .ptr _ id off g wd (by simp only [restr, hc, if_true]; exact hbt)
    · exact .unk _ _
  | eptr β id i off g n c wd hbt =>
    simp only [AV.only]
    split
    · rename_i hc; exact .eptr _ id i off g n c wd (by simp only [restr, hc, if_true]; exact hbt)
    · exact .unk _ _
  | own β id v wd hbt =>
    simp only [AV.only]
    split
    · rename_i hc; exact .own _ id v wd (by simp only [restr, hc, if_true]; exact hbt)
    · exact .unk _ _
  | sub β id lo len A n c wd hbt =>
    simp only [AV.only]
    split
    · rename_i hc; exact .sub _ id lo len A n c wd (by simp only [restr, hc, if_true]; exact hbt)
    · exact .unk _ _
  | fn β f cs vs hl _ ih =>
    refine .fn _ f _ vs (by rw [hlen]; exact hl) fun j c u hc hu => ?_
    obtain ⟨c', hc', rfl⟩ := hL cs j c hc
    exact ih j c' u hc' hu

theorem onlys_rel {w : World} {S : Nat → Prop} {β : Bet} (ids : List Nat) : ∀ (cs : List AV) (us : List Value), VRels w S β cs us → VRels w S (restr β ids) (AV.onlys ids cs) us
  | [], us, h => by rw [h.inv_nil]; exact VRels.nil
  | c :: cs, us, h => by
    obtain ⟨u, us', rfl, hu, hs⟩ := h.inv
    exact VRels.cons (only_rel ids hu) (onlys_rel ids cs us' hs)
theorem mask_rel {w : World} {S : Nat → Prop} {β : Bet} (slots ids : List Nat) : ∀ (cs : List AV) (us : List Value) (i : Nat), VRels w S β cs us → VRels w S (restr β ids) (maskFrom slots ids i cs) us
  | [], us, i, h => by rw [h.inv_nil]; exact VRels.nil
  | c :: cs, us, i, h => by
    obtain ⟨u, us', rfl, hu, hs⟩ := h.inv
    refine VRels.cons ?_ (mask_rel slots ids cs us' (i + 1) hs)
    split
    · exact only_rel ids hu
    · exact .unk _ _

theorem lookup_keepRows (rows : List (Nat × Row)) (ids : List Nat) : ∀ (l : List Nat) (i : Nat) (r : Row), lookup (keepRows rows ids l) i = some r → i ∈ l ∧ ∃ r', lookup rows i = some r' ∧ r = r'.only ids
  | [], i, r, h => by simp [keepRows, lookup] at h
  | x :: l, i, r, h => by
    simp only [keepRows] at h
    cases hx : lookup rows x with
    | none =>
      simp only [hx] at h
      obtain ⟨h1, h2⟩ := lookup_keepRows rows ids l i r h
      exact ⟨List.mem_cons_of_mem _ h1, h2⟩
    | some r' =>
      simp only [hx, lookup] at h
      split at h
      · rename_i e
        cases h
        subst e
        exact ⟨by simp, r', hx, rfl⟩
      · obtain ⟨h1, h2⟩ := lookup_keepRows rows ids l i r h
        exact ⟨List.mem_cons_of_mem _ h1, h2⟩

theorem restr_some {β : Bet} {ids : List Nat} {i : Nat} {x : Value × Nat} (h : restr β ids i = some x) : i ∈ ids ∧ β i = some x := by
  simp only [restr] at h
  split at h
  · rename_i hc; exact ⟨by simpa using hc, h⟩
  · cases h

theorem Rel.mask {w : World} {S : Nat → Prop} {B : Ctx} {β : Bet} {og : Nat → Option Nat} {st : St} {a : Act} (h : Rel w S B β og st a) (slots ids : List Nat) : Rel w S B (restr β ids) og (mask slots ids st) a := by
  refine ⟨mask_rel slots ids _ _ 0 h.tm, h.df, fun i r hr => ?_, h.inj, h.lt, fun i x hx => (restr_some hx).1, fun i x hx => h.one i x (restr_some hx).2, h.Slt, h.Ble, fun i x hp hx => h.pid i x hp (restr_some hx).2⟩
  obtain ⟨hi, r', hl, rfl⟩ := lookup_keepRows st.rows ids ids i r hr
  have hc : ids.contains i = true := by simpa using hi
  have h0 := h.row i r' hl
  cases r' with
  | box imm cs =>
    obtain ⟨g, vs, t, ho, hb, hh, h1, hv, r1, r2, r3⟩ := h0
    exact ⟨g, vs, t, ho, by simp only [restr, hc, if_true]; exact hb, hh, h1, onlys_rel ids cs vs hv, r1, r2, r3⟩
  | arr imm s e es csp =>
    obtain ⟨hp, v, sp, xs, hsh, hcs, hb, rest⟩ := h0
    exact ⟨hp, v, sp, xs, hsh, hcs, by simp only [restr, hc, if_true]; exact hb, rest⟩

/-- A row gets another number. -/
theorem Rel.rename {w : World} {S : Nat → Prop} {B : Ctx} {β : Bet} {og : Nat → Option Nat} {st : St} {a : Act} (h : Rel w S B β og st a) {id n : Nat} {r : Row} (hl : lookup st.rows id = some r) (hf : Fresh n st.used) :
    Rel w S B (upd β n (β id)) (upd (upd og id none) n (og id)) ⟨st.tm, setRow (delRow st.rows id) n r, n :: st.used⟩ a ∧ ∀ v, VRel w S β (.own id) v → VRel w S (upd β n (β id)) (.own n) v := by
  have hβ : ∀ i y, β i = some y → upd β n (β id) i = some y := fun i y hy => by
    have hne : i ≠ n := fun e => hf.1 (by rw [← e]; exact h.used i y hy)
    rw [upd_other _ _ _ _ hne]; exact hy
  refine ⟨⟨h.tm.mono (fun _ h => h) (fun _ _ => rfl) hβ, h.df, fun i y hy => ?_, fun i i' g hgi hgi' => ?_, fun i g hgi => ?_, fun i y hy => ?_, fun i y hy => ?_, h.Slt, h.Ble, pid_upd h.pid hf.2⟩, fun v hv => ?_⟩
  · rw [lookup_setRow] at hy
    by_cases e : i = n
    · subst e
      simp only [if_pos] at hy
      cases hy
      rw [upd_same]
      have h0 := h.row id r hl
      cases r with
      | box imm cs =>
        obtain ⟨g, vs, t, ho, hb, hh, h1, hv, r1, r2, r3⟩ := h0
        exact ⟨g, vs, t, ho, by rw [upd_same]; exact hb, hh, h1, hv.mono (fun _ h => h) (fun _ _ => rfl) hβ, r1, r2, r3⟩
      | arr imm s e es csp =>
        obtain ⟨hp, v, sp, xs, hsh, hcs, hb, rest⟩ := h0
        exact ⟨hp, v, sp, xs, hsh, hcs, by rw [upd_same]; exact hb, rest⟩
    · rw [if_neg e, lookup_delRow] at hy
      by_cases e' : i = id
      · rw [if_pos e'] at hy; cases hy
      · rw [if_neg e'] at hy
        rw [upd_other _ _ _ _ e, upd_other _ _ _ _ e']
        exact (h.row i y hy).keep hβ (fun _ h => h) (fun _ _ h => h) (fun _ _ => rfl) (fun _ _ => rfl)
  · have aux : ∀ i, i ≠ n → upd (upd og id none) n (og id) i = some g → og i = some g ∧ i ≠ id := fun i hi hgi => by
      rw [upd_other _ _ _ _ hi] at hgi
      by_cases e' : i = id
      · rw [e', upd_same] at hgi; cases hgi
      · rw [upd_other _ _ _ _ e'] at hgi; exact ⟨hgi, e'⟩
    by_cases e : i = n <;> by_cases e' : i' = n
    · rw [e, e']
    · subst e; rw [upd_same] at hgi
      obtain ⟨h1, h2⟩ := aux i' e' hgi'
      exact absurd (h.inj i' id g h1 hgi) h2
    · subst e'; rw [upd_same] at hgi'
      obtain ⟨h1, h2⟩ := aux i e hgi
      exact absurd (h.inj i id g h1 hgi') h2
    · exact h.inj i i' g (aux i e hgi).1 (aux i' e' hgi').1
  · by_cases e : i = n
    · subst e; rw [upd_same] at hgi; exact h.lt id g hgi
    · rw [upd_other _ _ _ _ e] at hgi
      by_cases e' : i = id
      · rw [e', upd_same] at hgi; cases hgi
      · rw [upd_other _ _ _ _ e'] at hgi; exact h.lt i g hgi
  · by_cases e : i = n
    · subst e; simp
    · rw [upd_other _ _ _ _ e] at hy; exact List.mem_cons_of_mem _ (h.used i y hy)
  · by_cases e : i = n
    · subst e; rw [upd_same] at hy; exact h.one id y hy
    · rw [upd_other _ _ _ _ e] at hy; exact h.one i y hy
  · cases hv with
    | own _ _ _ wd hb => exact .own _ n v wd (by rw [upd_same]; exact hb)

/-- A slice without room becomes a row of the call's own. -/
theorem Rel.promote {w : World} {S : Nat → Prop} {B : Ctx} {β : Bet} {og : Nat → Option Nat} {st : St} {a : Act} (h : Rel w S B β og st a) {n : Nat} {s : Sh} (e : TypeId) (A : Option Addr) (hf : Fresh n st.used) (hs : 0 < s.width) :
    Rel w S B (upd β n (some (.slice A 0 0, s.width))) (upd og n none) ⟨st.tm, setRow st.rows n (.arr false s e [] none), n :: st.used⟩ a ∧ VRel w S (upd β n (some (.slice A 0 0, s.width))) (.own n) (.slice A 0 0) := by
  have hN := h.new n hf none (Below.refl _ _) (S' := S) (fun _ h => h) (fun _ _ h => h) h.Slt (r := .arr false s e [] none) (v := .unk) (u := undef) (x := .slice A 0 0) (wd := s.width) (o := none) rfl (fun g hg => by cases hg)
    ⟨hs, .slice A 0 0, [], [], by simp, (fun c h => by cases h), upd_same _ _ _, by simp, VRels.nil, .inl ⟨rfl, rfl, rfl, A, rfl⟩⟩ (.unk _ _)
  exact ⟨hN, .own _ n _ _ (upd_same _ _ _)⟩

theorem Rel.setSlot {w : World} {S : Nat → Prop} {B : Ctx} {β : Bet} {og : Nat → Option Nat} {st : St} {a : Act} (h : Rel w S B β og st a) {t : Nat} {v v' : AV} (hv : st.tm[t]? = some v) (hvv : ∀ u, VRel w S β v u → VRel w S β v' u) : Rel w S B β og ⟨st.tm.set t v', st.rows, st.used⟩ a := by
  refine ⟨?_, h.df, h.row, h.inj, h.lt, h.used, h.one, h.Slt, h.Ble, h.pid⟩
  obtain ⟨u, hu, hr⟩ := h.tm.at_ hv
  have := h.tm.set t (hvv u hr)
  obtain ⟨hlt, he⟩ := List.getElem?_eq_some_iff.1 hu
  rwa [← he, List.set_getElem_self hlt] at this

end Go.Ev
