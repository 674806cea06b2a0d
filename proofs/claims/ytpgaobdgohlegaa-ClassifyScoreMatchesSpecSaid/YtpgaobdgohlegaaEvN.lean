/-
  All operations together; a region in the order of its text.
-/
import Derived.Test.YtpgaobdgohlegaaEvMD
namespace Go.Ev
open Go.RowKit

structure GOK (P : Program) (Γ : Env) : Prop where
  pure : ∀ g F, find Γ g = some F → SumOK P g F
  snat : ∀ g F, find Γ g = some F → SNat F
  opens : ∀ g F, findX Γ g = some F → XOK P g F
  nat : ∀ g F, findX Γ g = some F → XNat F
theorem xOf_find {Γ : Env} {f : Operand} {g : Nat} {F : SummX} (h : xOf Γ f g = some F) : findX Γ g = some F := by
  unfold xOf at h
  split at h
  · exact h
  · split at h
    · exact h
    · cases h

section ops
variable {ρ : Type} {P : Program} {w0 w : World} {S0 S : Nat → Prop} {B : Ctx} {β : Bet} {og : Nat → Option Nat} {st : St} {a : Act} {o : Oper} {site : Nat} {y : Eff → Option ρ} {r : ρ}
  {K : Act → World → Prop} {Q : Exit → Act → World → Prop} {Γ : Env} {rowsV : List (Nat × Row)}

theorem blt_false {m n : Nat} (h : Nat.blt m n = false) : n ≤ m := by
  rcases Nat.lt_or_ge m n with h' | h'
  · rw [← Nat.blt_eq] at h'
    rw [h] at h'
    cases h'
  · exact h'

theorem evBuiltin_sound (hR : Rel w S B β og st a) (hO : Out w0 S0 B w S) (hsub : ∀ id x, lookup rowsV id = some x → lookup st.rows id = some x) (hfr : ∀ e, y e = some r → freshB site e st.used = true) {b : Builtin} {args : Array Operand} {ts : Array TypeId}
    (ho : o.op = .call { callee := .builtin b, args := args, argTypes := ts }) (h : evBuiltin P site b ts.toList (valsT P st.tm ts.toList args.toList) rowsV y = some r) (hK : Good w0 S0 B site o st y r K) : o.wp P a w K Q := by
  rw [evBuiltin_eq] at h
  unfold evBuiltin0 at h
  split at h
  · rename_i t tr x hts hx
    exact op_len hR hO hsub ho hts hx h hK
  · rename_i k x rest hx
    split at h
    · rename_i n hn; exact op_min hR hO ho hx hn h hK
    · cases h
  · rename_i k x rest hx
    split at h
    · rename_i n hn; exact op_max hR hO ho hx hn h hK
    · cases h
  · rename_i t tr id hts hx
    split at h
    · rename_i e ht
      split at h
      · rename_i im s e' es sp hl; exact op_cap hR hO hsub ho hts hx ht hl h hK
      · cases h
    · cases h
  · rename_i t t' id lo len z hts hx
    split at h
    · cases h
    · rename_i htt
      have htt' : t' = t := by simpa using htt
      subst htt'
      split at h
      · rename_i e ht
        split at h
        · rename_i s e' es sp hl
          split at h
          · rename_i s2 es2 hz
            split at h
            · rename_i hc
              simp only [Bool.and_eq_true] at hc
              have e1 := Sh.beq_eq _ _ hc.1
              subst e1
              obtain ⟨hb, h⟩ := bif_some h
              exact op_copy hR hO hsub ho hts hx ht hl hz hc.2 (of_decide_eq_true hb) h hK
            · cases h
          · cases h
        · cases h
      · cases h
  · rename_i t id lo len hts hx
    split at h
    · rename_i e ht
      split at h
      · rename_i s e' es sp hl
        split at h
        · rename_i hc
          simp only [Bool.and_eq_true] at hc
          obtain ⟨hb, h⟩ := bif_some h
          exact op_clear hR hO hsub ho hts hx ht hl (Sh.beq_eq _ _ hc.1) hc.2 (of_decide_eq_true hb) h hK
        · cases h
      · cases h
    · cases h
  · rename_i t t' id lo i k n hts hx
    split at h
    · rename_i e k' ht ht'
      split at h
      · rename_i im s e' es sp hl
        split at h
        · rename_i hc
          simp only [Bool.and_eq_true, beq_iff_eq] at hc
          obtain ⟨c1, c2, c3, c4, c5⟩ := hc
          subst c1
          obtain ⟨hb, h⟩ := bif_some h
          simp only [Bool.and_eq_true, decide_eq_true_eq] at hb
          obtain ⟨b1, b2, b3, b4⟩ := hb
          exact op_append_zeros hR hO hsub (fresh_of rfl (hfr _ h)) ho hts hx ht ht' hl (Sh.beq_eq _ _ c4) c5 b1 b2 b3 b4 h hK
        · cases h
      · cases h
    · cases h
  · rename_i t t' x z hov hts hx
    split at h
    · cases h
    · rename_i htt
      have htt' : t' = t := by simpa using htt
      subst htt'
      split at h
      · rename_i e ht
        split at h
        · cases h
        · rename_i s2 es2 hz
          split at h
          · rename_i s
            split at h
            · rename_i hc
              simp only [Bool.and_eq_true] at hc
              obtain ⟨h1, h2, h3⟩ := hc
              have e1 := Sh.beq_eq _ _ h1
              have e2 := Sh.beq_eq _ _ h2
              subst e1
              obtain ⟨hb, h⟩ := bif_some h
              have hf := hfr _ h
              exact op_append_new hR hO hsub (fresh_of rfl hf) ho hts hx ht hz e2 h3 hb h hK
            · cases h
          · rename_i id
            split at h
            · rename_i s e' es hl
              split at h
              · rename_i hc
                simp only [Bool.and_eq_true, beq_iff_eq] at hc
                obtain ⟨h1, h2, h3, h4⟩ := hc
                have e1 := Sh.beq_eq _ _ h1
                have e2 := Sh.beq_eq _ _ h2
                subst e1
                subst h3
                obtain ⟨hb, h⟩ := bif_some h
                have hf := hfr _ h
                exact op_append_own hR hO hsub (fresh_of rfl hf) ho hts hx ht hz hl e2 h4 hb h hK
              · cases h
            · cases h
          · cases h
      · cases h
  · cases h

theorem subOf_spec {x : AV} {mx : Option Operand} {rows : List (Nat × Row)} {id : Nat} {r0 : Row} (h : subOf x mx rows = some (id, r0)) : mx = none ∧ x = .own id ∧ lookup rows id = some r0 := by
  unfold subOf at h
  split at h
  · rename_i i
    split at h
    · rename_i r hr; cases h; exact ⟨rfl, rfl, hr⟩
    · cases h
  · cases h

theorem evOp_sound (hΓ : GOK P Γ) (hR : Rel w S B β og st a) (hO : Out w0 S0 B w S) (hsub : ∀ id x, lookup rowsV id = some x → lookup st.rows id = some x) (hfr : ∀ e, y e = some r → freshB site e st.used = true)
    (h : evOp P Γ site o st.tm rowsV y = some r) (hK : Good w0 S0 B site o st y r K) : o.wp P a w K Q := by
  have h' := h
  unfold evOp at h
  split at h
  · rename_i x ho; exact op_move hR hO (.inl ho) h hK
  · rename_i x ho; exact op_move hR hO (.inr ho) h hK
  · rename_i c x z ho
    split at h
    · rename_i t hc
      refine op_pick hR hO ho hc (t := t) ?_ hK
      cases t <;> simpa using h
    · cases h
  · rename_i t ho
    split at h
    · rename_i cs hz; exact op_alloc hR hO (fresh_of rfl (hfr _ h)) ho hz h hK
    · cases h
  · rename_i t x ho
    split at h
    · rename_i hl; exact op_box hR hO (fresh_of rfl (hfr _ h)) ho hl h hK
    · cases h
  · rename_i t parts ho
    split at h
    · rename_i cs hz
      split at h
      · rename_i hk
        split at h
        · rename_i cs' hf; exact op_build hR hO ho hz hk hf h hK
        · cases h
      · cases h
    · cases h
  · rename_i t len parts ho
    split at h
    · rename_i e ht
      split at h
      · rename_i hl
        subst hl
        split at h
        · rename_i hc
          simp only [Bool.and_eq_true, beq_iff_eq] at hc
          exact op_buildSlice0 hR hO ho ht hc.1 hc.2 h hK
        · cases h
      · rename_i hl
        split at h
        · cases h
        · rename_i hc
          simp only [Bool.or_eq_true, Bool.not_eq_true', not_or, Bool.not_eq_false, Bool.not_eq_true] at hc
          obtain ⟨h1, h2, h3⟩ := hc
          have h2' : len ≤ 1000 := blt_false h2
          have h3' : P.cellsOf e ≤ 1000 := blt_false h3
          split at h
          · rename_i z hz
            split at h
            · rename_i q hq
              obtain ⟨qs, ids⟩ := q
              split at h
              · rename_i es hf
                split at h
                · rename_i hall; exact op_buildSlice hR hO hsub (fresh_of rfl (hfr _ h)) ho ht h1 h2' h3' hl hz hq hf hall h hK
                · cases h
              · cases h
            · cases h
          · cases h
    · cases h
  · rename_i t x ho; exact op_load hR hO hsub ho h' hK
  · rename_i t x z ho
    split at h
    · rename_i hc
      simp only [Bool.and_eq_true, beq_iff_eq, bne_iff_ne, ne_eq] at hc
      obtain ⟨h1, h2, h3⟩ := hc
      split at h
      · rename_i id off hx
        split at h
        · rename_i cs hl
          split at h
          · rename_i hle; exact op_store_ptr hR hO ho h1 h2 h3 hx (hsub _ _ hl) (Nat.le_of_ble_eq_true hle) h hK
          · cases h
        · cases h
      · rename_i id i off hx
        split at h
        · rename_i p hp
          obtain ⟨v', ids⟩ := p
          split at h
          · rename_i s e es hl
            split at h
            · rename_i hc2
              simp only [Bool.and_eq_true, Bool.not_eq_true', beq_iff_eq] at hc2
              obtain ⟨c1, c2, c3, c4, c5⟩ := hc2
              obtain ⟨hb, h⟩ := bif_some h
              exact op_store_elem hR hO hsub ho hx hp hl c1 c2 c3 h3 (Nat.le_of_ble_eq_true c4) c5 (of_decide_eq_true hb) h hK
            · cases h
          · cases h
        · cases h
      · cases h
    · cases h
  · rename_i x ho
    split at h
    · rename_i id off hx; exact op_nilCheck hR hO ho hx (.inl ⟨_, _, rfl⟩) h hK
    · rename_i id i off hx; exact op_nilCheck hR hO ho hx (.inr (.inl ⟨_, _, _, rfl⟩)) h hK
    · rename_i cs hx; exact op_nilCheck hR hO ho hx (.inr (.inr (.inl ⟨_, rfl⟩))) h hK
    · rename_i s es i off hx; exact op_nilCheck hR hO ho hx (.inr (.inr (.inr (.inl ⟨_, _, _, _, rfl⟩)))) h hK
    · rename_i f cs hx; exact op_nilCheck hR hO ho hx (.inr (.inr (.inr (.inr ⟨_, _, rfl⟩)))) h hK
    · cases h
  · rename_i op t x z t' ho
    split at h
    · rename_i hz; exact op_nil hR hO ho hz h hK
    · exact op_bin hR hO ho h hK
  · rename_i op t x ho
    split at h
    · rename_i k n hx; exact op_neg hR hO ho hx h hK
    · rename_i b hx; exact op_not hR hO ho hx h hK
    · cases h
  · rename_i src dst x ho
    split at h
    · rename_i k0 k k1 n hs hd hx; exact op_convert_int hR hO ho hs hd hx h hK
    · rename_i s hs hd hx; exact op_convert_str hR hO ho hs hd hx h hK
    · cases h
  · rename_i f first captured ho
    split at h
    · rename_i hf; exact op_makeFunc hR hO ho hf h hK
    · cases h
  · rename_i t x lo hi mx ho
    split at h
    · rename_i hc
      simp only [Bool.and_eq_true] at hc
      obtain ⟨hl, hh⟩ := hc
      split at h
      · rename_i s ht hx
        split at h
        · rename_i hm
          have hmx : mx = none := by simpa using hm
          subst hmx
          obtain ⟨hb, h⟩ := bif_some h
          exact op_slice_str hR hO ho ht hx hl hh hb h hK
        · cases h
      · rename_i e ht
        split at h
        · rename_i id im s e' es sp hso
          split at h
          · cases h
          · rename_i hs
            have hs' : sizeOK P e s = true := by simpa using hs
            obtain ⟨hmx, hx, hl0⟩ := subOf_spec hso
            subst hmx
            split at h
            · rename_i hx2
              have hlo : lo = none := by
                cases lo with
                | none => rfl
                | some _ => simp at hx2
              subst hlo
              split at h
              · rename_i l
                obtain ⟨hb2, h⟩ := bif_some h
                simp only [Bool.and_eq_true, decide_eq_true_eq] at hb2
                exact op_slice_ext hR hO (fresh_of rfl (hfr _ h)) ho ht hx (hsub _ _ hl0) hs' hh hb2.1 hb2.2 h hK
              · cases h
            · obtain ⟨hb, h⟩ := bif_some h
              exact op_slice_sub hR hO ho ht hx (hsub _ _ hl0) hs' hl hh hb h hK
        · cases h
        split at h
        · rename_i s es ids hp
          split at h
          · cases h
          · rename_i hs
            have hs' : sizeOK P e s = true := by simpa using hs
            split at h
            · obtain ⟨hb, h⟩ := bif_some h
              exact op_slice_slv hR hO hsub ho ht hp hs' hl hh hb h hK
            · rename_i m
              split at h
              · rename_i k mm hm
                split at h
                · rename_i hc2
                  simp only [Bool.and_eq_true, beq_iff_eq] at hc2
                  obtain ⟨c1, c2, c3⟩ := hc2
                  subst c1
                  exact op_slice_zero hR hO hsub ho ht hp hs' hm hl hh c2 c3 h hK
                · cases h
              · cases h
        · cases h
      · cases h
    · cases h
  · rename_i t x f ho
    split at h
    · rename_i fl hfl
      split at h
      · cases h
      · rename_i hz
        have hz' : P.cellsOf fl.type ≠ 0 := by simpa using hz
        split at h
        · rename_i id off hx; exact op_fieldAddr hR hO ho hfl hz' hx (.inl ⟨_, _, rfl, rfl⟩) h hK
        · rename_i id i off hx; exact op_fieldAddr hR hO ho hfl hz' hx (.inr (.inl ⟨_, _, _, rfl, rfl⟩)) h hK
        · rename_i s es i off hx; exact op_fieldAddr hR hO ho hfl hz' hx (.inr (.inr (.inr ⟨_, _, _, _, rfl, rfl⟩))) h hK
        · rename_i cs hx; exact op_fieldAddr hR hO ho hfl hz' hx (.inr (.inr (.inl ⟨_, rfl, rfl⟩))) h hK
        · cases h
    · cases h
  · rename_i t x f ho; exact op_field hR hO ho h' hK
  · rename_i t x i ho
    split at h
    · rename_i k n hi
      split at h
      · rename_i e s es ht hx
        split at h
        · rename_i hs
          obtain ⟨hb, h⟩ := bif_some h
          exact op_indexAddr_slv hR hO ho ht hx hi hs hb h hK
        · cases h
      · rename_i e id ht hx
        split at h
        · rename_i im s e' es hl
          split at h
          · rename_i hs
            obtain ⟨hb, h⟩ := bif_some h
            exact op_indexAddr_own hR hO ho ht hx (hsub _ _ hl) hi hs hb h hK
          · cases h
        · cases h
      · rename_i e id lo len ht hx
        split at h
        · rename_i im s e' es csp hl
          split at h
          · rename_i hs
            obtain ⟨hb, h⟩ := bif_some h
            simp only [Bool.and_eq_true, decide_eq_true_eq] at hb
            exact op_indexAddr_sub hR hO ho ht hx (hsub _ _ hl) hi hs hb.1 hb.2 h hK
          · cases h
        · cases h
      · cases h
    · cases h
  · rename_i t x i ho
    split at h
    · rename_i k n hi
      split at h
      · rename_i s ht hx
        obtain ⟨hb, h⟩ := bif_some h
        exact op_index_str hR hO ho ht hx hi hb h hK
      · rename_i len e cs ht hx
        split at h
        · cases h
        · rename_i hag
          split at h
          · rename_i hc
            simp only [Bool.and_eq_true, beq_iff_eq] at hc
            obtain ⟨c0, c1, c2, c3⟩ := hc
            obtain ⟨hb, h⟩ := bif_some h
            exact op_index_arr hR hO ho ht hx hi (by simpa using hag) c1 c0 c2 c3 hb h hK
          · cases h
      · cases h
    · cases h
  · rename_i x i ho
    split at h
    · rename_i vs hx
      split at h
      · rename_i v hv; exact op_extract hR hO ho hx hv h hK
      · cases h
    · cases h
  · rename_i t l c ho
    split at h
    · rename_i e k n k' m ht hl hc
      split at h
      · rename_i hel
        obtain ⟨hb, h2⟩ := bif_some h
        simp only [Bool.and_eq_true, beq_iff_eq, decide_eq_true_eq] at hb
        obtain ⟨rfl, b2, b3⟩ := hb
        exact op_makeSlice hR hO (fresh_of rfl (hfr _ h2)) ho ht hl hc hel b2 b3 h2 hK
      · cases h
    · cases h
  · rename_i b args ts ho; exact evBuiltin_sound hR hO hsub hfr ho h hK
  · rename_i f args ts ho
    split at h
    · rename_i g caps hf
      split at h
      · rename_i F hF
        split at h
        · rename_i hen
          exact op_callX hR hO hsub hfr ho hf (hΓ.opens g F (xOf_find hF)) hen h hK
        · cases h
      split at h
      · rename_i p hp
        obtain ⟨pargs, ids⟩ := p
        split at h
        · rename_i F hF
          split at h
          · rename_i hen
            exact op_call hR hO hsub ho hf hp (hΓ.pure g F hF) hen h hK
          · cases h
        · cases h
      · cases h
    · cases h
  · cases h

end ops
end Go.Ev
