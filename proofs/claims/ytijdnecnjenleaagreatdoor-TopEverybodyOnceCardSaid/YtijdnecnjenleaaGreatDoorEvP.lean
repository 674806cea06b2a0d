/-
 Code,calls: what the evaluator says of a function is so.
-/
import Derived.Test.YtijdnecnjenleaaGreatDoorEvMM
import Derived.LoopN
import Derived.RangeFuncRecord
import Derived.RangeFuncLeaves

namespace Go.Ev
open Go.RowKit
structure GOK (P : Program) (Γ : Env) : Prop where
 pure : ∀ g F,find Γ g = some F → SumOK P g F
 snat : ∀ g F,find Γ g = some F → SNat F
 opens : ∀ g F,findX Γ g = some F → XOK P g F
 nat : ∀ g F,findX Γ g = some F → XNat F
 yld : ∀ key np F,Γ.yld = some (key,np,F) → np = (loopCode key).1.size ∧ YOK P key F ∧ XNat F
theorem xOf_find {Γ : Env} {f : Operand} {g : Nat} {F : SummX} (h : xOf Γ f g = some F) : findX Γ g = some F:=by
 unfold xOf at h
 split at h
 ·exact h
 ·split at h
  ·exact h
  ·cases h
section ops
variable {R : Option Nat} {ρ : Type} {P : Program} {w0 w : World} {S0 S : Nat → Prop} {B : Ctx} {β : Bet} {og : Nat → Option Nat} {st : St} {a : Act} {o : Oper} {site : Nat} {y : Eff → Option ρ} {r : ρ}
 {K : Act → World → Prop} {Q : Exit → Act → World → Prop} {Γ : Env} {rowsV : List (Nat × Row)}
theorem blt_false {m n : Nat} (h : Nat.blt m n = false) : n ≤ m:=by
 rcases Nat.lt_or_ge m n with h' | h'
 ·rw [← Nat.blt_eq] at h'
  rw [h] at h'
  cases h'
 ·exact h'
theorem evBuiltin_sound (hR : Rel w S B β og st a) (hO : Out w0 S0 B w S) (hsub : ∀ id x,lookup rowsV id = some x → lookup st.rows id = some x) (hfr : ∀ e,y e = some r → freshB site e st.used = true) {b : Builtin} {args : Array Operand} {ts : Array TypeId}
  (ho : o.op = .call { callee:=.builtin b,args:=args,argTypes:=ts }) (h : evBuiltin P site b ts.toList (valsT P st.tm ts.toList args.toList) rowsV y = some r) (hK : Good w0 S0 B site o st y r K) : o.wpR R P a w K Q:=by
 rw [evBuiltin_eq] at h
 unfold evBuiltin0 at h
 split at h
 ·rename_i t tr x hts hx
  exact op_len hR hO hsub ho hts hx h hK
 ·rename_i k x rest hx
  split at h
  ·rename_i n hn;exact op_min hR hO ho hx hn h hK
  ·cases h
 ·rename_i k x rest hx
  split at h
  ·rename_i n hn;exact op_max hR hO ho hx hn h hK
  ·cases h
 ·rename_i t tr id hts hx
  split at h
  ·rename_i e ht
   split at h
   ·rename_i im s e' es sp hl;exact op_cap hR hO hsub ho hts hx ht hl h hK
   ·cases h
  ·cases h
 ·rename_i t t' id lo len z hts hx
  split at h
  ·cases h
  ·rename_i htt
   have htt' : t' = t:=by simpa using htt
   subst htt'
   split at h
   ·rename_i e ht
    split at h
    ·rename_i s e' es sp hl
     split at h
     ·rename_i s2 es2 hz
      split at h
      ·rename_i hc
       simp only [Bool.and_eq_true] at hc
       have e1:=Sh.beq_eq _ _ hc.1
       subst e1
       obtain ⟨hb,h⟩:=bif_some h
       exact op_copy hR hO hsub ho hts hx ht hl hz hc.2 (of_decide_eq_true hb) h hK
      ·cases h
     ·cases h
    ·cases h
   ·cases h
 ·rename_i t id lo len hts hx
  split at h
  ·rename_i e ht
   split at h
   ·rename_i s e' es sp hl
    split at h
    ·rename_i hc
     simp only [Bool.and_eq_true] at hc
     obtain ⟨hb,h⟩:=bif_some h
     exact op_clear hR hO hsub ho hts hx ht hl (Sh.beq_eq _ _ hc.1) hc.2 (of_decide_eq_true hb) h hK
    ·cases h
   ·cases h
  ·cases h
 ·rename_i t t' id lo i k n hts hx
  split at h
  ·rename_i e k' ht ht'
   split at h
   ·rename_i im s e' es sp hl
    split at h
    ·rename_i hc
     simp only [Bool.and_eq_true,beq_iff_eq] at hc
     obtain ⟨c1,c2,c3,c4,c5⟩:=hc
     subst c1
     obtain ⟨hb,h⟩:=bif_some h
     simp only [Bool.and_eq_true,decide_eq_true_eq] at hb
     obtain ⟨b1,b2,b3,b4⟩:=hb
     exact op_append_zeros hR hO hsub (fresh_of rfl (hfr _ h)) ho hts hx ht ht' hl (Sh.beq_eq _ _ c4) c5 b1 b2 b3 b4 h hK
    ·cases h
   ·cases h
  ·cases h
 ·rename_i t t' x z hov hts hx
  split at h
  ·rename_i e ht
   split at h
   ·cases h
   ·rename_i s2 es2 hz
    split at h
    ·rename_i s
     split at h
     ·rename_i hc
      simp only [Bool.and_eq_true] at hc
      obtain ⟨h1,h2,h3⟩:=hc
      have e1:=Sh.beq_eq _ _ h1
      have e2:=Sh.beq_eq _ _ h2
      subst e1
      obtain ⟨hb,h⟩:=bif_some h
      have hf:=hfr _ h
      exact op_append_new hR hO hsub (fresh_of rfl hf) ho hts hx ht hz e2 h3 hb h hK
     ·cases h
    ·rename_i id
     split at h
     ·rename_i s e' es hl
      split at h
      ·rename_i hc
       simp only [Bool.and_eq_true,beq_iff_eq] at hc
       obtain ⟨h1,h2,h3,h4⟩:=hc
       have e1:=Sh.beq_eq _ _ h1
       have e2:=Sh.beq_eq _ _ h2
       subst e1
       subst h3
       obtain ⟨hb,h⟩:=bif_some h
       have hf:=hfr _ h
       exact op_append_own hR hO hsub (fresh_of rfl hf) ho hts hx ht hz hl e2 h4 hb h hK
      ·cases h
     ·cases h
    ·cases h
  ·cases h
 ·cases h
theorem subOf_spec {x : AV} {mx : Option Operand} {rows : List (Nat × Row)} {id : Nat} {r0 : Row} (h : subOf x mx rows = some (id,r0)) : mx = none ∧ x = .own id ∧ lookup rows id = some r0:=by
 unfold subOf at h
 split at h
 ·rename_i i
  split at h
  ·rename_i r hr;cases h;exact ⟨rfl,rfl,hr⟩
  ·cases h
 ·cases h
theorem evOp_sound (hΓ : GOK P Γ) (hR : Rel w S B β og st a) (hO : Out w0 S0 B w S) (hsub : ∀ id x,lookup rowsV id = some x → lookup st.rows id = some x) (hfr : ∀ e,y e = some r → freshB site e st.used = true)
  (h : evOp P Γ site o st.tm rowsV y = some r) (hK : Good w0 S0 B site o st y r K) : o.wpR R P a w K Q:=by
 have h':=h
 unfold evOp at h
 split at h
 ·rename_i x ho;exact op_move hR hO (.inl ho) h hK
 ·rename_i x ho;exact op_move hR hO (.inr ho) h hK
 ·rename_i c x z ho
  split at h
  ·rename_i t hc
   refine op_pick hR hO ho hc (t:=t) ?_ hK
   cases t <;> simpa using h
  ·cases h
 ·rename_i t ho
  split at h
  ·rename_i cs hz;exact op_alloc hR hO (fresh_of rfl (hfr _ h)) ho hz h hK
  ·cases h
 ·rename_i t x ho
  split at h
  ·rename_i hl;exact op_box hR hO (fresh_of rfl (hfr _ h)) ho hl h hK
  ·cases h
 ·rename_i t parts ho
  split at h
  ·rename_i cs hz
   split at h
   ·rename_i hk
    split at h
    ·rename_i cs' hf;exact op_build hR hO ho hz hk hf h hK
    ·cases h
   ·cases h
  ·cases h
 ·rename_i t len parts ho
  split at h
  ·rename_i e ht
   split at h
   ·rename_i hl
    subst hl
    split at h
    ·rename_i hc
     simp only [Bool.and_eq_true,beq_iff_eq] at hc
     exact op_buildSlice0 hR hO ho ht hc.1 hc.2 h hK
    ·cases h
   ·rename_i hl
    split at h
    ·cases h
    ·rename_i hc
     simp only [Bool.or_eq_true,Bool.not_eq_true',not_or,Bool.not_eq_false,Bool.not_eq_true] at hc
     obtain ⟨h1,h2,h3⟩:=hc
     have h2' : len ≤ 1000:=blt_false h2
     have h3' : P.cellsOf e ≤ 1000:=blt_false h3
     split at h
     ·rename_i z hz
      split at h
      ·rename_i q hq
       obtain ⟨qs,ids⟩:=q
       split at h
       ·rename_i es hf
        split at h
        ·rename_i hall;exact op_buildSlice hR hO hsub (fresh_of rfl (hfr _ h)) ho ht h1 h2' h3' hl hz hq hf hall h hK
        ·cases h
       ·cases h
      ·cases h
     ·cases h
  ·cases h
 ·rename_i t x ho;exact op_load hR hO hsub ho h' hK
 ·rename_i t x z ho
  split at h
  ·rename_i hc
   simp only [Bool.and_eq_true,beq_iff_eq,bne_iff_ne,ne_eq] at hc
   obtain ⟨h1,h2,h3⟩:=hc
   split at h
   ·rename_i id off hx
    split at h
    ·rename_i cs hl
     split at h
     ·rename_i hle;exact op_store_ptr hR hO ho h1 h2 h3 hx (hsub _ _ hl) (Nat.le_of_ble_eq_true hle) h hK
     ·cases h
    ·cases h
   ·rename_i id i off hx
    split at h
    ·rename_i s e pre cs post hfo
     have hl:=focOf_spec hfo
     by_cases e1 : i = pre.length
     ·subst e1
      rw [decide_eq_true rfl,cond_true] at h
      split at h
      ·rename_i hle;exact op_store_hole hR hO ho hx (hsub _ _ hl) h1 h2 h3 (Nat.le_of_ble_eq_true hle) h hK
      ·cases h
     ·rw [decide_eq_false e1,cond_false] at h
      split at h
      ·cases h
      split at h
      ·rename_i p hp
       obtain ⟨v',ids⟩:=p
       split at h
       ·rename_i hc2
        simp only [Bool.and_eq_true,Bool.not_eq_true',beq_iff_eq] at hc2
        obtain ⟨c1,c2,c3,c4⟩:=hc2
        by_cases e2 : i < pre.length
        ·rw [decide_eq_true e2,cond_true] at h
         split at h
         ·rename_i c5;exact op_store_pre hR hO hsub ho hx hp hl c1 c2 c3 h3 (Nat.le_of_ble_eq_true c4) c5 e2 h hK
         ·cases h
        ·rw [decide_eq_false e2,cond_false] at h
         obtain ⟨hb,h⟩:=bif_some h
         split at h
         ·rename_i c5
          exact op_store_post hR hO hsub ho (hx.trans (by rw [show pre.length + 1 + (i - (pre.length + 1)) = i from by omega])) hp hl c1 c2 c3 h3 (Nat.le_of_ble_eq_true c4) c5 (of_decide_eq_true hb) h hK
         ·cases h
       ·cases h
      ·cases h
    split at h
    ·rename_i p hp
     obtain ⟨v',ids⟩:=p
     split at h
     ·rename_i s e es hl
      split at h
      ·rename_i hc2
       simp only [Bool.and_eq_true,Bool.not_eq_true',beq_iff_eq] at hc2
       obtain ⟨c1,c2,c3,c4,c5⟩:=hc2
       obtain ⟨hb,h⟩:=bif_some h
       exact op_store_elem hR hO hsub ho hx hp hl c1 c2 c3 h3 (Nat.le_of_ble_eq_true c4) c5 (of_decide_eq_true hb) h hK
      ·cases h
     ·cases h
    ·cases h
   ·cases h
  ·cases h
 ·rename_i x ho
  split at h
  ·rename_i id off hx;exact op_nilCheck hR hO ho hx (.inl ⟨_,_,rfl⟩) h hK
  ·rename_i id i off hx;exact op_nilCheck hR hO ho hx (.inr (.inl ⟨_,_,_,rfl⟩)) h hK
  ·rename_i cs hx;exact op_nilCheck hR hO ho hx (.inr (.inr (.inl ⟨_,rfl⟩))) h hK
  ·rename_i s es i off hx;exact op_nilCheck hR hO ho hx (.inr (.inr (.inr (.inl ⟨_,_,_,_,rfl⟩)))) h hK
  ·rename_i f cs hx;exact op_nilCheck hR hO ho hx (.inr (.inr (.inr (.inr ⟨_,_,rfl⟩)))) h hK
  ·cases h
 ·rename_i op t x z t' ho
  split at h
  ·rename_i hz;exact op_nil hR hO ho hz h hK
  ·exact op_bin hR hO ho h hK
 ·rename_i op t x ho
  split at h
  ·rename_i k n hx;exact op_neg hR hO ho hx h hK
  ·rename_i b hx;exact op_not hR hO ho hx h hK
  ·cases h
 ·rename_i src dst x ho
  split at h
  ·rename_i k0 k k1 n hs hd hx;exact op_convert_int hR hO ho hs hd hx h hK
  ·rename_i s hs hd hx;exact op_convert_str hR hO ho hs hd hx h hK
  ·rename_i k0 k1 n hs hd hx;exact op_convert_rune hR hO ho hs hd hx h hK
  ·rename_i e0 e id hs hd hx
   split at h
   ·rename_i hc
    simp only [Bool.and_eq_true] at hc
    split at h
    ·rename_i s e' x0 es sp hl
     split at h
     ·rename_i hsh;exact op_mark hR hO hsub ho hs hd hx hc.2.1 hc.2.2 hl hsh (by simp) h hK
     ·cases h
    ·cases h
   ·cases h
  ·rename_i e s hs hd hx
   split at h
   ·rename_i hc
    simp only [Bool.and_eq_true] at hc
    obtain ⟨hb,h2⟩:=bif_some h
    exact op_bytes hR hO (fresh_of rfl (hfr _ h2)) ho hs hd hx hc.2.1 hb h2 hK
   ·split at h
    ·rename_i hc
     simp only [Bool.and_eq_true] at hc
     obtain ⟨hb,h2⟩:=bif_some h
     exact op_runes hR hO (fresh_of rfl (hfr _ h2)) ho hs hd hx hc.2.1 (of_decide_eq_true hb) h2 hK
    ·cases h
  ·rename_i e hs hd
   split at h
   ·rename_i hc
    simp only [Bool.and_eq_true] at hc
    rw [elemsK_def] at h
    split at h
    ·cases h
    ·rename_i s es hx
     split at h
     ·rename_i hsh;exact op_string hR hO hsub ho hs hd hx hc.2 hsh h hK
     ·cases h
   ·split at h
    ·rename_i hc
     simp only [Bool.and_eq_true] at hc
     rw [elemsK_def] at h
     split at h
     ·cases h
     ·rename_i s es hx
      split at h
      ·rename_i hsh;exact op_runeStr hR hO hsub ho hs hd hx hc.2 hsh h hK
      ·cases h
    ·cases h
  ·cases h
 ·rename_i f first captured ho
  split at h
  ·rename_i hf;exact op_makeFunc hR hO ho hf h hK
  ·cases h
 ·rename_i t x lo hi mx ho
  split at h
  ·rename_i hc
   simp only [Bool.and_eq_true] at hc
   obtain ⟨hl,hh⟩:=hc
   split at h
   ·rename_i s ht hx
    split at h
    ·rename_i hm
     have hmx : mx = none:=by simpa using hm
     subst hmx
     obtain ⟨hb,h⟩:=bif_some h
     exact op_slice_str hR hO ho ht hx hl hh hb h hK
    ·cases h
   ·rename_i n e x' ht
    split at h
    ·rename_i hc
     simp only [Bool.and_eq_true,Option.isNone_iff_eq_none] at hc
     obtain ⟨rfl,rfl,rfl,hi,hn⟩:=hc
     split at h
     ·rename_i cs ids hx
      split at h
      ·rename_i hc
       simp only [Bool.and_eq_true] at hc
       exact op_slice_arr hR hO hsub ho ht hx hi (Nat.le_of_ble_eq_true hn) (Nat.le_of_ble_eq_true hc.1) (List.all_eq_true.1 hc.2) h hK
      ·cases h
     ·cases h
    ·cases h
   ·rename_i e ht
    split at h
    ·rename_i id im s e' es sp hso
     split at h
     ·cases h
     ·rename_i hs
      have hs' : sizeOK P e s = true:=by simpa using hs
      obtain ⟨hmx,hx,hl0⟩:=subOf_spec hso
      subst hmx
      split at h
      ·rename_i hx2
       have hlo : lo = none:=by
        cases lo with
        | none=>rfl
        | some _=>simp at hx2
       subst hlo
       split at h
       ·rename_i l
        obtain ⟨hb2,h⟩:=bif_some h
        simp only [Bool.and_eq_true,decide_eq_true_eq] at hb2
        exact op_slice_ext hR hO (fresh_of rfl (hfr _ h)) ho ht hx (hsub _ _ hl0) hs' hh hb2.1 hb2.2 h hK
       ·cases h
      ·split at h
       ·split at h
        ·split at h
         ·rename_i hhi
          have hhi' : hi = none:=by
           cases hi with
           | none=>rfl
           | some _=>simp at hhi
          subst hhi'
          obtain ⟨hb2,h⟩:=bif_some h
          simp only [Bool.and_eq_true,decide_eq_true_eq] at hb2
          exact op_slice_suf hR hO (fresh_of rfl (hfr _ h)) ho ht hx (hsub _ _ hl0) hs' hl hb2.1 hb2.2 h hK
         ·cases h
        ·cases h
       ·obtain ⟨hb,h⟩:=bif_some h
        exact op_slice_sub hR hO ho ht hx (hsub _ _ hl0) hs' hl hh hb h hK
    ·cases h
    split at h
    ·rename_i s es ids hp
     split at h
     ·cases h
     ·rename_i hs
      have hs' : sizeOK P e s = true:=by simpa using hs
      split at h
      ·obtain ⟨hb,h⟩:=bif_some h
       exact op_slice_slv hR hO hsub ho ht hp hs' hl hh hb h hK
      ·rename_i m
       split at h
       ·rename_i k n k' mm hhi hm
        obtain ⟨hb,h⟩:=bif_some h
        simp only [Bool.and_eq_true,beq_iff_eq,decide_eq_true_eq] at hb
        obtain ⟨rfl,b1,b2⟩:=hb
        cases hi with
        | none=>simp at hhi
        | some h' =>
         simp only [Option.map_some,Option.some.injEq] at hhi
         exact op_slice_cut hR hO hsub ho ht hp hs' hhi hm b1 b2 h hK
       ·cases h
      ·rename_i m _
       split at h
       ·rename_i k mm hm
        split at h
        ·rename_i hc2
         simp only [Bool.and_eq_true,beq_iff_eq] at hc2
         obtain ⟨c1,c2,c3⟩:=hc2
         subst c1
         exact op_slice_zero hR hO hsub ho ht hp hs' hm hl hh c2 c3 h hK
        ·cases h
       ·cases h
    ·cases h
   ·cases h
  ·cases h
 ·rename_i t x f ho
  split at h
  ·rename_i fl hfl
   split at h
   ·cases h
   ·rename_i hz
    have hz' : P.cellsOf fl.type ≠ 0:=by simpa using hz
    split at h
    ·rename_i id off hx;exact op_fieldAddr hR hO ho hfl hz' hx (.inl ⟨_,_,rfl,rfl⟩) h hK
    ·rename_i id i off hx;exact op_fieldAddr hR hO ho hfl hz' hx (.inr (.inl ⟨_,_,_,rfl,rfl⟩)) h hK
    ·rename_i s es i off hx;exact op_fieldAddr hR hO ho hfl hz' hx (.inr (.inr (.inr ⟨_,_,_,_,rfl,rfl⟩))) h hK
    ·rename_i cs hx;exact op_fieldAddr hR hO ho hfl hz' hx (.inr (.inr (.inl ⟨_,rfl,rfl⟩))) h hK
    ·cases h
  ·cases h
 ·rename_i t x f ho;exact op_field hR hO ho h' hK
 ·rename_i t x i ho
  split at h
  ·rename_i k n hi
   split at h
   ·rename_i e s es ht hx
    split at h
    ·rename_i hs
     obtain ⟨hb,h⟩:=bif_some h
     exact op_indexAddr_slv hR hO ho ht hx hi hs hb h hK
    ·cases h
   ·rename_i e id ht hx
    split at h
    ·rename_i im s e' es hl
     split at h
     ·rename_i hs
      obtain ⟨hb,h⟩:=bif_some h
      exact op_indexAddr_own hR hO ho ht hx (hsub _ _ hl) hi hs hb h hK
     ·cases h
    ·rename_i im s e' pre cs post hl
     split at h
     ·rename_i hs
      obtain ⟨hb,h⟩:=bif_some h
      exact op_indexAddr_foc hR hO ho ht hx (hsub _ _ hl) hi hs hb h hK
     ·cases h
    ·cases h
   ·rename_i e id lo len ht hx
    split at h
    ·rename_i im s e' es csp hl
     split at h
     ·rename_i hs
      obtain ⟨hb,h⟩:=bif_some h
      simp only [Bool.and_eq_true,decide_eq_true_eq] at hb
      exact op_indexAddr_sub hR hO ho ht hx (hsub _ _ hl) hi hs hb.1 hb.2 h hK
     ·cases h
    ·cases h
   ·rename_i len e id off ht hx
    split at h
    ·rename_i hs
     obtain ⟨hb,h⟩:=bif_some h
     exact op_indexAddr_ptr hR hO ho ht hx hi hs hb h hK
    ·cases h
   ·rename_i len e cs ht hx
    split at h
    ·rename_i hs
     obtain ⟨hb,h⟩:=bif_some h
     exact op_indexAddr_ref hR hO ho ht hx hi hs hb h hK
    ·cases h
   ·cases h
  ·cases h
 ·rename_i t x i ho
  split at h
  ·rename_i k n hi
   split at h
   ·rename_i s ht hx
    obtain ⟨hb,h⟩:=bif_some h
    exact op_index_str hR hO ho ht hx hi hb h hK
   ·rename_i len e cs ht hx
    split at h
    ·cases h
    ·rename_i hag
     split at h
     ·rename_i hc
      simp only [Bool.and_eq_true,beq_iff_eq] at hc
      obtain ⟨c0,c1,c2,c3⟩:=hc
      obtain ⟨hb,h⟩:=bif_some h
      exact op_index_arr hR hO ho ht hx hi (by simpa using hag) c1 c0 c2 c3 hb h hK
     ·cases h
   ·cases h
  ·cases h
 ·rename_i x i ho
  split at h
  ·rename_i vs hx
   split at h
   ·rename_i v hv;exact op_extract hR hO ho hx hv h hK
   ·cases h
  ·cases h
 ·rename_i t x ho
  split at h
  ·rename_i s ht hx;exact op_range hR hO (fresh_of rfl (hfr _ h)) ho ht hx h hK
  ·cases h
 ·rename_i x ho
  split at h
  ·rename_i id hx
   split at h
   ·rename_i s p hl;exact op_next hR hO ho hx (hsub _ _ hl) h hK
   ·cases h
  ·cases h
 ·rename_i t x ho
  split at h
  ·rename_i e ht
   split at h
   ·rename_i cs ids hx
    exact op_iface hR hO hsub ho ht hx h hK
   ·cases h
  ·cases h
 ·rename_i t l c ho
  split at h
  ·rename_i e k n k' m ht hl hc
   split at h
   ·rename_i hel
    obtain ⟨hb,h2⟩:=bif_some h
    simp only [Bool.and_eq_true,beq_iff_eq,decide_eq_true_eq] at hb
    obtain ⟨rfl,b2,b3⟩:=hb
    exact op_makeSlice hR hO (fresh_of rfl (hfr _ h2)) ho ht hl hc hel b2 b3 h2 hK
   ·cases h
  ·cases h
 ·rename_i t ho
  split at h
  ·exact op_makeMap hR hO (fresh_of rfl (hfr _ h)) ho h hK
  ·cases h
 ·rename_i t x k ok ho
  split at h
  ·rename_i kt et id im es hm
   split at h
   ·rename_i hk
    simp only [AV.force_eq] at h
    obtain ⟨hes,h⟩:=bif_some h
    cases hc : mpHas (valT P st.tm kt k) es with
    | true =>
     rw [hc,cond_true] at h
     refine op_lookup hR hO hsub ho hm hk hes (.inl ⟨hc,rfl⟩) ?_ hK
     rw [hc]
     cases ok <;> exact h
    | false =>
     rw [hc,cond_false] at h
     split at h
     ·rename_i z hz
      refine op_lookup hR hO hsub ho hm hk hes (.inr ⟨hc,_,hz⟩) ?_ hK
      rw [hc]
      cases ok <;> exact h
     ·cases h
   ·cases h
  ·cases h
 ·rename_i t m k x ho
  split at h
  ·rename_i kt et id es hm
   split at h
   ·rename_i hk
    split at h
    ·rename_i p hp
     split at h
     ·rename_i hc
      simp only [Bool.and_eq_true,Bool.not_eq_true'] at hc
      simp only [AV.force_eq] at h
      obtain ⟨hes,h⟩:=bif_some h
      exact op_mapUpdate hR hO hsub ho hm hk hp hc.1 hes h hK
     ·cases h
    ·cases h
   ·cases h
  ·cases h
 ·rename_i t m k ho
  split at h
  ·rename_i kt et id es hm
   split at h
   ·rename_i hk
    simp only [AV.force_eq] at h
    obtain ⟨hes,h⟩:=bif_some h
    cases hc : mpHas (valT P st.tm kt k) es with
    | true =>
     rw [hc,cond_true] at h
     exact op_mapEntry hR hO hsub ho hm hk hes (.inl ⟨hc,rfl,rfl,rfl⟩) h hK
    | false =>
     rw [hc,cond_false] at h
     split at h
     ·rename_i z hz
      split at h
      ·rename_i hzz
       simp only [Bool.and_eq_true] at hzz
       exact op_mapEntry hR hO hsub ho hm hk hes (.inr ⟨hc,hz,hzz.2,rfl,rfl⟩) h hK
      ·cases h
     ·cases h
   ·cases h
  ·cases h
 ·rename_i t m s x ho
  split at h
  ·rename_i kt et id es j n hm hs
   split at h
   ·rename_i p hp
    split at h
    ·rename_i hc
     simp only [Bool.and_eq_true,Bool.not_eq_true'] at hc
     simp only [AV.force_eq] at h
     obtain ⟨hes,h⟩:=bif_some h
     simp only [Bool.and_eq_true,decide_eq_true_eq] at hes
     exact op_entryStore hR hO hsub ho hm hs hp hc.1 hes.1 hes.2.1 hes.2.2 h hK
    ·cases h
   ·cases h
  ·cases h
 ·rename_i b args ts ho;exact evBuiltin_sound hR hO hsub hfr ho h hK
 ·rename_i f args ts ho
  split at h
  ·rename_i g caps hf
   split at h
   ·rename_i F hF
    split at h
    ·rename_i hen
     exact op_callX hR hO hsub hfr ho hf (hΓ.opens g F (xOf_find hF)) hen h hK
    ·cases h
   split at h
   ·rename_i p hp
    obtain ⟨pargs,ids⟩:=p
    split at h
    ·rename_i F hF
     split at h
     ·rename_i hen
      exact op_call hR hO hsub ho hf hp (hΓ.pure g F hF) hen h hK
     ·cases h
    ·cases h
   ·cases h
  ·rename_i id hf
   split at h
   ·rename_i key np F hF
    obtain ⟨hnp,hy,_⟩:=hΓ.yld key np F hF
    split at h
    ·rename_i key' tm' hl
     split at h
     ·rename_i hc
      simp only [Bool.and_eq_true,beq_iff_eq] at hc
      obtain ⟨rfl,hn⟩:=hc
      exact op_yield hR hO hsub hfr ho hf hl (hn.trans hnp) hy h hK
     ·cases h
    ·cases h
   ·cases h
  ·cases h
 ·cases h
end ops
end Go.Ev


namespace Go.Ev
open Go.RowKit
section regions
variable {R : Option Nat} {ρ : Type} {P : Program} {w0 : World} {S0 : Nat → Prop} {B : Ctx} {Γ : Env} {Q : Exit → Act → World → Prop}
theorem guard_at {w : World} {S : Nat → Prop} {β : Bet} {tm : List AV} {a : Act} (h : VRels w S β tm a.tmps.toList) (ops : Array Oper) (j : Nat) :
  (∀ b,guardAt ops.toList tm j = .bool b → yielded ops a.tmps j = some b) ∧ (guardAt ops.toList tm j = .undef → yielded ops a.tmps j = none):=by
 unfold guardAt yielded
 simp only [Array.getElem?_toList]
 cases ho : ops[j]? with
 | none=>simp
 | some o =>
  simp only [Option.bind_some]
  cases hd : o.dst with
  | none=>simp
  | some d =>
   simp only [Option.bind_some]
   have hat : ∀ c,tm.getD d .unk = c → c ≠ .unk → ∃ u,a.tmps[d]? = some u ∧ VRel w S β c u:=fun c hc hne=>by
    cases ht : tm[d]? with
    | none=>simp [List.getD,ht] at hc;exact absurd hc.symm hne
    | some c' =>
     simp [List.getD,ht] at hc
     subst hc
     obtain ⟨u,hu,hv⟩:=h.at_ ht
     exact ⟨u,by simpa using hu,hv⟩
   constructor
   ·intro b hb
    obtain ⟨u,hu,hv⟩:=hat _ hb (by simp)
    rw [hu,hv.bool_inv]
   ·intro hb
    obtain ⟨u,hu,hv⟩:=hat _ hb (by simp)
    rw [hu]
    cases hv
    rfl
theorem set_same {tm : List AV} {d : Nat} {c : AV} (h : tm.getD d .unk = c) (hne : c ≠ .unk) : tm.set d c = tm:=by
 cases ht : tm[d]? with
 | none=>simp [List.getD,ht] at h;exact absurd h.symm hne
 | some c' =>
  simp [List.getD,ht] at h
  subst h
  obtain ⟨hd,he⟩:=List.getElem?_eq_some_iff.1 ht
  rw [← he]
  exact List.set_getElem_self hd
theorem decideAt_eq {ops : List Oper} {i : Nat} {dst : Option Tmp} {st : St} {k : St → Option ρ} {r : ρ} (h : decideAt ops i dst st k = some r) : k st = some r:=by
 unfold decideAt at h
 split at h
 ·split at h
  ·rename_i d
   split at h
   ·rename_i b hb
    have hs:=set_same hb (by simp)
    cases b with
    | true=>simp only [cond_true,hs] at h;exact h
    | false=>simp only [cond_false,hs] at h;exact h
   ·cases h
  ·cases h
 ·exact h
theorem evOps_sound (hΓ : GOK P Γ) {ops : Array Oper} {rid : Nat} {k : St → Option ρ} {r : ρ} (hk : ∀ st a w,k st = some r → RelX w0 S0 B st a w → Q .normal a w) :
  ∀ (l : List Oper) (i : Nat) (st : St) (a : Act) (w : World),evOps P Γ rid ops.toList none k i l st = some r → RelX w0 S0 B st a w → wpListIn (fen R) 0 P ops Q l a w
 | [],i,st,a,w,h,hR=>hk st a w h hR
 | o :: rest,i,st,a,w,h,⟨S,β,og,hR,hO⟩=>by
  have ih:=evOps_sound hΓ (ops:=ops) (rid:=rid) hk rest (i + 1)
  have run : evOp P Γ (rid * 64 + i) o st.tm st.rows (fun e=>if freshB (rid * 64 + i) e st.used then (apply (rid * 64 + i) o.dst e st).force fun st1=>decideAt ops.toList i o.dst st1 (evOps P Γ rid ops.toList none k (i + 1) rest) else none) = some r →
    ∀ K : Act → World → Prop,(∀ a w,wpListIn (fen R) 0 P ops Q rest a w → K a w) → o.wpR R P a w K Q:=fun hrun K hK=>by
   refine evOp_sound hΓ hR hO (fun _ _ h=>h) (fun e he=>?_) hrun (fun e a' w' he hx=>hK _ _ ?_)
   ·by_cases hf : freshB (rid * 64 + i) e st.used = true
    ·exact hf
    ·simp [hf] at he
   ·by_cases hf : freshB (rid * 64 + i) e st.used = true
    ·simp only [hf,if_true,St.force_eq] at he
     exact ih _ _ _ (decideAt_eq he) hx
    ·simp [hf] at he
  have skip : evOps P Γ rid ops.toList none k (i + 1) rest ⟨putTm st.tm o.dst .undef,st.rows,st.used⟩ = some r → wpListIn (fen R) 0 P ops Q rest (a.put o.dst undef) w:=fun hs =>
   ih _ _ _ hs ⟨S,β,og,hR.put o.dst (.undef _),hO⟩
  refine wpListIn_step fun K hK=>?_
  simp only [evOps] at h
  split at h
  ·rename_i hg
   simp only [Region.wanted,hg,if_true]
   exact run h K hK
  ·rename_i j want hg
   obtain ⟨hgb,hgu⟩:=guard_at hR.tm ops j
   simp only [Region.wanted,hg]
   split at h
   ·rename_i b hb
    rw [hgb b hb]
    cases hbw : (b == want) with
    | true =>
     simp only [hbw,cond_true] at h
     have hbe : b = want:=by simpa using hbw
     simp only [hbe,beq_self_eq_true,if_true]
     exact run h K hK
    | false =>
     simp only [hbw,cond_false] at h
     have hbe : ¬ (some b == some want) = true:=by simpa using hbw
     rw [if_neg hbe]
     exact ⟨fun _ _=>trivial,hK _ _ (skip h)⟩
   ·rename_i hb
    rw [hgu hb]
    have : ¬ ((none : Option Bool) == some want) = true:=by simp
    rw [if_neg this]
    exact ⟨fun _ _=>trivial,hK _ _ (skip h)⟩
   ·cases h
end regions
def restr (β : Bet) (ids : List Nat) : Bet:=fun i=>if ids.contains i then β i else none
theorem only_rel {w : World} {S : Nat → Prop} {β : Bet} {v : AV} {u : Value} (ids : List Nat) (h : VRel w S β v u) : VRel w S (restr β ids) (v.only ids) u:=by
 have hL : ∀ (cs : List AV) (j : Nat) (c : AV),(AV.onlys ids cs)[j]? = some c → ∃ c',cs[j]? = some c' ∧ c = c'.only ids:=by
  intro cs
  induction cs with
  | nil=>intro j c hc;simp [AV.onlys] at hc
  | cons x cs ih =>
   intro j c hc
   cases j with
   | zero=>simp [AV.onlys] at hc;exact ⟨x,rfl,hc.symm⟩
   | succ j=>simp only [AV.onlys,List.getElem?_cons_succ] at hc;obtain ⟨c',h1,h2⟩:=ih j c hc;exact ⟨c',by simpa using h1,h2⟩
 have hlen : ∀ cs : List AV,(AV.onlys ids cs).length = cs.length:=by
  intro cs
  induction cs with
  | nil=>rfl
  | cons x cs ih=>simp [AV.onlys,ih]
 induction h with
 | unk β v=>exact .unk _ v
 | undef=>exact .undef _
 | int β k n=>exact .int _ k n
 | bool β b=>exact .bool _ b
 | ubool β b=>exact .ubool _ b
 | nl β v h=>exact .nl _ v h
 | str β s=>exact .str _ s
 | agg β cs vs hl h1 _ ih =>
  refine .agg _ _ vs (by rw [hlen];exact hl) h1 fun j c u hc hu=>?_
  obtain ⟨c',hc',rfl⟩:=hL cs j c hc
  exact ih j c' u hc' hu
 | tup β cs vs hl _ ih =>
  refine .tup _ _ vs (by rw [hlen];exact hl) fun j c u hc hu=>?_
  obtain ⟨c',hc',rfl⟩:=hL cs j c hc
  exact ih j c' u hc' hu
 | slv β s es A c a xs hs hc hm hA hl h1 hx hh _=>exact .slv _ s es A c a xs hs hc hm hA hl h1 hx hh
 | slz β s A=>exact .slz _ s A
 | eref β s es i off a xs hi hs hSa hl h1 hx hh _=>exact .eref _ s es i off a xs hi hs hSa hl h1 hx hh
 | ref β cs a xs hSa hl h1 hx hh _=>exact .ref _ cs a xs hSa hl h1 hx hh
 | ifr β t cs v hh _=>exact .ifr _ t cs v hh
 | nsl=>exact .nsl _
 | mpv β es vs hl hh _=>exact .mpv _ es vs hl hh
 | ptr β id off g wd hbt =>
  simp only [AV.only]
  split
  ·rename_i hc;exact .ptr _ id off g wd (by simp only [restr,hc,if_true];exact hbt)
  ·exact .unk _ _
 | eptr β id i off g n c wd o hbt =>
  simp only [AV.only]
  split
  ·rename_i hc;exact .eptr _ id i off g n c wd o (by simp only [restr,hc,if_true];exact hbt)
  ·exact .unk _ _
 | own β id v wd hbt =>
  simp only [AV.only]
  split
  ·rename_i hc;exact .own _ id v wd (by simp only [restr,hc,if_true];exact hbt)
  ·exact .unk _ _
 | sub β id lo len A n c wd hbt =>
  simp only [AV.only]
  split
  ·rename_i hc;exact .sub _ id lo len A n c wd (by simp only [restr,hc,if_true];exact hbt)
  ·exact .unk _ _
 | fn β f cs vs hl _ ih =>
  refine .fn _ f _ vs (by rw [hlen];exact hl) fun j c u hc hu=>?_
  obtain ⟨c',hc',rfl⟩:=hL cs j c hc
  exact ih j c' u hc' hu
theorem onlys_rel {w : World} {S : Nat → Prop} {β : Bet} (ids : List Nat) : ∀ (cs : List AV) (us : List Value),VRels w S β cs us → VRels w S (restr β ids) (AV.onlys ids cs) us
 | [],us,h=>by rw [h.inv_nil];exact VRels.nil
 | c :: cs,us,h=>by
  obtain ⟨u,us',rfl,hu,hs⟩:=h.inv
  exact VRels.cons (only_rel ids hu) (onlys_rel ids cs us' hs)
theorem mask_rel {w : World} {S : Nat → Prop} {β : Bet} (slots ids : List Nat) : ∀ (cs : List AV) (us : List Value) (i : Nat),VRels w S β cs us → VRels w S (restr β ids) (maskFrom slots ids i cs) us
 | [],us,i,h=>by rw [h.inv_nil];exact VRels.nil
 | c :: cs,us,i,h=>by
  obtain ⟨u,us',rfl,hu,hs⟩:=h.inv
  refine VRels.cons ?_ (mask_rel slots ids cs us' (i + 1) hs)
  split
  ·exact only_rel ids hu
  ·exact .unk _ _
theorem lookup_keepRows (rows : List (Nat × Row)) (ids : List Nat) : ∀ (l : List Nat) (i : Nat) (r : Row),lookup (keepRows rows ids l) i = some r → i ∈ l ∧ ∃ r',lookup rows i = some r' ∧ r = r'.only ids
 | [],i,r,h=>by simp [keepRows,lookup] at h
 | x :: l,i,r,h=>by
  simp only [keepRows] at h
  cases hx : lookup rows x with
  | none =>
   simp only [hx] at h
   obtain ⟨h1,h2⟩:=lookup_keepRows rows ids l i r h
   exact ⟨List.mem_cons_of_mem _ h1,h2⟩
  | some r' =>
   simp only [hx,lookup] at h
   split at h
   ·rename_i e
    cases h
    subst e
    exact ⟨by simp,r',hx,rfl⟩
   ·obtain ⟨h1,h2⟩:=lookup_keepRows rows ids l i r h
    exact ⟨List.mem_cons_of_mem _ h1,h2⟩
theorem restr_some {β : Bet} {ids : List Nat} {i : Nat} {x : Value × Nat} (h : restr β ids i = some x) : i ∈ ids ∧ β i = some x:=by
 simp only [restr] at h
 split at h
 ·rename_i hc;exact ⟨by simpa using hc,h⟩
 ·cases h
theorem Rel.mask {w : World} {S : Nat → Prop} {B : Ctx} {β : Bet} {og : Nat → Option Nat} {st : St} {a : Act} (h : Rel w S B β og st a) (slots ids : List Nat) : Rel w S B (restr β ids) og (mask slots ids st) a:=by
 refine ⟨mask_rel slots ids _ _ 0 h.tm,h.df,fun i r hr=>?_,h.inj,h.lt,fun i x hx=>(restr_some hx).1,fun i x hx=>h.one i x (restr_some hx).2,h.Slt,h.Ble,fun i x hp hx=>h.pid i x hp (restr_some hx).2⟩
 obtain ⟨hi,r',hl,rfl⟩:=lookup_keepRows st.rows ids ids i r hr
 have hc : ids.contains i = true:=by simpa using hi
 have h0:=h.row i r' hl
 cases r' with
 | box imm cs =>
  obtain ⟨g,vs,t,ho,hb,hh,hv,r1,r2,r3⟩:=h0
  exact ⟨g,vs,t,ho,by simp only [restr,hc,if_true];exact hb,hh,onlys_rel ids cs vs hv,r1,r2,r3⟩
 | arr imm s e es csp =>
  obtain ⟨hp,v,sp,xs,hsh,hcs,hb,rest⟩:=h0
  exact ⟨hp,v,sp,xs,hsh,hcs,by simp only [restr,hc,if_true];exact hb,rest⟩
 | foc imm s e pre cs post =>
  obtain ⟨hp,hcl,g,ps,sp,xs,us,ys,h1,h2,ho,hb,h3,vx,vu,vy,rest⟩:=h0
  have ve:=onlys_rel ids cs us vu
  exact ⟨hp,ve.1.symm.trans (vu.1.trans hcl),g,ps,sp,xs,us,ys,h1,h2,ho,by simp only [restr,hc,if_true];exact hb,h3,vx,ve,vy,rest⟩
theorem Rel.rename {w : World} {S : Nat → Prop} {B : Ctx} {β : Bet} {og : Nat → Option Nat} {st : St} {a : Act} (h : Rel w S B β og st a) {id n : Nat} {r : Row} (hl : lookup st.rows id = some r) (hf : Fresh n st.used) :
  Rel w S B (upd β n (β id)) (upd (upd og id none) n (og id)) ⟨st.tm,setRow (delRow st.rows id) n r,n :: st.used⟩ a ∧ ∀ v,VRel w S β (.own id) v → VRel w S (upd β n (β id)) (.own n) v:=by
 have hβ : ∀ i y,β i = some y → upd β n (β id) i = some y:=fun i y hy=>by
  have hne : i ≠ n:=fun e=>hf.1 (by rw [← e];exact h.used i y hy)
  rw [upd_other _ _ _ _ hne];exact hy
 refine ⟨⟨h.tm.mono (fun _ h=>h) (fun _ _=>rfl) hβ,h.df,fun i y hy=>?_,fun i i' g hgi hgi'=>?_,fun i g hgi=>?_,fun i y hy=>?_,fun i y hy=>?_,h.Slt,h.Ble,pid_upd h.pid hf.2⟩,fun v hv=>?_⟩
 ·rw [lookup_setRow] at hy
  by_cases e : i = n
  ·subst e
   simp only [if_pos] at hy
   cases hy
   rw [upd_same]
   have h0:=h.row id r hl
   cases r with
   | box imm cs =>
    obtain ⟨g,vs,t,ho,hb,hh,hv,r1,r2,r3⟩:=h0
    exact ⟨g,vs,t,ho,by rw [upd_same];exact hb,hh,hv.mono (fun _ h=>h) (fun _ _=>rfl) hβ,r1,r2,r3⟩
   | arr imm s e es csp =>
    obtain ⟨hp,v,sp,xs,hsh,hcs,hb,rest⟩:=h0
    exact ⟨hp,v,sp,xs,hsh,hcs,by rw [upd_same];exact hb,rest⟩
   | foc imm s e pre cs post =>
    obtain ⟨hp,hcl,g,ps,sp,xs,us,ys,h1,h2,ho,hb,h3,vx,vu,vy,rest⟩:=h0
    exact ⟨hp,hcl,g,ps,sp,xs,us,ys,h1,h2,ho,by rw [upd_same];exact hb,h3,vx,vu.mono (fun _ h=>h) (fun _ _=>rfl) hβ,vy,rest⟩
  ·rw [if_neg e,lookup_delRow] at hy
   by_cases e' : i = id
   ·rw [if_pos e'] at hy;cases hy
   ·rw [if_neg e'] at hy
    rw [upd_other _ _ _ _ e,upd_other _ _ _ _ e']
    exact (h.row i y hy).keep hβ (fun _ h=>h) (fun _ _ h=>h) (fun _ _=>rfl) (fun _ _=>rfl)
 ·have aux : ∀ i,i ≠ n → upd (upd og id none) n (og id) i = some g → og i = some g ∧ i ≠ id:=fun i hi hgi=>by
   rw [upd_other _ _ _ _ hi] at hgi
   by_cases e' : i = id
   ·rw [e',upd_same] at hgi;cases hgi
   ·rw [upd_other _ _ _ _ e'] at hgi;exact ⟨hgi,e'⟩
  by_cases e : i = n <;> by_cases e' : i' = n
  ·rw [e,e']
  ·subst e;rw [upd_same] at hgi
   obtain ⟨h1,h2⟩:=aux i' e' hgi'
   exact absurd (h.inj i' id g h1 hgi) h2
  ·subst e';rw [upd_same] at hgi'
   obtain ⟨h1,h2⟩:=aux i e hgi
   exact absurd (h.inj i id g h1 hgi') h2
  ·exact h.inj i i' g (aux i e hgi).1 (aux i' e' hgi').1
 ·by_cases e : i = n
  ·subst e;rw [upd_same] at hgi;exact h.lt id g hgi
  ·rw [upd_other _ _ _ _ e] at hgi
   by_cases e' : i = id
   ·rw [e',upd_same] at hgi;cases hgi
   ·rw [upd_other _ _ _ _ e'] at hgi;exact h.lt i g hgi
 ·by_cases e : i = n
  ·subst e;simp
  ·rw [upd_other _ _ _ _ e] at hy;exact List.mem_cons_of_mem _ (h.used i y hy)
 ·by_cases e : i = n
  ·subst e;rw [upd_same] at hy;exact h.one id y hy
  ·rw [upd_other _ _ _ _ e] at hy;exact h.one i y hy
 ·cases hv with
  | own _ _ _ wd hb=>exact .own _ n v wd (by rw [upd_same];exact hb)
theorem Rel.promote {w : World} {S : Nat → Prop} {B : Ctx} {β : Bet} {og : Nat → Option Nat} {st : St} {a : Act} (h : Rel w S B β og st a) {n : Nat} {s : Sh} (e : TypeId) (A : Option Addr) (hf : Fresh n st.used) (hs : 0 < s.width) :
  Rel w S B (upd β n (some (.slice A 0 0,s.width))) (upd og n none) ⟨st.tm,setRow st.rows n (.arr false s e [] none),n :: st.used⟩ a ∧ VRel w S (upd β n (some (.slice A 0 0,s.width))) (.own n) (.slice A 0 0):=by
 have hN:=h.new n hf none (Below.refl _ _) (S':=S) (fun _ h=>h) (fun _ _ h=>h) h.Slt (r:=.arr false s e [] none) (v:=.unk) (u:=undef) (x:=.slice A 0 0) (wd:=s.width) (o:=none) rfl (fun g hg=>by cases hg)
  ⟨hs,.slice A 0 0,[],[],by simp,(fun c h=>by cases h),upd_same _ _ _,by simp,VRels.nil,.inl ⟨rfl,rfl,rfl,A,rfl⟩⟩ (.unk _ _)
 exact ⟨hN,.own _ n _ _ (upd_same _ _ _)⟩
end Go.Ev

namespace Go.Ev
open Go.RowKit
section norm
variable {w0 w : World} {S0 : Nat → Prop} {B : Ctx} {st : St} {a : Act}
theorem RelX.mask (h : RelX w0 S0 B st a w) (slots ids : List Nat) : RelX w0 S0 B (mask slots ids st) a w:=by
 obtain ⟨S,β,og,hR,hO⟩:=h
 exact ⟨S,_,og,hR.mask slots ids,hO⟩
theorem getD_some {tm : List AV} {t : Nat} {v : AV} (h : tm.getD t .unk = v) (hne : v ≠ .unk) : tm[t]? = some v:=by
 cases ht : tm[t]? with
 | none=>simp [List.getD,ht] at h;exact absurd h.symm hne
 | some c=>simp [List.getD,ht] at h;rw [h]
theorem arr_set_self {tmps : Array Value} {i : Nat} (h : i < tmps.size) : tmps.setIfInBounds i tmps[i] = tmps:=by
 apply Array.ext'
 rw [Array.toList_setIfInBounds]
 have : tmps.toList.set i (tmps.toList[i]'(by simpa using h)) = tmps.toList:=List.set_getElem_self (by simpa using h)
 simpa using this
theorem RelX.home1 (h : RelX w0 S0 B st a w) (x : Nat × Nat × TypeId) : RelX w0 S0 B (home1 st x) a w:=by
 obtain ⟨S,β,og,hR,hO⟩:=h
 unfold Go.Ev.home1
 split
 ·exact RelX.mask ⟨S,β,og,hR,hO⟩ _ _
 split
 ·exact ⟨S,β,og,hR,hO⟩
 ·rename_i hc
  have hf : Fresh x.2.1 st.used:=by
   simp only [Bool.or_eq_true,not_or,Bool.not_eq_true] at hc
   exact ⟨by simpa using hc.1,Nat.lt_of_not_le fun h=>by rw [Nat.ble_eq_true_of_le h] at hc;simp at hc⟩
  split
  ·rename_i id hid
   split
   ·rename_i r hl
    obtain ⟨h1,h2⟩:=hR.rename hl hf
    have ht:=getD_some hid (by simp)
    obtain ⟨u,hu,hv⟩:=hR.tm.at_ ht
    have:=h1.put (some x.1) (v:=.own x.2.1) (u:=u) (h2 u hv)
    have hput : (a.put (some x.1) u) = a:=by
     obtain ⟨hlt,he⟩:=List.getElem?_eq_some_iff.1 hu
     have hlt' : x.1 < a.tmps.size:=by simpa using hlt
     have he' : a.tmps[x.1] = u:=by simpa using he
     simp only [Act.put]
     congr 1
     rw [← he']
     exact arr_set_self hlt'
    rw [hput] at this
    exact ⟨S,_,_,this,hO⟩
   ·exact ⟨S,β,og,hR,hO⟩
  ·rename_i s hs
   split
   ·rename_i hw
    have ht:=getD_some hs (by simp)
    obtain ⟨u,hu,hv⟩:=hR.tm.at_ ht
    cases hv with
    | slz _ _ A =>
     obtain ⟨h1,h2⟩:=hR.promote x.2.2 A hf (by rw [Nat.blt_eq] at hw;exact hw)
     have:=h1.put (some x.1) (v:=.own x.2.1) (u:=.slice A 0 0) h2
     have hput : (a.put (some x.1) (.slice A 0 0)) = a:=by
      obtain ⟨hlt,he⟩:=List.getElem?_eq_some_iff.1 hu
      have hlt' : x.1 < a.tmps.size:=by simpa using hlt
      have he' : a.tmps[x.1] = .slice A 0 0:=by simpa using he
      simp only [Act.put]
      congr 1
      rw [← he']
      exact arr_set_self hlt'
     rw [hput] at this
     exact ⟨S,_,_,this,hO⟩
   ·exact ⟨S,β,og,hR,hO⟩
  ·rename_i id n hs
   split
   ·rename_i s e es csp hl
    split
    ·rename_i hle
     have hle' : n ≤ es.length:=Nat.le_of_ble_eq_true hle
     have ht:=getD_some hs (by simp)
     obtain ⟨u,hu,hv⟩:=hR.tm.at_ ht
     have hrow:=hR.row id _ hl
     obtain ⟨A,c,hbt,hc,hcl,hA⟩:=arr_val hrow
     have huv:=sub_val hbt hv
     have hu1 : u = .slice A n c:=by
      rw [huv]
      rcases Nat.eq_zero_or_pos c with h0 | h0
      ·rw [if_pos h0];rfl
      ·obtain ⟨g,bo,rfl,_⟩:=hA h0
       rw [if_neg (by omega)]
       simp [Addr.add]
     have hfree:=hrow.free rfl
     have hN:=hR.moved (site:=x.2.1) (id:=id) hf none (World.grownBy.refl w _) hfree (x:=u) (wd:=s.width) (o':=og id) (v:=.unk) (u:=undef) (r1:=.arr false s e (es.take n) none) (by rw [hu1];rfl) (fun g hg=>⟨.inl hg,hR.lt id g hg⟩) ?_ (.unk _ _)
     ·have:=hN.put (some x.1) (v:=.own x.2.1) (u:=u) (.own _ _ _ _ (upd_same _ _ _))
      have hput : ((a.put none undef).put (some x.1) u) = a:=by
       obtain ⟨hlt,he⟩:=List.getElem?_eq_some_iff.1 hu
       have hlt' : x.1 < a.tmps.size:=by simpa using hlt
       have he' : a.tmps[x.1] = u:=by simpa using he
       simp only [Act.put]
       congr 1
       rw [← he']
       exact arr_set_self hlt'
      rw [hput] at this
      exact ⟨S,_,_,this,hO⟩
     ·obtain ⟨hp,v,sp,xs,hshS,hcs,hbt',h1,hvs,hor⟩:=hrow
      rw [hbt] at hbt'
      simp only [Option.some.injEq,Prod.mk.injEq,and_true] at hbt'
      subst hbt'
      have hsplit : es.take n ++ (es.drop n ++ sp) = es ++ sp:=by rw [← List.append_assoc,List.take_append_drop]
      have hlt : (es.take n).length = n:=by rw [List.length_take];omega
      have hld : (es.drop n ++ sp).length = es.length - n + sp.length:=by simp
      refine ⟨hp,u,es.drop n ++ sp,xs,by rw [hsplit];exact hshS,(fun c h=>by cases h),upd_same _ _ _,h1,by rw [hsplit];exact hvs,?_⟩
      rcases hor with ⟨rfl,rfl,ho,A',hA'⟩ | ⟨g,ps,ho,hvv,hBg,hh,hmx,hi1,_⟩
      ·cases hA'
       refine .inl ⟨by simp,by simp,ho,A,?_⟩
       rw [hu1]
       simp at hle'
       rw [hle']
      ·cases hvv
       refine .inr ⟨g,ps,ho,?_,hBg,hh,?_,hi1,(fun h=>by cases h)⟩
       ·rw [hu1,hlt,hld];congr 1;omega
       ·rw [hlt,hld];omega
    ·exact ⟨S,β,og,hR,hO⟩
   ·exact ⟨S,β,og,hR,hO⟩
  ·exact ⟨S,β,og,hR,hO⟩
theorem Rel.setBox {S : Nat → Prop} {β : Bet} {og : Nat → Option Nat} (h : Rel w S B β og st a) {b c : Nat} {im : Bool} {cs : List AV} {v v' : AV} (hl : lookup st.rows b = some (.box im cs)) (hv : cs[c]? = some v) (hvv : ∀ u,VRel w S β v u → VRel w S β v' u) :
  Rel w S B β og ⟨st.tm,setRow st.rows b (.box im (cs.set c v')),st.used⟩ a:=by
 refine ⟨h.tm,h.df,fun i y hy=>?_,h.inj,h.lt,h.used,h.one,h.Slt,h.Ble,h.pid⟩
 rw [lookup_setRow] at hy
 by_cases e : i = b
 ·subst e
  simp only [if_pos] at hy
  cases hy
  obtain ⟨g,vs,t,ho,hb,hh,hvs,rest⟩:=h.row i _ hl
  refine ⟨g,vs,t,ho,hb,hh,?_,rest⟩
  obtain ⟨u,hu,hr⟩:=hvs.at_ hv
  have:=hvs.set c (hvv u hr)
  obtain ⟨hlt,he⟩:=List.getElem?_eq_some_iff.1 hu
  rwa [← he,List.set_getElem_self hlt] at this
 ·rw [if_neg e] at hy
  exact h.row i y hy
theorem Rel.setFoc {S : Nat → Prop} {β : Bet} {og : Nat → Option Nat} (h : Rel w S B β og st a) {b c : Nat} {im : Bool} {s : Sh} {e : TypeId} {pre cs post : List AV} {v v' : AV} (hl : lookup st.rows b = some (.foc im s e pre cs post)) (hv : cs[c]? = some v) (hvv : ∀ u,VRel w S β v u → VRel w S β v' u) :
  Rel w S B β og ⟨st.tm,setRow st.rows b (.foc im s e pre (cs.set c v') post),st.used⟩ a:=by
 refine ⟨h.tm,h.df,fun i y hy=>?_,h.inj,h.lt,h.used,h.one,h.Slt,h.Ble,h.pid⟩
 rw [lookup_setRow] at hy
 by_cases e' : i = b
 ·subst e'
  simp only [if_pos] at hy
  cases hy
  obtain ⟨hp,hcl,g,ps,sp,xs,us,ys,h1,h2,ho,hb,h3,vx,vu,vy,rest⟩:=h.row i _ hl
  refine ⟨hp,by rw [List.length_set];exact hcl,g,ps,sp,xs,us,ys,h1,h2,ho,hb,h3,vx,?_,vy,rest⟩
  obtain ⟨u,hu,hr⟩:=vu.at_ hv
  have:=vu.set c (hvv u hr)
  obtain ⟨hlt,he⟩:=List.getElem?_eq_some_iff.1 hu
  rwa [← he,List.set_getElem_self hlt] at this
 ·rw [if_neg e'] at hy
  exact h.row i y hy
theorem RelX.home2 (h : RelX w0 S0 B st a w) (x : Nat × Nat × Nat × TypeId) : RelX w0 S0 B (home2 st x) a w:=by
 obtain ⟨S,β,og,hR,hO⟩:=h
 unfold Go.Ev.home2
 split
 ·exact ⟨S,β,og,hR,hO⟩
 ·rename_i hc
  have hf : Fresh x.2.2.1 st.used:=by
   simp only [Bool.or_eq_true,not_or,Bool.not_eq_true] at hc
   exact ⟨by simpa using hc.1,Nat.lt_of_not_le fun h=>by rw [Nat.ble_eq_true_of_le h] at hc;simp at hc⟩
  split
  ·rename_i im cs hb
   have hbu : x.1 ≠ x.2.2.1:=by
    intro e
    obtain ⟨g,vs,t,_,hbt,_⟩:=hR.row x.1 _ hb
    exact hf.1 (by rw [← e];exact hR.used _ _ hbt)
   split
   ·rename_i id hid
    split
    ·rename_i r hl
     split
     ·exact ⟨S,β,og,hR,hO⟩
     ·rename_i hne
      obtain ⟨h1,h2⟩:=hR.rename hl hf
      have ht:=getD_some hid (by simp)
      refine ⟨S,_,_,h1.setBox (b:=x.1) (c:=x.2.1) (im:=im) (cs:=cs) (v:=.own id) ?_ ht ?_,hO⟩
      ·show lookup (setRow (delRow st.rows id) x.2.2.1 r) x.1 = _
       rw [lookup_setRow,if_neg hbu,lookup_delRow,if_neg (fun e=>hne e.symm)]
       exact hb
      ·intro u hu
       cases hu with
       | own _ _ _ wd hbt =>
        refine h2 u ?_
        by_cases e : id = x.2.2.1
        ·exfalso
         have h0:=hR.row id r hl
         cases r with
         | box _ _=>obtain ⟨_,_,_,_,hbt',_⟩:=h0;exact hf.1 (by rw [← e];exact hR.used _ _ hbt')
         | arr _ _ _ _ _=>obtain ⟨_,_,_,_,_,_,hbt',_⟩:=h0;exact hf.1 (by rw [← e];exact hR.used _ _ hbt')
         | foc _ _ _ _ _ _=>obtain ⟨_,_,_,_,_,_,_,_,_,_,_,hbt',_⟩:=h0;exact hf.1 (by rw [← e];exact hR.used _ _ hbt')
        ·rw [upd_other _ _ _ _ e] at hbt
         exact .own _ id u wd hbt
    ·exact ⟨S,β,og,hR,hO⟩
   ·rename_i s hs
    split
    ·rename_i hw
     have ht:=getD_some hs (by simp)
     obtain ⟨g,vs,t,hog,hbt,hhh,hvs,hrest⟩:=hR.row x.1 _ hb
     obtain ⟨u,hu,hv⟩:=hvs.at_ ht
     cases hv with
     | slz _ _ A =>
      obtain ⟨h1,h2⟩:=hR.promote x.2.2.2 A hf (by rw [Nat.blt_eq] at hw;exact hw)
      have hβ : ∀ i y,β i = some y → upd β x.2.2.1 (some (.slice A 0 0,s.width)) i = some y:=fun i y hy=>by
       have hne : i ≠ x.2.2.1:=fun e=>hf.1 (by rw [← e];exact hR.used i y hy)
       rw [upd_other _ _ _ _ hne];exact hy
      refine ⟨S,_,_,⟨h1.tm,h1.df,fun i y hy=>?_,h1.inj,h1.lt,h1.used,h1.one,h1.Slt,h1.Ble,h1.pid⟩,hO⟩
      rw [lookup_setRow] at hy
      by_cases e : i = x.1
      ·subst e
       simp only [if_pos] at hy
       cases hy
       rw [upd_other _ _ _ _ hbu]
       refine ⟨g,vs,t,hog,hβ _ _ hbt,hhh,?_,hrest⟩
       have:=(hvs.mono (fun _ h=>h) (fun _ _=>rfl) hβ).set x.2.1 h2
       obtain ⟨hlt,he⟩:=List.getElem?_eq_some_iff.1 hu
       have hsame : vs.set x.2.1 (.slice A 0 0) = vs:=by rw [← he];exact List.set_getElem_self hlt
       rw [hsame] at this
       exact this
      ·rw [if_neg e] at hy
       exact h1.row i y hy
    ·exact ⟨S,β,og,hR,hO⟩
   ·exact ⟨S,β,og,hR,hO⟩
  ·rename_i im s e pre cs post hb
   have hbu : x.1 ≠ x.2.2.1:=by
    intro e
    obtain ⟨_,_,_,_,_,_,_,_,_,_,_,hbt,_⟩:=hR.row x.1 _ hb
    exact hf.1 (by rw [← e];exact hR.used _ _ hbt)
   split
   ·rename_i id hid
    split
    ·rename_i r hl
     split
     ·exact ⟨S,β,og,hR,hO⟩
     ·rename_i hne
      obtain ⟨h1,h2⟩:=hR.rename hl hf
      have ht:=getD_some hid (by simp)
      refine ⟨S,_,_,h1.setFoc (b:=x.1) (c:=x.2.1) (im:=im) (cs:=cs) (v:=.own id) ?_ ht ?_,hO⟩
      ·show lookup (setRow (delRow st.rows id) x.2.2.1 r) x.1 = _
       rw [lookup_setRow,if_neg hbu,lookup_delRow,if_neg (fun e=>hne e.symm)]
       exact hb
      ·intro u hu
       cases hu with
       | own _ _ _ wd hbt =>
        refine h2 u ?_
        by_cases e : id = x.2.2.1
        ·exfalso
         have h0:=hR.row id r hl
         cases r with
         | box _ _=>obtain ⟨_,_,_,_,hbt',_⟩:=h0;exact hf.1 (by rw [← e];exact hR.used _ _ hbt')
         | arr _ _ _ _ _=>obtain ⟨_,_,_,_,_,_,hbt',_⟩:=h0;exact hf.1 (by rw [← e];exact hR.used _ _ hbt')
         | foc _ _ _ _ _ _=>obtain ⟨_,_,_,_,_,_,_,_,_,_,_,hbt',_⟩:=h0;exact hf.1 (by rw [← e];exact hR.used _ _ hbt')
        ·rw [upd_other _ _ _ _ e] at hbt
         exact .own _ id u wd hbt
    ·exact ⟨S,β,og,hR,hO⟩
   ·exact ⟨S,β,og,hR,hO⟩
  ·exact ⟨S,β,og,hR,hO⟩
theorem foldl_rel {α : Type} {f : St → α → St} (hf : ∀ st x,RelX w0 S0 B st a w → RelX w0 S0 B (f st x) a w) : ∀ (l : List α) (st : St),RelX w0 S0 B st a w → RelX w0 S0 B (l.foldl f st) a w
 | [],_,h=>h
 | x :: l,st,h=>foldl_rel hf l _ (hf st x h)
theorem RelX.norm (h : RelX w0 S0 B st a w) (N : Norm) : RelX w0 S0 B (norm N st) a w:=by
 unfold Go.Ev.norm
 refine RelX.mask (foldl_rel (fun st x h=>RelX.home2 h x) _ _ (foldl_rel (fun st x h=>RelX.home1 h x) _ _ ?_)) _ _
 exact h.mask _ _
theorem setAll_at : ∀ (is : List Nat) (vs tm : List AV) (j : Nat) (v : AV),(setAll tm is vs)[j]? = some v → tm[j]? = some v ∨ ∃ n : Nat,is[n]? = some j ∧ vs[n]? = some v
 | [],vs,tm,j,v,h=>by simp only [setAll] at h;exact .inl h
 | i :: is,[],tm,j,v,h=>by simp [setAll] at h;exact .inl h
 | i :: is,x :: vs,tm,j,v,h=>by
  simp only [setAll] at h
  rcases setAll_at is vs _ j v h with h | ⟨n,h1,h2⟩
  ·rw [List.getElem?_set] at h
   split at h
   ·rename_i e
    split at h
    ·cases h;exact .inr ⟨0,by simp [e],rfl⟩
    ·cases h
   ·exact .inl h
  ·exact .inr ⟨n + 1,by simpa using h1,by simpa using h2⟩
theorem setAll_length : ∀ (is : List Nat) (vs tm : List AV),(setAll tm is vs).length = tm.length
 | [],vs,tm=>by simp only [setAll]
 | i :: is,[],tm=>rfl
 | i :: is,x :: vs,tm=>by simp [setAll,setAll_length is vs]
theorem lookup_putRows (rows : List (Nat × Row)) : ∀ (is : List Nat) (id : Nat) (r : Row),lookup (putRows is (is.map fun i=>lookup rows i)) id = some r → lookup rows id = some r
 | [],id,r,h=>by simp [putRows,lookup] at h
 | i :: is,id,r,h=>by
  simp only [List.map_cons] at h
  cases hl : lookup rows i with
  | none=>rw [hl] at h;exact lookup_putRows rows is id r h
  | some x =>
   rw [hl] at h
   simp only [putRows,lookup] at h
   split at h
   ·rename_i e;cases h;rw [← e];exact hl
   ·exact lookup_putRows rows is id r h
theorem maskFrom_length (keep ids : List Nat) : ∀ (i : Nat) (tm : List AV),(maskFrom keep ids i tm).length = tm.length
 | _,[]=>rfl
 | i,v :: vs=>by simp [maskFrom,maskFrom_length keep ids (i + 1) vs]
theorem home1_length (st : St) (x : Nat × Nat × TypeId) : (home1 st x).tm.length = st.tm.length:=by
 unfold home1
 repeat' split
 all_goals simp [dropRow,mask,maskFrom_length]
theorem home2_length (st : St) (x : Nat × Nat × Nat × TypeId) : (home2 st x).tm.length = st.tm.length:=by
 unfold home2
 repeat' split
 all_goals rfl
theorem foldl_length {α : Type} {f : St → α → St} (hf : ∀ st x,(f st x).tm.length = st.tm.length) : ∀ (l : List α) (st : St),(l.foldl f st).tm.length = st.tm.length
 | [],_=>rfl
 | x :: l,st=>by rw [List.foldl_cons,foldl_length hf l,hf]
theorem norm_length (N : Norm) (st : St) : (norm N st).tm.length = st.tm.length:=by
 unfold norm mask
 simp only [maskFrom_length]
 rw [foldl_length home2_length,foldl_length home1_length]
 simp only [maskFrom_length]
theorem RelX.expand (h : RelX w0 S0 B st a w) (N : Norm) (hl : st.tm.length = N.len) : RelX w0 S0 B (Go.Ev.expand N (valsOf N (Go.Ev.norm N st)) (rowsN N (Go.Ev.norm N st))) a w:=by
 obtain ⟨S,β,og,hR,hO⟩:=h.norm N
 refine ⟨S,β,og,⟨⟨?_,fun j c u hc hu=>?_⟩,hR.df,fun id r hr=>hR.row id r (lookup_putRows _ _ _ _ hr),hR.inj,hR.lt,fun id x hx=>?_,hR.one,hR.Slt,hR.Ble,hR.pid⟩,hO⟩
 ·simp only [Go.Ev.expand,setAll_length,List.length_replicate]
  rw [hR.tm.1,norm_length,hl]
 ·rcases setAll_at _ _ _ _ _ hc with h1 | ⟨n,h1,h2⟩
  ·have:=(List.mem_replicate.1 (List.mem_of_getElem? h1)).2
   subst this
   exact .unk _ _
  ·simp only [valsOf,List.getElem?_map,h1,Option.map_some,Option.some.injEq] at h2
   rw [← h2]
   cases hj : (Go.Ev.norm N st).tm[j]? with
   | none=>simp only [List.getD,hj,Option.getD_none];exact .unk _ _
   | some c'=>simp only [List.getD,hj,Option.getD_some];exact hR.tm.2 j c' u hj hu
 ·exact hR.used id x hx
end norm
section code
variable {R : Option Nat} {P : Program} {w0 : World} {S0 : Nat → Prop} {B : Ctx} {Γ : Env} {K : List (Nat × Loop)}
def exOf : Ex → Exit
 | .normal=>.normal
 | .exit id=>.exit id
 | .ret=>.ret
def DrawOK (P : Program) (Γ : Env) : Prop :=
 ∀ (ρ : Type) (w0 : World) (S0 : Nat → Prop) (B : Ctx) (id : Nat) (ops : Array Oper) (k : St → Option ρ) (r : ρ) (st : St) (a : Act) (w : World) (Q : Exit → Act → World → Prop) (R : Option Nat),ops.size ≤ 64 → regOK Γ ops st.tm = true → id < 67108864 →
  evOps P Γ id ops.toList (some (ancTab ops.toList)) k 0 ops.toList st = some r → RelX w0 S0 B st a w → (∀ st a w,k st = some r → RelX w0 S0 B st a w → Q .normal a w) → (Code.region id ops true).wpR R P Q a w
def LoopOK (P : Program) (Γ : Env) (K : List (Nat × Loop)) (b : Code) (l : Loop) : Prop :=
 (∀ (ρ : Type) (vs : List AV) (rs : List (Option Row)) (k : Ex → List AV → List (Option Row) → Option ρ) (r : ρ),l.L ρ vs rs k = some r →
  ∃ m p,iter l.N (fun st=>evC P Γ K b (Ex × St) st fun e st'=>some (e,st')) m vs rs = some p ∧ k p.1 p.2.1 p.2.2 = some r) ∧
 ∀ (ρ : Type) (vs : List AV) (rs : List (Option Row)) (k : Ex → List AV → List (Option Row) → Option ρ),l.L ρ vs rs k = (l.L (Ex × List AV × List (Option Row)) vs rs fun e v x=>some (e,v,x)).bind fun q=>k q.1 q.2.1 q.2.2
def KOK (P : Program) (Γ : Env) (K : List (Nat × Loop)) (c : Code) : Prop:=∀ b ∈ loopsOf c,∀ l,findIn K (firstRegion b) = some l → LoopOK P Γ K b l
theorem KOK.seqL {c d : Code} (h : KOK P Γ K (.seq c d)) : KOK P Γ K c:=fun b hb=>h b (by simp [loopsOf,hb])
theorem KOK.seqR {c d : Code} (h : KOK P Γ K (.seq c d)) : KOK P Γ K d:=fun b hb=>h b (by simp [loopsOf,hb])
theorem KOK.condL {x : Operand} {c d : Code} (h : KOK P Γ K (.cond x c d)) : KOK P Γ K c:=fun b hb=>h b (by simp [loopsOf,hb])
theorem KOK.condR {x : Operand} {c d : Code} (h : KOK P Γ K (.cond x c d)) : KOK P Γ K d:=fun b hb=>h b (by simp [loopsOf,hb])
theorem KOK.block {i : Nat} {c : Code} (h : KOK P Γ K (.block i c)) : KOK P Γ K c:=fun b hb=>h b (by simp [loopsOf,hb])
theorem KOK.loop {c : Code} (h : KOK P Γ K (.loop c)) : KOK P Γ K c:=fun b hb=>h b (by simp [loopsOf,hb])
theorem RowRel.monoB {w : World} {S B B' : Nat → Prop} {β : Bet} {id : Nat} {o : Option Nat} {r : Row} (h : RowRel w S B β id o r) (hB : ∀ g,o = some g → ¬ B g → ¬ B' g) : RowRel w S B' β id o r:=by
 cases r with
 | box imm cs =>
  obtain ⟨g,vs,t,ho,hb,hh,hv,hi,hj,hBg⟩:=h
  exact ⟨g,vs,t,ho,hb,hh,hv,hi,hj,hB g ho hBg⟩
 | arr imm s e es csp =>
  obtain ⟨hp,v,sp,xs,hsh,hcs,hb,h1,hv,hor⟩:=h
  refine ⟨hp,v,sp,xs,hsh,hcs,hb,h1,hv,?_⟩
  rcases hor with h | ⟨g,ps,ho,hvv,hBg,rest⟩
  ·exact .inl h
  ·exact .inr ⟨g,ps,ho,hvv,hB g ho hBg,rest⟩
 | foc imm s e pre cs post =>
  obtain ⟨hp,hcl,g,ps,sp,xs,us,ys,h1,h2,ho,hb,h3,vx,vu,vy,hBg,rest⟩:=h
  exact ⟨hp,hcl,g,ps,sp,xs,us,ys,h1,h2,ho,hb,h3,vx,vu,vy,hB g ho hBg,rest⟩
theorem Rel.putBlock {w : World} {S : Nat → Prop} {B : Ctx} {β : Bet} {og : Nat → Option Nat} {st : St} {a : Act} (h : Rel w S B β og st a) {D : Nat} (x : Obj) (hD : ∀ id r,lookup st.rows id = some r → og id ≠ some D) (hS : ¬ S D) : Rel (w.putObj D x) S B β og st a:=by
 have hw : ∀ b,S b → (w.putObj D x).heap[b]? = w.heap[b]?:=fun b hb=>World.putObj_heap_other (fun e=>hS (by rw [← e];exact hb))
 refine ⟨h.tm.mono (fun _ h=>h) hw (fun _ _ h=>h),h.df,fun id r hr=>?_,h.inj,fun id g hg=>by rw [World.putObj_size];exact h.lt id g hg,h.used,h.one,fun b hb=>by rw [World.putObj_size];exact h.Slt b hb,fun b hb=>by rw [World.putObj_size];exact h.Ble b hb,h.pid⟩
 exact (h.row id r hr).keep (fun _ _ h=>h) (fun _ h=>h) (fun _ _ h=>h) hw (fun g hg=>World.putObj_heap_other (fun e=>hD id r hr (by rw [← e];exact hg)))
theorem Kept.putBlock {B : Nat → Prop} {w w' : World} (h : Kept B w w') {D : Nat} (x : Obj) (hD : ¬ B D) : Kept B w (w'.putObj D x) :=
 ⟨h.os,h.tape,h.output,by rw [World.putObj_size];exact h.size,fun k hk=>(World.putObj_heap_other (fun e=>hD (by rw [← e];exact hk))).trans (h.block k hk)⟩
def markD (D : Nat) : Deferred:={ target:=.collected D,args:=#[] }
structure Ext (w0 : World) (S0 : Nat → Prop) (B0 : Ctx) (w1 : World) (S1 : Nat → Prop) (B1 : Ctx) : Prop where
 kept : KeptG B0 w0 w1
 sin : ∀ b,S1 b → S0 b ∨ ¬ B0 b
 sub : ∀ b,S0 b → S1 b
 up : ∀ b,B0 b → B1 b
 bet : B1.bet = B0.bet
 marks : ∃ Ds : List Nat,B1.df = Ds.map markD ++ B0.df ∧ Ds.Nodup ∧ ∀ D ∈ Ds,B1 D ∧ ¬ B0 D ∧ ¬ S1 D ∧ w1.heap[D]? = some (.deferred (some []))
theorem Ext.refl {w0 : World} {S0 : Nat → Prop} {B0 : Ctx} (h : Glb B0 w0) : Ext w0 S0 B0 w0 S0 B0 :=
 ⟨KeptG.refl h,fun _ h=>.inl h,fun _ h=>h,fun _ h=>h,rfl,[],by simp,List.nodup_nil,fun D h=>by cases h⟩
def RelE (w0 : World) (S0 : Nat → Prop) (B0 : Ctx) (st : St) (a : Act) (w : World) : Prop:=∃ w1 S1 B1,Ext w0 S0 B0 w1 S1 B1 ∧ RelX w1 S1 B1 st a w
theorem RelX.e {w0 : World} {S0 : Nat → Prop} {B0 : Ctx} {st : St} {a : Act} {w : World} (h : RelX w0 S0 B0 st a w) : RelE w0 S0 B0 st a w:=by
 obtain ⟨S,β,og,hR,hO⟩:=h
 exact ⟨w0,S0,B0,Ext.refl hO.bel.glb,S,β,og,hR,hO⟩
theorem Rel.behind {w0 w1 w : World} {S0 S1 S : Nat → Prop} {B0 B1 : Ctx} {β : Bet} {og : Nat → Option Nat} {st : St} {a : Act} (hE : Ext w0 S0 B0 w1 S1 B1) (h : Rel w S B1 β og st a) : Rel w S B0 β og st { a with defers:=B0.df } :=
 ⟨h.tm,rfl,fun id r hr=>(h.row id r hr).monoB (fun g _ hn hb=>hn (hE.up g hb)),h.inj,h.lt,h.used,h.one,h.Slt,fun b hb=>h.Ble b (hE.up b hb),fun id x hp hx=>by have:=h.pid id x hp hx;rw [hE.bet] at this;exact this⟩
theorem leaves_of {P : Program} {w0 w1 w : World} {S0 S1 S : Nat → Prop} {B0 B1 : Ctx} {β : Bet} {og : Nat → Option Nat} {st : St} {a : Act} {fn : Func} {Z : Ending → World → Prop} (hE : Ext w0 S0 B0 w1 S1 B1) (h0 : B0.df = []) (hR : Rel w S B1 β og st a) (hO : Out w1 S1 B1 w S)
  (hfin : ∀ w',RelX w0 S0 B0 st { a with defers:=B0.df } w' → ∃ v,(results fn a.tmps).run P w' = .ok v w' ∧ Z (.returned v) w') : LeavesInM Fence.wide 0 P fn a.tmps Z a.defers .returning w:=by
 obtain ⟨Ds,e1,e2,e3⟩:=hE.marks
 have hkept : Kept B0 w0 w:=(hE.kept.toKept).trans ⟨hO.bel.os,hO.bel.tape,hO.bel.output,hO.bel.size,fun k hk=>hO.bel.block k (hE.up k hk)⟩
 have hheap : ∀ D ∈ Ds,w.heap[D]? = some (.deferred (some [])):=fun D hD=>(hO.bel.block D (e3 D hD).1).trans (e3 D hD).2.2.2
 have hsin : ∀ b,S b → S0 b ∨ ¬ B0 b:=fun b hb=>(hO.sin b hb).elim (hE.sin b) fun h=>.inr fun h'=>h (hE.up b h')
 have hsub : ∀ b,S0 b → S b:=fun b hb=>hO.sub b (hE.sub b hb)
 have key : ∀ (l : List Nat) (w : World),l.Nodup → (∀ D ∈ l,D ∈ Ds) → (∀ D ∈ l,w.heap[D]? = some (.deferred (some []))) → Rel w S B1 β og st a → Kept B0 w0 w → LeavesInM Fence.wide 0 P fn a.tmps Z (l.map markD) .returning w:=by
  intro l
  induction l with
  | nil =>
   intro w _ _ _ hR hk
   show ∃ v,_
   exact hfin w ⟨S,β,og,hR.behind hE,⟨⟨hk,hE.kept.glb⟩,hsin,hsub⟩⟩
  | cons D l ih =>
   intro w hn hin hh hR hk
   obtain ⟨hn1,hn2⟩:=List.nodup_cons.1 hn
   obtain ⟨d1,d2,d3,_⟩:=e3 D (hin D (by simp))
   have hSD : ¬ S D:=fun hs=>(hO.sin D hs).elim d3 fun h=>h d1
   refine ⟨by simp,.inl ⟨D,_,rfl,run_takeDeferred (hh D (by simp)),?_⟩⟩
   refine ih (w.putObj D (.deferred none)) hn2 (fun x hx=>hin x (by simp [hx])) (fun x hx=>?_) (hR.putBlock _ (fun id r hr hg=>(hR.row id r hr).place.2 D hg d1) hSD) (hk.putBlock _ d2)
   rw [World.putObj_heap_other (fun e=>hn1 (by rw [← e];exact hx))]
   exact hh x (by simp [hx])
 rw [hR.df,e1,h0,List.append_nil]
 exact key Ds w e2 (fun _ h=>h) hheap hR hkept
def RngOK (Γ : Env) (R : Option Nat) (c : Code) : Prop:=∀ q ∈ rngsOf c,∀ key site,findIn Γ.rng (firstRegion q.2.2) = some (key,site) → R = none ∧ q = loopCode key
theorem RngOK.seqL {Γ : Env} {R : Option Nat} {c d : Code} (h : RngOK Γ R (.seq c d)) : RngOK Γ R c:=fun q hq=>h q (by simp [rngsOf,hq])
theorem RngOK.seqR {Γ : Env} {R : Option Nat} {c d : Code} (h : RngOK Γ R (.seq c d)) : RngOK Γ R d:=fun q hq=>h q (by simp [rngsOf,hq])
theorem RngOK.condL {Γ : Env} {R : Option Nat} {x : Operand} {c d : Code} (h : RngOK Γ R (.cond x c d)) : RngOK Γ R c:=fun q hq=>h q (by simp [rngsOf,hq])
theorem RngOK.condR {Γ : Env} {R : Option Nat} {x : Operand} {c d : Code} (h : RngOK Γ R (.cond x c d)) : RngOK Γ R d:=fun q hq=>h q (by simp [rngsOf,hq])
theorem RngOK.block {Γ : Env} {R : Option Nat} {i : Nat} {c : Code} (h : RngOK Γ R (.block i c)) : RngOK Γ R c:=h
theorem RngOK.loop {Γ : Env} {R : Option Nat} {c : Code} (h : RngOK Γ R (.loop c)) : RngOK Γ R c:=h
theorem RngOK.no {Γ : Env} {R : Option Nat} (h : Γ.rng = []) (c : Code) : RngOK Γ R c:=fun q hq key site e=>by rw [h] at e;cases e
theorem range_sound (hΓ : GOK P Γ) {key : Int} {site gf : Nat} {caps : List AV} {F : SummX} {g : Operand} {ps : Array Tmp} {assign body : Code} {ρ : Type} {st : St} {k : Ex → St → Option ρ} {r : ρ} {a : Act} {w : World} {Q : Exit → Act → World → Prop}
  (hq : (ps,assign,body) = loopCode key) (hg : val st.tm g = .fn gf caps) (hF : findX Γ gf = some F) (hen : entersB P gf = true) (hbd : hasBody P gf = true) (hfs : Fresh site st.used)
  (h : evX site F (.own site :: caps) (setRow st.rows site (rngRow key st)) (fun e=>if freshB site e (site :: st.used) then (apply site none e ⟨st.tm,setRow st.rows site (rngRow key st),site :: st.used⟩).force fun st2=>rngEnd site st2 k else none) = some r)
  (hR : RelE w0 S0 B st a w) (hk : ∀ e st a w,k e st = some r → RelE w0 S0 B st a w → Q (exOf e) a w) : (Code.rangeFunc g ps assign body).wpR none P Q a w:=by
 obtain ⟨w1,S1,B1,hE,S,β,og,hR,hO⟩:=hR
 refine wpIn_rangeFunc fun f _=>?_
 obtain ⟨r0,hr0⟩ : ∃ r0 : Go.Loop,r0 = { state:=.ready,pending:=none,fn:=f,tmps:=a.tmps,params:=ps,assign,body,defers:=w.heap.size }:=⟨_,rfl⟩
 obtain ⟨wL,hwL⟩ : ∃ wL,wL = (w.alloc (.deferred (some []))).alloc (.loop r0):=⟨_,rfl⟩
 have hgv:=val_rel hR.tm g
 rw [hg] at hgv
 generalize hge : a.eval g = gv at hgv
 cases hgv with
 | fn _ _ _ cvs hcl hch =>
 have hsz : wL.heap.size = w.heap.size + 2:=by rw [hwL];simp
 have hbelow : Below w.heap.size w wL:=by rw [hwL];exact ((Below.refl _ w).alloc (Nat.le_refl _) _).alloc (by simp) _
 have hhD : wL.heap[w.heap.size]? = some (.deferred (some [])):=by
  rw [hwL,Below.heap_alloc (w.alloc (.deferred (some []))) (.loop r0) w.heap.size (by simp)]
  exact World.alloc_heap_new w _
 have hhl : wL.heap[w.heap.size + 1]? = some (.loop r0):=by
  rw [hwL]
  have:=World.alloc_heap_new (w.alloc (.deferred (some []))) (.loop r0)
  simpa using this
 have hlt : ∀ b,S b → b < wL.heap.size:=fun b hb=>by have:=hR.Slt b hb;omega
 have hR1 : Rel wL S B1 β og st a:=hR.grow hbelow (fun _ h=>h) (fun _ _ h=>h) hlt
 obtain ⟨B2,hB2⟩ : ∃ B2 : Ctx,B2 = ⟨fun b=>B1 b ∨ b = w.heap.size,B1.bet,markD w.heap.size :: B1.df⟩:=⟨_,rfl⟩
 obtain ⟨a2,ha2⟩ : ∃ a2 : Act,a2 = { a with defers:=markD w.heap.size :: a.defers }:=⟨_,rfl⟩
 have hnB : ∀ g,¬ B1 g → g ≠ w.heap.size → ¬ B2 g:=fun g h1 h2 h3=>by
  rw [hB2] at h3
  exact h3.elim h1 h2
 have hR2 : Rel wL S B2 β og st a2:=by
  refine ⟨by rw [ha2];exact hR1.tm,by rw [ha2,hB2];show markD _ :: a.defers = markD _ :: B1.df;rw [hR.df],fun id r hr=>(hR1.row id r hr).monoB (fun g hg hn=>hnB g hn (fun e=>by have:=hR.lt id g hg;omega)),hR1.inj,hR1.lt,hR1.used,hR1.one,hR1.Slt,fun b hb=>?_,fun id x hp hx=>by rw [hB2];exact hR1.pid id x hp hx⟩
  rw [hB2] at hb
  rcases hb with hb | hb
  ·exact hR1.Ble b hb
  ·omega
 have hβ : ∀ id y,β id = some y → upd β site (some (.func (.yield (w.heap.size + 1)) #[] #[],1)) id = some y:=fun id y hy=>by
  have hne : id ≠ site:=fun e=>hfs.1 (by rw [← e];exact hR.used id y hy)
  rw [upd_other _ _ _ _ hne];exact hy
 have hog : ∀ id,og id = some (w.heap.size + 1) → False:=fun id hg=>by have:=hR.lt id _ hg;omega
 have hSl : ¬ S (w.heap.size + 1):=fun hs=>by have:=hR.Slt _ hs;omega
 have htmL : VRels wL S (upd β site (some (.func (.yield (w.heap.size + 1)) #[] #[],1))) (AV.onlys (rowIds st.rows) st.tm) a.tmps.toList:=by
  refine (onlys_rel (rowIds st.rows) _ _ hR1.tm).mono (fun _ h=>h) (fun _ _=>rfl) (fun id x hx=>?_)
  exact hβ _ _ (restr_some hx).2
 have hR3 : Rel wL S B2 (upd β site (some (.func (.yield (w.heap.size + 1)) #[] #[],1))) (upd og site (some (w.heap.size + 1))) ⟨st.tm,setRow st.rows site (rngRow key st),site :: st.used⟩ a2:=by
  refine ⟨hR2.tm.mono (fun _ h=>h) (fun _ _=>rfl) hβ,hR2.df,fun id y hy=>?_,fun id id' g hg hg'=>?_,fun id g hg=>?_,fun id y hy=>?_,fun id y hy=>?_,hR2.Slt,hR2.Ble,pid_upd hR2.pid hfs.2⟩
  ·rw [lookup_setRow] at hy
   by_cases e : id = site
   ·subst e
    simp only [if_pos] at hy
    cases hy
    rw [upd_same]
    refine ⟨w.heap.size + 1,.tuple #[.int .i64 key] :: a.tmps.toList,.func (.yield (w.heap.size + 1)) #[] #[],rfl,upd_same _ _ _,.inr (.inl ⟨r0,key,a.tmps.toList,false,hhl,by rw [hr0];rfl,by rw [hr0];rfl,by rw [hr0];exact hq,rfl,by rw [hr0],rfl⟩),VRels.cons ?_ htmL,fun _=>hSl,(fun h=>by cases h),fun hb=>?_⟩
    ·exact .tup _ [.int .i64 key] [.int .i64 key] rfl fun j c u hc hu=>by
      cases j with
      | zero=>simp at hc hu;subst hc;subst hu;exact .int _ _ _
      | succ j=>simp at hc
    ·rw [hB2] at hb
     rcases hb with hb | hb
     ·have:=hR.Ble _ hb;omega
     ·omega
   ·rw [if_neg e] at hy
    rw [upd_other _ _ _ _ e]
    exact (hR2.row id y hy).keep hβ (fun _ h=>h) (fun _ _ h=>h) (fun _ _=>rfl) (fun _ _=>rfl)
  ·by_cases e : id = site <;> by_cases e' : id' = site
   ·rw [e,e']
   ·subst e;rw [upd_same] at hg;cases hg;rw [upd_other _ _ _ _ e'] at hg';exact (hog _ hg').elim
   ·subst e';rw [upd_same] at hg';cases hg';rw [upd_other _ _ _ _ e] at hg;exact (hog _ hg).elim
   ·rw [upd_other _ _ _ _ e] at hg;rw [upd_other _ _ _ _ e'] at hg';exact hR.inj id id' g hg hg'
  ·by_cases e : id = site
   ·subst e;rw [upd_same] at hg;cases hg;omega
   ·rw [upd_other _ _ _ _ e] at hg;exact hR2.lt id g hg
  ·by_cases e : id = site
   ·subst e;exact List.mem_cons_self
   ·rw [upd_other _ _ _ _ e] at hy;exact List.mem_cons_of_mem _ (hR.used id y hy)
  ·by_cases e : id = site
   ·subst e;rw [upd_same] at hy;cases hy;rfl
   ·rw [upd_other _ _ _ _ e] at hy;exact hR.one id y hy
 have hkeptL : Kept B1 w1 wL:=(hO.bel.toKept).trans (Kept.of_below hbelow hR.Ble)
 have hglb : Glb B2 wL:=fun w' hk=>hO.bel.here w' ((Kept.of_below hbelow hR.Ble).trans ⟨hk.os,hk.tape,hk.output,hk.size,fun b hb=>hk.block b (by rw [hB2];exact .inl hb)⟩)
 have hO3 : Out wL S B2 wL S:=⟨KeptG.refl hglb,fun _ h=>.inl h,fun _ h=>h⟩
 have hE3 : Ext w0 S0 B wL S B2:=by
  obtain ⟨Ds,e1,e2,e3⟩:=hE.marks
  refine ⟨hE.kept.trans ⟨hkeptL.os,hkeptL.tape,hkeptL.output,hkeptL.size,fun b hb=>hkeptL.block b (hE.up b hb)⟩,fun b hb=>(hO.sin b hb).elim (hE.sin b) fun h=>.inr fun h'=>h (hE.up b h'),fun b hb=>hO.sub b (hE.sub b hb),fun b hb=>by rw [hB2];exact .inl (hE.up b hb),by rw [hB2];exact hE.bet,w.heap.size :: Ds,by rw [hB2];show markD _ :: B1.df = _;rw [e1];rfl,List.nodup_cons.2 ⟨fun hin=>?_,e2⟩,fun D hD=>?_⟩
  ·have:=hR.Ble _ (e3 _ hin).1
   omega
  ·rcases List.mem_cons.1 hD with rfl | hD
   ·refine ⟨by rw [hB2];exact .inr rfl,fun hb=>?_,fun hs=>?_,hhD⟩
    ·have:=hR.Ble _ (hE.up _ hb);omega
    ·have:=hR.Slt _ hs;omega
   ·obtain ⟨d1,d2,d3,d4⟩:=e3 D hD
    exact ⟨by rw [hB2];exact .inl d1,d2,fun hs=>(hO.sin D hs).elim d3 fun h=>h d1,(hkeptL.block D d1).trans d4⟩
 have hargs : VRels wL S (upd β site (some (.func (.yield (w.heap.size + 1)) #[] #[],1))) (.own site :: caps) (.func (.yield (w.heap.size + 1)) #[] #[] :: cvs) :=
  VRels.cons (.own _ site _ 1 (upd_same _ _ _)) (VRels.mono (w:=w) (S:=S) (β:=β) ⟨hcl,hch⟩ (fun _ h=>h) (fun b hs=>hbelow.block b (hR.Slt b hs)) hβ)
 obtain ⟨S4,B4,β4,og4,avs4,rows4,k4,hH,hSB,hdom,hv4,hF4,hown,hcont⟩:=evX_open (site:=site) hR3 hO3 (rowsV:=setRow st.rows site (rngRow key st)) (fun _ _ h=>h) (fun e he=>by
  by_cases hf : freshB site e (site :: st.used) = true
  ·exact hf
  ·simp [hf] at he) none hargs h
 have hC:=(hΓ.opens gf F hF) ρ wL S4 B4 β4 og4 avs4 rows4 _ _ r hH hSB hdom hv4 hF4
 have hen2 : ∀ args w,(callFunc gf args).run P w = .ok (.enter gf args) w:=fun args w=>by
  unfold hasBody at hbd
  unfold entersB at hen
  cases hfn : P.funcs[gf]? with
  | none=>rw [hfn] at hbd;cases hbd
  | some fn =>
   simp only [hfn,Bool.not_eq_true'] at hen hbd
   have hnone : fn.body.isNone = false:=by cases hbb : fn.body <;> simp_all
   simp only [callFunc,Sem.run_bind,run_program,Result.andThen_ok,hfn]
   simp [hen,hnone]
 refine ⟨w.heap.size + 1,[markD w.heap.size],wL,{ target:=.fn (.func gf) cvs.toArray,args:=#[.func (.yield (w.heap.size + 1)) #[] #[]] },wL,gf,#[.func (.yield (w.heap.size + 1)) #[] #[]] ++ cvs.toArray,wL,?_,?_,fun _ _=>trivial,?_,fun h=>(by cases h),?_⟩
 ·rw [hwL,hr0];exact run_enterLoop_outer _ _ _ _ _
 ·simp only [resolve,hge]
  simp [go_sem]
 ·simp [invoke,go_sem,hen2]
 ·have hC':=hC.calls hbd
  have harr : (.func (.yield (w.heap.size + 1)) #[] #[] :: cvs).toArray = #[.func (.yield (w.heap.size + 1)) #[] #[]] ++ cvs.toArray:=by apply Array.ext';simp
  rw [harr] at hC'
  refine CallsIn.mono (CallsIn.at (R0:=none) (callsIn_wide.2 hC')) fun e w3 hpost=>?_
  obtain ⟨u,v,prow,nrow,S',β',og',rfl,hk4,hA⟩:=hpost
  obtain ⟨e,S2,β2,og2,hy,hRr,hOr,hmono⟩:=hcont u v prow nrow w3 S' β' og' hk4 hA
  by_cases hf : freshB site e (site :: st.used) = true
  ·simp only [hf,if_true,St.force_eq] at hy
   generalize apply site none e ⟨st.tm,setRow st.rows site (rngRow key st),site :: st.used⟩ = st2 at hy hRr
   unfold rngEnd at hy
   have fin : ∀ (d : Bool) (tk cs : List AV),tk = recA key d ∨ tk.length = (recV key d).length → lookup st2.rows site = some (.box false (.tup tk :: cs)) → k (bif d then .ret else .normal) (dropRow st2 site) = some r → ∃ jump w₄,(Instr.endLoop (w.heap.size + 1)).run P w3 = .ok jump w₄ ∧
     (match jump with
      | none=>Q .normal { a with defers:=[markD w.heap.size] ++ a.defers } w₄
      | some c=>c.wpIn (fen none) 0 P Q { a with defers:=[markD w.heap.size] ++ a.defers } w₄):=fun d tk cs htk hls hy=>by
    obtain ⟨g2,vs2,v2,ho2,hb2,hH2,hvs2,hi2,_⟩:=hRr.row site _ hls
    have hb3:=hmono site _ (upd_same β site (some (.func (.yield (w.heap.size + 1)) #[] #[],1)))
    rw [hb2] at hb3
    simp only [Option.some.injEq,Prod.mk.injEq,and_true] at hb3
    subst hb3
    rcases hH2 with ⟨_,hp,_⟩ | ⟨r',key',us,d',hh2,hs2,hp2,_,hv2,_,hg2⟩ | ⟨_,_,_,_,hp⟩ | ⟨_,_,_,_,hp⟩
    rotate_left 2
    ·cases hp
    ·cases hp
    ·cases hp
    ·have hdd : d' = d:=by
      have hlk : tk.length = (recV key d).length:=htk.elim (fun e=>by rw [e];cases d <;> rfl) id
      obtain ⟨v,vs',e0,hx,_⟩:=hvs2.inv
      rw [hv2] at e0
      simp only [List.cons.injEq] at e0
      cases hx with
      | tup _ _ xs hl _ =>
       have e4 : xs = recV key' d':=by
        have:=e0.1
        simp only [Value.tuple.injEq] at this
        rw [← Array.toList_inj] at this
        simpa using this.symm
       rw [e4,hlk] at hl
       cases d <;> cases d' <;> simp [recV] at hl <;> rfl
     subst hdd
     have hg2' : g2 = w.heap.size + 1:=by
      simp only [Value.func.injEq,Fn.yield.injEq] at hg2
      exact hg2.1.symm
     subst hg2'
     have hX : RelE w0 S0 B (dropRow st2 site) a2 (w3.putObj (w.heap.size + 1) (.loop { r' with state:=.exhausted })):=by
      refine ⟨wL,S,B2,hE3,S2,_,og2,(Rel.mask hRr (List.range st2.tm.length) ((rowIds st2.rows).filter fun i=>!(i == site))).putBlock _ (fun id r hr hg=>?_) (hi2 rfl),⟨⟨hOr.bel.toKept.putBlock _ ?_,hOr.bel.glb⟩,hOr.sin,hOr.sub⟩⟩
      ·obtain ⟨hin,_⟩:=lookup_keepRows _ _ _ _ _ hr
       have:=hRr.inj id site _ hg ho2
       subst this
       simp at hin
      ·intro hb
       exact (hRr.row site _ hls).place.2 _ ho2 hb
     have ha : ({ a with defers:=[markD w.heap.size] ++ a.defers } : Act) = a2:=by rw [ha2];rfl
     cases d' with
     | false =>
      refine ⟨none,_,by rw [← (show r'.pending = none from hp2)];exact run_endLoop hh2 (by rw [hs2];simp),?_⟩
      show Q .normal { a with defers:=[markD w.heap.size] ++ a.defers } _
      rw [ha]
      exact hk .normal _ a2 _ hy hX
     | true =>
      refine ⟨some .ret,_,by rw [← (show r'.pending = some .ret from hp2)];exact run_endLoop hh2 (by rw [hs2];simp),?_⟩
      show Code.wpIn (fen none) 0 P .ret Q { a with defers:=[markD w.heap.size] ++ a.defers } _
      rw [ha]
      exact wpIn_ret (hk .ret _ a2 _ hy hX)
   split at hy
   ·rename_i q n cs hls
    exact fin false [.int q n] cs (.inr rfl) hls hy
   ·rename_i q n cs hls
    exact fin true [.int q n,.bool true] cs (.inr rfl) hls hy
   ·cases hy
  ·simp [hf] at hy
theorem evC_sound (hΓ : GOK P Γ) (hD : DrawOK P Γ) : ∀ (c : Code),KOK P Γ K c → RngOK Γ R c → ∀ (ρ : Type) (st : St) (k : Ex → St → Option ρ) (r : ρ) (a : Act) (w : World) (Q : Exit → Act → World → Prop),evC P Γ K c ρ st k = some r → RelE w0 S0 B st a w →
  (∀ e st a w,k e st = some r → RelE w0 S0 B st a w → Q (exOf e) a w) → c.wpR R P Q a w:=by
 intro c
 induction c with
 | skip=>intro _ _ ρ st k r a w Q h hR hk;exact wpIn_skip (hk .normal st a w h hR)
 | label l=>intro _ _ ρ st k r a w Q h hR hk;exact wpIn_label (hk .normal st a w h hR)
 | region id ops draw =>
  intro hKc hRg ρ st k r a w Q h hR hk
  simp only [evC] at h
  split at h
  ·rename_i hsz
   split at h
   ·rename_i hd
    split at h
    ·rename_i hok
     subst hd
     simp only [Bool.and_eq_true] at hok
     obtain ⟨w1,S1,B1,hE,hR⟩:=hR
     exact hD ρ w1 S1 B1 id ops _ r st a w Q R (Nat.le_of_ble_eq_true hsz) hok.1 (Nat.blt_eq ▸ hok.2) h hR (fun st a w hs hx=>hk .normal st a w hs ⟨w1,S1,B1,hE,hx⟩)
    ·cases h
   ·rename_i hd
    have hd' : draw = false:=by simpa using hd
    subst hd'
    obtain ⟨w1,S1,B1,hE,hR⟩:=hR
    exact wpIn_region_list (evOps_sound hΓ (fun st a w hs hx=>hk .normal st a w hs ⟨w1,S1,B1,hE,hx⟩) ops.toList 0 st a w h hR)
  ·cases h
 | seq x z ihx ihz =>
  intro hKc hRg ρ st k r a w Q h hR hk
  refine wpIn_seq (ihx hKc.seqL hRg.seqL ρ st _ r a w _ h hR fun e st' a' w' he hx=>?_)
  cases e with
  | normal=>exact ihz hKc.seqR hRg.seqR ρ st' k r a' w' Q he hx hk
  | exit id=>exact hk (.exit id) st' a' w' he hx
  | ret=>exact hk .ret st' a' w' he hx
 | cond c x z ihx ihz =>
  intro hKc hRg ρ st k r a w Q h hR hk
  simp only [evC] at h
  split at h
  ·rename_i t hc
   have hcv : a.eval c = .bool t:=by
    obtain ⟨_,_,_,_,S,β,og,hR',_⟩:=hR
    have:=val_rel hR'.tm c
    rw [hc] at this
    exact this.bool_inv
   refine wpIn_cond hcv ?_
   cases t with
   | true=>exact ihx hKc.condL hRg.condL ρ st k r a w Q h hR hk
   | false=>exact ihz hKc.condR hRg.condR ρ st k r a w Q h hR hk
  ·rename_i hc
   split at h
   ·obtain ⟨h1,h2⟩:=both_some h
    obtain ⟨t,hcv⟩ : ∃ t,a.eval c = .bool t:=by
     obtain ⟨_,_,_,_,S,β,og,hR',_⟩:=hR
     have:=val_rel hR'.tm c
     rw [hc] at this
     generalize hu : a.eval c = u at this
     cases this with
     | ubool _ b=>exact ⟨b,rfl⟩
    refine wpIn_cond hcv ?_
    cases t with
    | true=>exact ihx hKc.condL hRg.condL ρ st k r a w Q h1 hR hk
    | false=>exact ihz hKc.condR hRg.condR ρ st k r a w Q h2 hR hk
   ·cases h
  ·cases h
 | block id b ih =>
  intro hKc hRg ρ st k r a w Q h hR hk
  refine wpIn_block (ih hKc.block hRg.block ρ st _ r a w _ h hR fun e st' a' w' he hx=>?_)
  cases e with
  | normal=>exact hk .normal st' a' w' he hx
  | ret=>exact hk .ret st' a' w' he hx
  | exit i =>
   simp only at he
   simp only [exOf,Exit.inBlock]
   split at he
   ·rename_i e;rw [if_pos e];exact hk .normal st' a' w' he hx
   ·rename_i e;rw [if_neg e];exact hk (.exit i) st' a' w' he hx
 | loop b ih =>
  intro hKc hRg ρ st k r a w Q h hR hk
  simp only [evC] at h
  split at h
  ·rename_i l hl
   split at h
   ·rename_i hlen
    have hlen' : st.tm.length = l.N.len:=Nat.eq_of_beq_eq_true hlen
    rw [St.force_eq] at h
    obtain ⟨m,p,hp,hkp⟩:=(hKc b (by simp [loopsOf]) l hl).1 ρ _ _ _ r h
    refine wpIn_loop_rounds m ?_
    have key : ∀ m vs rs a w,iter l.N (fun st=>evC P Γ K b (Ex × St) st fun e st'=>some (e,st')) m vs rs = some p → RelE w0 S0 B (expand l.N vs rs) a w → Code.roundsIn (fen R) 0 P b Q m a w:=by
     intro m
     induction m with
     | zero=>intro vs rs a w hi;simp [iter] at hi
     | succ m ihm =>
      intro vs rs a w hi hR
      rw [roundsIn_succ]
      simp only [iter] at hi
      cases hb : evC P Γ K b (Ex × St) (expand l.N vs rs) fun e st'=>some (e,st') with
      | none=>simp [hb] at hi
      | some q =>
       simp only [hb] at hi
       split at hi
       ·rename_i hql
        have hql' : q.2.tm.length = l.N.len:=Nat.eq_of_beq_eq_true hql
        refine ih hKc.loop hRg.loop (Ex × St) _ _ q a w _ hb hR fun e st' a' w' he hx=>?_
        simp only [Option.some.injEq] at he
        subst he
        have hout : RelE w0 S0 B (expand l.N (valsOf l.N (norm l.N st')) (rowsN l.N (norm l.N st'))) a' w':=by obtain ⟨w1,S1,B1,hE,hx⟩:=hx;exact ⟨w1,S1,B1,hE,hx.expand l.N hql'⟩
        cases e with
        | normal=>exact ihm _ _ a' w' hi hout
        | exit id=>simp only [Option.some.injEq] at hi;subst hi;exact hk (.exit id) _ a' w' hkp hout
        | ret=>simp only [Option.some.injEq] at hi;subst hi;exact hk .ret _ a' w' hkp hout
       ·cases hi
    obtain ⟨w1,S1,B1,hE,hR⟩:=hR
    exact key m _ _ a w hp ⟨w1,S1,B1,hE,hR.expand l.N hlen'⟩
   ·cases h
  ·refine wpIn_loop_rounds Γ.unroll ?_
   have key : ∀ (m : Nat) (st : St) (a : Act) (w : World),unrL (fun ρ st k=>evC P Γ K b ρ st k) m ρ st k = some r → RelE w0 S0 B st a w → Code.roundsIn (fen R) 0 P b Q m a w:=by
    intro m
    induction m with
    | zero=>intro st a w h;cases h
    | succ m ihm =>
     intro st a w h hR
     rw [roundsIn_succ]
     refine ih hKc.loop hRg.loop ρ st _ r a w _ h hR fun e st' a' w' he hx=>?_
     cases e with
     | normal=>exact ihm st' a' w' he hx
     | exit id=>exact hk (.exit id) st' a' w' he hx
     | ret=>exact hk .ret st' a' w' he hx
   exact key Γ.unroll st a w h hR
 | exit id=>intro _ _ ρ st k r a w Q h hR hk;exact wpIn_exit (hk (.exit id) st a w h hR)
 | ret=>intro _ _ ρ st k r a w Q h hR hk;exact wpIn_ret (hk .ret st a w h hR)
 | rangeFunc g ps assign body _ _ =>
  intro hKc hRg ρ st k r a w Q h hR hk
  simp only [evC] at h
  split at h
  ·rename_i key site hrng
   obtain ⟨rfl,hq⟩:=hRg (ps,assign,body) (by simp [rngsOf]) key site hrng
   split at h
   ·rename_i gf caps hg
    split at h
    ·rename_i F hF
     split at h
     ·rename_i hc
      simp only [Bool.and_eq_true,Bool.not_eq_true'] at hc
      obtain ⟨⟨hen,hbd⟩,hu,hs⟩:=hc
      exact range_sound hΓ hq hg hF hen hbd ⟨by simpa using hu,Nat.blt_eq ▸ hs⟩ h hR hk
     ·cases h
    ·cases h
   ·cases h
  ·cases h
 | scope b _=>intro _ _ ρ st k r a w Q h;simp [evC] at h
 | goto l=>intro _ _ ρ st k r a w Q h;simp [evC] at h
 | refuse why=>intro _ _ ρ st k r a w Q h;simp [evC] at h
def resRun (tmps : Array Value) : ResultVar → Sem Value
 | .tmp t=>pure (tmps.getD t undef)
 | .cell ad t=>do loadVar t (← asAddr (tmps.getD ad undef))
theorem resultOf_sound {w : World} {S : Nat → Prop} {β : Bet} {og : Nat → Option Nat} {st : St} {a : Act} (hR : Rel w S B β og st a) {rv : ResultVar} {v : AV} (h : resultOf P st.rows st.tm rv = some v) :
  ∃ u,(resRun a.tmps rv).run P w = .ok u w ∧ VRel w S β v u:=by
 cases rv with
 | tmp t =>
  simp only [resultOf,Option.some.injEq] at h
  subst h
  exact ⟨_,rfl,getD_rel hR.tm t⟩
 | cell t ty =>
  simp only [resultOf] at h
  have hg:=getD_rel hR.tm t
  split at h
  ·rename_i id off hp
   rw [hp] at hg
   split at h
   ·rename_i im cs hl
    obtain ⟨g,vs,v0,ho,hb,hH,hvs,_⟩:=hR.row id _ hl
    generalize he : a.tmps.getD t undef = u at hg
    cases hg with
    | ptr _ _ _ g' wd hb' =>
     rw [hb] at hb'
     simp only [Option.some.injEq,Prod.mk.injEq] at hb'
     obtain ⟨hgg,⟨t',hh⟩,h1⟩:=hH.ptr hb'.1
     subst hgg
     have hload:=load_sound (P:=P) (t:=ty) (cs:=cs.drop off) (z:=fun x=>some x) (r:=v) (w:=w) (S:=S) (β:=β) (ad:=⟨g,off,none⟩) (xs:=vs.drop off) h (hvs.drop off) (fun u hu=>h1 u (List.mem_of_mem_drop hu)) (fun j u hu=>by
      rw [add_lit',row_cell (Lies.plain hh (m:=true))];simpa using hu)
     obtain ⟨v',u,hv',hvu,hrun⟩:=hload
     cases hv'
     refine ⟨u,?_,hvu⟩
     simp only [resRun,he,asAddr,pure_bind]
     exact hrun
   ·cases h
  ·cases h
theorem resultsOf_sound {w : World} {S : Nat → Prop} {β : Bet} {og : Nat → Option Nat} {st : St} {a : Act} (hR : Rel w S B β og st a) : ∀ (rs : List ResultVar) (vs : List AV),resultsOf P st.rows st.tm rs = some vs →
  ∃ us,(rs.mapM (resRun a.tmps)).run P w = .ok us w ∧ VRels w S β vs us
 | [],vs,h=>by simp [resultsOf] at h;subst h;exact ⟨[],by simp,VRels.nil⟩
 | rv :: rs,vs,h=>by
  simp only [resultsOf] at h
  cases h1 : resultOf P st.rows st.tm rv with
  | none=>simp [h1] at h
  | some v =>
   cases h2 : resultsOf P st.rows st.tm rs with
   | none=>simp [h1,h2] at h
   | some vs' =>
    simp [h1,h2] at h
    subst h
    obtain ⟨u,hu,hvu⟩:=resultOf_sound hR h1
    obtain ⟨us,hus,hvs⟩:=resultsOf_sound hR rs vs' h2
    refine ⟨u :: us,?_,VRels.cons hvu hvs⟩
    rw [List.mapM_cons]
    simp only [Sem.run_bind]
    rw [hu]
    simp only [Result.andThen_ok]
    rw [hus]
    rfl
theorem finish_sound {ρ : Type} {w : World} {st : St} {a : Act} (hX : RelX w0 S0 B st a w) {fn : Func} {k : AV → Option ρ} {r : ρ} (h : finish P fn st k = some r) :
  ∃ v u S',k v = some r ∧ (results fn a.tmps).run P w = .ok u w ∧ VRel w S' nob v u ∧ (∀ b,S' b → S0 b ∨ ¬ B b) ∧ (∀ b,S' b → b < w.heap.size):=by
 obtain ⟨S,β,og,hR,hO⟩:=hX
 rw [finish_eq] at h
 unfold finish0 at h
 cases h1 : resultsOf P st.rows st.tm fn.results.toList with
 | none=>simp [h1] at h
 | some vs =>
  cases h2 : purL (pur1 st.rows depth) vs with
  | none=>simp [h1,h2] at h
  | some p =>
   simp only [h1,h2] at h
   obtain ⟨us,hus,hvs⟩:=resultsOf_sound hR _ _ h1
   have hp:=purL_sound (w:=w) (S:=S) (β:=β) (og:=og) (f:=pur1 st.rows depth) (pur1_sound hR.row depth) _ _ _ h2 hvs
   replace hp:=nzs_rel hp
   have hin : ∀ id ∈ p.2,∃ r,lookup st.rows id = some r:=purL_in (rows:=st.rows) (pur1_in depth) _ _ h2
   have hOF:=hO.freeze hR p.2 hin
   have hFr:=hR.freeze p.2
   have hres : (results fn a.tmps).run P w = .ok (if h : us.toArray.size = 1 then us.toArray[0] else .tuple us.toArray) w:=by
    show (do let vs ← fn.results.mapM (resRun a.tmps);pure (if h : vs.size = 1 then vs[0] else .tuple vs) : Sem Value).run P w = _
    rw [Array.mapM_eq_mapM_toList]
    simp only [Sem.run_bind,Sem.run_map]
    rw [hus]
    rfl
   refine ⟨_,_,With S og p.2,h,hres,?_,hOF.sin,hFr.Slt⟩
   unfold one
   split
   ·rename_i x hx
    rw [hx] at hp
    obtain ⟨u,us',rfl,hu,hn⟩:=hp.inv
    rw [hn.inv_nil]
    simpa using hu
   ·rename_i hx
    have hne : us.length ≠ 1:=by
     rw [hp.1]
     intro hl
     match hq : AV.nzs p.1,hl with
     | [x],_=>exact hx x hq
    have : ¬ us.toArray.size = 1:=by simpa using hne
    rw [dif_neg this]
    exact .tup _ _ _ hp.1 hp.2
theorem sumOK_ofR (hΓ : GOK P Γ) (hD : DrawOK P Γ) {f : FuncId} {fn : Func} (hfn : P.funcs[f]? = some fn) {F : Summ} (hF : ∀ ρ avs k r,F ρ avs k = some r → ∃ K,(∀ c,fn.body = some c → KOK P Γ K c) ∧ evF P Γ K fn ρ avs k = some r) (hRg : ∀ c,fn.body = some c → RngOK Γ none c) : SumOK P f F:=by
 intro ρ w S avs args k r hS hv hrun
 obtain ⟨hS,hG⟩:=hS
 obtain ⟨K,hKc,he⟩:=hF ρ avs k r hrun
 unfold evF at he
 cases hb : fn.body with
 | none=>simp [hb] at he
 | some c =>
  simp only [hb,St.force_eq] at he
  refine Goes.of hfn hb (callsIn_wide.1 (callsIn_of_wp_marks (F:=Fence.wide) (n:=0) hfn hb trivial ?_))
  have hrep : ∀ m,VRels w S nob (List.replicate m AV.undef) (List.replicate m undef):=by
   intro m
   induction m with
   | zero=>exact VRels.nil
   | succ m ih=>exact VRels.cons (.undef _) ih
  have hX : RelX w S ⟨fun b=>b < w.heap.size,nob,[]⟩ (St.mk (avs ++ List.replicate (fn.ntmps - avs.length) .undef) [] []) { tmps:=args.toArray ++ Array.replicate (fn.ntmps - args.toArray.size) undef,defers:=[] } w:=by
   refine ⟨S,nob,fun _=>none,⟨?_,rfl,fun id r hr=>by simp [lookup] at hr,fun _ _ _ h=>by (cases h),fun _ _ h=>by (cases h),fun _ _ h=>by (cases h),fun _ _ h=>by (cases h),hS,fun _ h=>h,fun _ _ _ h=>by cases h⟩,⟨KeptG.refl hG,fun _ h=>.inl h,fun _ h=>h⟩⟩
   have : (args.toArray ++ Array.replicate (fn.ntmps - args.toArray.size) undef).toList = args ++ List.replicate (fn.ntmps - avs.length) undef:=by simp [hv.1]
   show VRels w S nob _ (args.toArray ++ Array.replicate (fn.ntmps - args.toArray.size) undef).toList
   rw [this]
   exact hv.append (hrep _)
  refine evC_sound (R:=none) hΓ hD c (hKc c hb) (hRg c hb) ρ _ _ _ _ w _ he hX.e fun e st' a' w' hk hx=>?_
  have fin : finish P fn st' k = some r → LeavesInM Fence.wide 0 P fn a'.tmps (fun e w'=>∃ u v S',e = .returned u ∧ k v = some r ∧ Below w.heap.size w w' ∧ (∀ b,S' b → S b ∨ w.heap.size ≤ b) ∧ (∀ b,S' b → b < w'.heap.size) ∧ VRel w' S' nob v u) a'.defers .returning w':=fun hf=>by
   obtain ⟨w1,S1,B1,hE,S2,β2,og2,hR2,hO2⟩:=hx
   refine leaves_of hE rfl hR2 hO2 fun w'' hx=>?_
   obtain ⟨v',u,S',hk',hrun,hv',hs1,hs2⟩:=finish_sound hx hf
   obtain ⟨S2,β,og,hR,hO⟩:=hx
   exact ⟨u,hrun,u,v',S',rfl,hk',hO.bel.toKept.below,fun b hb=>(hs1 b hb).imp id fun h=>Nat.le_of_not_lt h,hs2,hv'⟩
  cases e with
  | ret=>exact fin hk
  | normal=>exact fin hk
  | exit id=>cases hk
theorem sumOK_of (hΓ : GOK P Γ) (hD : DrawOK P Γ) {f : FuncId} {fn : Func} (hfn : P.funcs[f]? = some fn) {F : Summ} (hF : ∀ ρ avs k r,F ρ avs k = some r → ∃ K,(∀ c,fn.body = some c → KOK P Γ K c) ∧ evF P Γ K fn ρ avs k = some r) (hr : Γ.rng = []:=by rfl) : SumOK P f F :=
 sumOK_ofR hΓ hD hfn hF fun c _=>RngOK.no hr c
theorem paramRows_at (rows : List (Nat × Row)) : ∀ (n b j : Nat) (x : Option Row),(paramRows rows n b)[j]? = some x → x = lookup rows (b + j)
 | 0,b,j,x,h=>by simp [paramRows] at h
 | n + 1,b,j,x,h=>by
  cases j with
  | zero=>simp [paramRows] at h;exact h.symm
  | succ j =>
   simp only [paramRows,List.getElem?_cons_succ] at h
   rw [paramRows_at rows n (b + 1) j x h]
   congr 1
   omega
theorem rowsOf_at (rows : List (Nat × Row)) : ∀ (ids : List Nat) (rs : List Row),rowsOf rows ids = some rs → ∀ (j : Nat) (r : Row),rs[j]? = some r → ∃ i,ids[j]? = some i ∧ lookup rows i = some r
 | [],rs,h,j,r,hj=>by simp [rowsOf] at h;subst h;simp at hj
 | i :: is,rs,h,j,r,hj=>by
  simp only [rowsOf] at h
  split at h
  ·cases h
  ·rename_i q hq
   split at h
   ·rename_i r' hr
    cases h
    cases j with
    | zero=>simp at hj;subst hj;exact ⟨i,rfl,hr⟩
    | succ j=>simpa using rowsOf_at rows is q hq j r (by simpa using hj)
   ·cases h
theorem finishX_sound {ρ : Type} {w : World} {st : St} {a : Act} (hX : RelX w0 S0 B st a w) {np : Nat} (hdom : ∀ id x,B.bet id = some x → id < RID) {fn : Func} {k : AV → List (Option Row) → List Row → Option ρ} {r : ρ} (h : finishX P fn np st k = some r) :
  ∃ u,(results fn a.tmps).run P w = .ok u w ∧ ∃ v prow nrow S' β' og',k v prow nrow = some r ∧ After w0 S0 B B.bet prow nrow v u w S' β' og':=by
 obtain ⟨S,β,og,hR,hO⟩:=hX
 unfold finishX at h
 split at h
 ·cases h
 ·rename_i vs h1
  split at h
  ·cases h
  ·rename_i p h2
   obtain ⟨p1,fz⟩:=p
   simp only at h
   generalize hids : (reach (setImm fz st.rows) depth (p1 ++ cellsOfRows (paramRows (setImm fz st.rows) np PID)) []).filter (fun i=>Nat.blt i PID) = ids at h
   have hlt : ∀ i ∈ ids,i < PID:=fun i hi=>by
    rw [← hids] at hi
    have:=(List.mem_filter.1 hi).2
    exact Nat.blt_eq ▸ this
   split at h
   ·cases h
   ·rename_i nrow hn
    split at h
    ·rename_i hc
     simp only [Bool.and_eq_true] at hc
     obtain ⟨hnd,hnp,hsm⟩:=hc
     have hnd':=nodupB_spec ids hnd
     obtain ⟨us,hus,hvs⟩:=resultsOf_sound hR _ _ h1
     have hp:=purL_soundX (w:=w) (S:=S) (β:=β) (og:=og) (f:=opn1 st.rows depth) (opn1_sound hR.row depth) _ _ _ h2 hvs
     have hin : ∀ id ∈ fz,∃ r,lookup st.rows id = some r:=purL_in (rows:=st.rows) (opn1_in depth) _ _ h2
     have hOF:=hO.freeze hR fz hin
     have hFr:=hR.freeze fz
     have hPR : PID + 1000000 < RID:=by decide
     have hnp' : np ≤ 1000000:=Nat.le_of_ble_eq_true hnp
     have hm : ∀ id x j,β id = some x → toR ids id = some j → (if j < RID then (if PID ≤ j then β j else none) else (ids[j - RID]?).bind β) = some x:=fun id x j hx hj=>by
      unfold toR at hj
      split at hj
      ·rename_i hle
       cases hj
       have hle' : PID ≤ id:=Nat.le_of_ble_eq_true hle
       rw [if_pos (hdom id x (hR.pid id x hle' hx)),if_pos hle']
       exact hx
      ·cases hi : idx ids id with
       | none=>simp [hi] at hj
       | some jj =>
        simp [hi] at hj
        subst hj
        rw [if_neg (by omega),Nat.add_sub_cancel_left,idx_some ids id jj hi]
        exact hx
     have hren:=rens_rel (w:=w) (S:=With S og fz) (β:=β) (β':=fun j=>if j < RID then (if PID ≤ j then β j else none) else (ids[j - RID]?).bind β) hm hp
     replace hren:=nzs_rel hren
     have hres : (results fn a.tmps).run P w = .ok (if h : us.toArray.size = 1 then us.toArray[0] else .tuple us.toArray) w:=by
      show (do let vs ← fn.results.mapM (resRun a.tmps);pure (if h : vs.size = 1 then vs[0] else .tuple vs) : Sem Value).run P w = _
      rw [Array.mapM_eq_mapM_toList]
      simp only [Sem.run_bind,Sem.run_map]
      rw [hus]
      rfl
     refine ⟨_,hres,_,_,_,With S og fz,(fun j=>if j < RID then (if PID ≤ j then β j else none) else (ids[j - RID]?).bind β),(fun j=>if j < RID then (if PID ≤ j then og j else none) else (ids[j - RID]?).bind og),h,⟨hO.bel.toKept,fun b hb=>.inl (hO.sub b hb),hOF.sin,?_,fun j r hj=>?_,fun j r hj=>?_,fun id id' g hg hg'=>?_,fun id g hg=>?_,fun id x hx=>?_,hFr.Slt,fun id x hlt hx=>?_⟩⟩
     ·unfold one
      split
      ·rename_i x hx
       rw [hx] at hren
       obtain ⟨u,us',rfl,hu,hn⟩:=hren.inv
       rw [hn.inv_nil]
       simpa using hu
      ·rename_i hx
       have hne : us.length ≠ 1:=by
        rw [hren.1]
        intro hl
        match hq : AV.nzs (AV.rens (toR ids) p1),hl with
        | [x],_=>exact hx x hq
       have : ¬ us.toArray.size = 1:=by simpa using hne
       rw [dif_neg this]
       exact .tup _ _ _ hren.1 hren.2
     ·rw [List.getElem?_map] at hj
      cases hq : (paramRows (setImm fz st.rows) np PID)[j]? with
      | none=>simp [hq] at hj
      | some x =>
       have hx:=paramRows_at _ _ _ _ _ hq
       have hjl : j < np:=by
        have : (paramRows (setImm fz st.rows) np PID).length = np:=by
         have aux : ∀ n b,(paramRows (setImm fz st.rows) n b).length = n:=by
          intro n
          induction n with
          | zero=>intro b;rfl
          | succ n ih=>intro b;simp [paramRows,ih]
         exact aux np PID
        rw [← this]
        exact (List.getElem?_eq_some_iff.1 hq).1
       simp only [hq,Option.map_some,Option.some.injEq] at hj
       cases x with
       | none=>simp at hj
       | some r0 =>
        simp only [Option.map_some,Option.some.injEq] at hj
        subst hj
        have h0:=(hFr.row (PID + j) r0 hx.symm).forget
        have e1 : (if PID + j < RID then (if PID ≤ PID + j then og (PID + j) else none) else (ids[PID + j - RID]?).bind og) = og (PID + j):=by rw [if_pos (by omega),if_pos (by omega)]
        rw [e1]
        refine h0.ren hm (fun x hx=>?_) (fun g _ h=>h)
        rw [if_pos (by omega),if_pos (by omega)]
        exact hx
     ·rw [List.getElem?_map] at hj
      cases hq : nrow[j]? with
      | none=>simp [hq] at hj
      | some r0 =>
       simp only [hq,Option.map_some,Option.some.injEq] at hj
       subst hj
       obtain ⟨i,hi,hl⟩:=rowsOf_at _ _ _ hn j r0 hq
       have h0:=(hFr.row i r0 hl).forget
       have e1 : (if RID + j < RID then (if PID ≤ RID + j then og (RID + j) else none) else (ids[RID + j - RID]?).bind og) = og i:=by rw [if_neg (by omega),Nat.add_sub_cancel_left,hi];rfl
       rw [e1]
       refine h0.ren hm (fun x hx=>?_) (fun g _ h=>h)
       rw [if_neg (by omega),Nat.add_sub_cancel_left,hi]
       exact hx
     ·have cl : ∀ id,(if id < RID then (if PID ≤ id then og id else none) else (ids[id - RID]?).bind og) = some g → (PID ≤ id ∧ id < RID ∧ og id = some g) ∨ (∃ j i,id = RID + j ∧ ids[j]? = some i ∧ i < PID ∧ og i = some g):=fun id h=>by
       split at h
       ·split at h
        ·rename_i h1 h2;exact .inl ⟨h2,h1,h⟩
        ·cases h
       ·rename_i h1
        cases hi : ids[id - RID]? with
        | none=>simp [hi] at h
        | some i=>exact .inr ⟨id - RID,i,by omega,hi,hlt i (List.mem_of_getElem? hi),by simpa [hi] using h⟩
      rcases cl id hg with ⟨a1,a2,a3⟩ | ⟨j,i,rfl,a2,a3,a4⟩ <;> rcases cl id' hg' with ⟨b1,b2,b3⟩ | ⟨j',i',rfl,b2,b3,b4⟩
      ·exact hR.inj id id' g a3 b3
      ·have:=hR.inj id i' g a3 b4;omega
      ·have:=hR.inj i id' g a4 b3;omega
      ·have:=hR.inj i i' g a4 b4
       subst this
       rw [hnd' j j' i a2 b2]
     ·split at hg
      ·split at hg
       ·exact hR.lt _ g hg
       ·cases hg
      ·cases hi : ids[id - RID]? with
       | none=>simp [hi] at hg
       | some i=>exact hR.lt i g (by simpa [hi] using hg)
     ·split at hx
      ·split at hx
       ·exact hR.one _ x hx
       ·cases hx
      ·cases hi : ids[id - RID]? with
       | none=>simp [hi] at hx
       | some i=>exact hR.one i x (by simpa [hi] using hx)
     ·rw [if_pos hlt] at hx
      split at hx
      ·rename_i hle;exact hR.pid id x hle hx
      ·cases hx
    ·cases h
def Spared : List Row → List Row → Prop
 | [],[]=>True
 | .box i cs :: rs,r :: rs'=>r = .box i cs ∧ Spared rs rs'
 | .foc i s e p cs q :: rs,r :: rs'=>r = .foc i s e p cs q ∧ Spared rs rs'
 | .arr i s e es csp :: rs,r :: rs'=>(∃ sp,r = .arr i s e es (some sp) ∧ (∀ x ∈ es ++ sp,hasSh s x = true) ∧ ∀ c,csp = some c → c = sp) ∧ Spared rs rs'
 | _,_=>False
theorem spared_of {w : World} {S B : Nat → Prop} {β : Bet} {og : Nat → Option Nat} : ∀ (rs : List Row) (b : Nat),(∀ (j : Nat) (r : Row),rs[j]? = some r → RowRel w S B β (b + j) (og (b + j)) r) → ∃ rs',Spared rs rs' ∧ rs'.length = rs.length ∧ ∀ (j : Nat) (r : Row),rs'[j]? = some r → RowRel w S B β (b + j) (og (b + j)) r
 | [],b,_=>⟨[],trivial,rfl,fun j r h=>by simp at h⟩
 | r :: rs,b,h=>by
  obtain ⟨rs',i1,i2,i3⟩:=spared_of rs (b + 1) (fun j r hj=>by have:=h (j + 1) r (by simpa using hj);rwa [show b + (j + 1) = b + 1 + j from by omega] at this)
  have key : ∀ r',RowRel w S B β b (og b) r' → ∀ (j : Nat) (x : Row),(r' :: rs')[j]? = some x → RowRel w S B β (b + j) (og (b + j)) x:=fun r' hr' j x hj=>by
   cases j with
   | zero=>simp at hj;subst hj;exact hr'
   | succ j=>have:=i3 j x (by simpa using hj);rwa [show b + 1 + j = b + (j + 1) from by omega] at this
  have h0:=h 0 r rfl
  cases r with
  | box i cs=>exact ⟨.box i cs :: rs',⟨rfl,i1⟩,by simp [i2],key _ h0⟩
  | foc i s e p cs q=>exact ⟨.foc i s e p cs q :: rs',⟨rfl,i1⟩,by simp [i2],key _ h0⟩
  | arr i s e es csp =>
   obtain ⟨hp,v,sp,xs,hsh,hcs,rest⟩:=h0
   exact ⟨.arr i s e es (some sp) :: rs',⟨⟨sp,rfl,hsh,hcs⟩,i1⟩,by simp [i2],key _ ⟨hp,v,sp,xs,hsh,(fun c hc=>by cases hc;rfl),rest⟩⟩
theorem lookup_zipIds' : ∀ (rs : List Row) (b j : Nat) (r : Row),rs[j]? = some r → lookup (zipIds b rs) (b + j) = some r
 | [],b,j,r,h=>by simp at h
 | x :: rs,b,j,r,h=>by
  cases j with
  | zero=>simp at h;simp [zipIds,lookup,h]
  | succ j =>
   have:=lookup_zipIds' rs (b + 1) j r (by simpa using h)
   simp only [zipIds,lookup]
   rw [if_neg (by omega),show b + (j + 1) = b + 1 + j from by omega]
   exact this
theorem homeK_eq {ρ : Type} {st : St} {x : Nat × Nat × TypeId} {k : St → Option ρ} {r : ρ} (h : homeK st x k = some r) : k (home1 st x) = some r:=by
 unfold homeK at h
 unfold home1
 split at h
 ·rename_i hc;rw [if_pos hc];exact h
 rename_i hc0
 rw [if_neg hc0]
 split at h
 ·rename_i hc;rw [if_pos hc];exact h
 ·rename_i hc
  rw [if_neg hc]
  split at h
  ·rename_i id n hs
   rw [hs]
   simp only
   split at h
   ·rename_i s e es csp hl
    obtain ⟨hb,h⟩:=bif_some h
    simp only [hb,if_true]
    exact h
   ·exact h
  ·unfold home1 at h
   rw [if_neg hc0,if_neg hc] at h
   exact h
theorem homes_eq {ρ : Type} : ∀ {H : List (Nat × Nat × TypeId)} {st : St} {k : St → Option ρ} {r : ρ},homes H st k = some r → k (H.foldl home1 st) = some r
 | [],_,_,_,h=>h
 | _ :: H,_,_,_,h=>homes_eq (H:=H) (homeK_eq h)
theorem xok_ofR (hΓ : GOK P Γ) (hD : DrawOK P Γ) {f : FuncId} {fn : Func} (hfn : P.funcs[f]? = some fn) {F : SummX} (hF : ∀ ρ avs rows k r,F ρ avs rows k = some r → rows.length ≤ 1000000 ∧ ∀ rows',Spared rows rows' → ∃ K H,(∀ c,fn.body = some c → KOK P Γ K c) ∧ evFX P Γ K H fn ρ avs rows' k = some r) (hRg : ∀ c,fn.body = some c → RngOK Γ none c) : XOK P f F:=by
 intro ρ w S B β og avs rows args k r hH hSB hdom hv hrun
 obtain ⟨hSB,hG⟩:=hSB
 obtain ⟨hsm,hF'⟩:=hF ρ avs rows k r hrun
 obtain ⟨rows',hsp,hlen,hrow'⟩:=spared_of (w:=w) (S:=S) (B:=B) (β:=β) (og:=og) rows PID (fun j r hj=>hH.row _ _ (lookup_zipIds' rows PID j r hj))
 obtain ⟨K,H,hKc,he⟩:=hF' rows' hsp
 have hPR : PID + 1000000 < RID:=by decide
 unfold evFX at he
 cases hb : fn.body with
 | none=>simp [hb] at he
 | some c =>
  simp only [hb,St.force_eq] at he
  refine Goes.of hfn hb (callsIn_wide.1 (callsIn_of_wp_marks (F:=Fence.wide) (n:=0) hfn hb trivial ?_))
  have hrep : ∀ m,VRels w S β (List.replicate m AV.undef) (List.replicate m undef):=by
   intro m
   induction m with
   | zero=>exact VRels.nil
   | succ m ih=>exact VRels.cons (.undef _) ih
  have hX : RelX w S ⟨B,β,[]⟩ (St.mk (avs ++ List.replicate (fn.ntmps - avs.length) .undef) (zipIds PID rows') (List.range' PID rows'.length)) { tmps:=args.toArray ++ Array.replicate (fn.ntmps - args.toArray.size) undef,defers:=[] } w:=by
   refine ⟨S,β,og,⟨?_,rfl,fun id r hr=>?_,hH.inj,hH.lt,fun id x hx=>?_,hH.one,hH.Slt,hH.Ble,fun id x _ hx=>hx⟩,⟨KeptG.refl hG,fun _ h=>.inl h,fun _ h=>h⟩⟩
   ·have : (args.toArray ++ Array.replicate (fn.ntmps - args.toArray.size) undef).toList = args ++ List.replicate (fn.ntmps - avs.length) undef:=by simp [hv.1]
    show VRels w S β _ (args.toArray ++ Array.replicate (fn.ntmps - args.toArray.size) undef).toList
    rw [this]
    exact hv.append (hrep _)
   ·obtain ⟨hle,hx⟩:=lookup_zipIds _ _ _ _ hr
    obtain ⟨jj,rfl⟩ : ∃ jj,id = PID + jj:=⟨id - PID,by omega⟩
    rw [Nat.add_sub_cancel_left] at hx
    exact hrow' jj r hx
   ·obtain ⟨h1,h2⟩:=hdom id x hx
    show id ∈ List.range' PID rows'.length
    rw [List.mem_range'_1,hlen]
    exact ⟨h1,h2⟩
  have hdom' : ∀ id x,(Ctx.mk B β []).bet id = some x → id < RID:=fun id x hx=>by have:=(hdom id x hx).2;omega
  refine evC_sound (R:=none) hΓ hD c (hKc c hb) (hRg c hb) ρ _ _ _ _ w _ he hX.e fun e st' a' w' hk hx=>?_
  have fin : (homes H st' fun st=>finishX P fn rows'.length st k) = some r → LeavesInM Fence.wide 0 P fn a'.tmps (fun e w'=>∃ u v prow nrow S' β' og',e = .returned u ∧ k v prow nrow = some r ∧ After w S B β prow nrow v u w' S' β' og') a'.defers .returning w':=fun hf=>by
   obtain ⟨w1,S1,B1,hE,S2,β2,og2,hR2,hO2⟩:=hx
   refine leaves_of hE rfl hR2 hO2 fun w'' hx=>?_
   have hx':=foldl_rel (fun st x h=>RelX.home1 h x) H st' hx
   obtain ⟨u,hrun,v,prow,nrow,S',β',og',hk',hA⟩:=finishX_sound hx' hdom' (homes_eq hf)
   exact ⟨u,hrun,u,v,prow,nrow,S',β',og',rfl,hk',hA⟩
  cases e with
  | ret=>exact fin hk
  | normal=>exact fin hk
  | exit id=>cases hk
theorem xok_of (hΓ : GOK P Γ) (hD : DrawOK P Γ) {f : FuncId} {fn : Func} (hfn : P.funcs[f]? = some fn) {F : SummX} (hF : ∀ ρ avs rows k r,F ρ avs rows k = some r → rows.length ≤ 1000000 ∧ ∀ rows',Spared rows rows' → ∃ K H,(∀ c,fn.body = some c → KOK P Γ K c) ∧ evFX P Γ K H fn ρ avs rows' k = some r) (hr : Γ.rng = []:=by rfl) : XOK P f F :=
 xok_ofR hΓ hD hfn hF fun c _=>RngOK.no hr c
end code
end Go.Ev
