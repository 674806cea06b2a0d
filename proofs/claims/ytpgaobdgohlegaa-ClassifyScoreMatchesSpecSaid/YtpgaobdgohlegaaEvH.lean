/-
  The operations, third part: slices, indexes, append.
-/
import Derived.Test.YtpgaobdgohlegaaEvG
namespace Go.Ev
open Go.RowKit

/-- Rows that are not written any more, from now on. -/
theorem Rel.freeze {w : World} {S : Nat → Prop} {B : Ctx} {β : Bet} {og : Nat → Option Nat} {st : St} {a : Act} (h : Rel w S B β og st a) (ids : List Nat) :
    Rel w (With S og ids) B β og ⟨st.tm, setImm ids st.rows, st.used⟩ a := by
  refine ⟨h.tm.keepS fun b => With.left, h.df, fun id r hr => ?_, h.inj, h.lt, h.used, h.one, fun b hb => ?_, h.Ble, h.pid⟩
  · rw [lookup_setImm] at hr
    cases hl : lookup st.rows id with
    | none => simp [hl] at hr
    | some r0 =>
      simp only [hl, Option.map_some, Option.some.injEq] at hr
      have h0 := h.row id r0 hl
      by_cases hin : ids.contains id = true
      · have hmem : id ∈ ids := by simpa using hin
        rw [if_pos hin] at hr
        subst hr
        cases r0 with
        | box imm cs =>
          obtain ⟨g, vs, t, ho, hb, hh, h1, hv, _, _, hB⟩ := h0
          exact ⟨g, vs, t, ho, hb, hh, h1, hv.keepS fun b => With.left, (fun e => by cases e), fun _ => .inr ⟨id, hmem, ho⟩, hB⟩
        | arr imm s e es csp =>
          obtain ⟨hp, v, sp, xs, hsh, hcs, hb, h1, hv, hor⟩ := h0
          refine ⟨hp, v, sp, xs, hsh, hcs, hb, h1, hv.keepS fun b => With.left, ?_⟩
          rcases hor with hh | ⟨g, ho, hvv, hB, hh, hm, _, _⟩
          · exact .inl hh
          · exact .inr ⟨g, ho, hvv, hB, hh, hm, (fun e => by cases e), fun _ => .inr ⟨id, hmem, ho⟩⟩
      · rw [if_neg hin] at hr
        subst hr
        have hnot : id ∉ ids := by simpa using hin
        refine h0.keep (fun _ _ h => h) (fun b => With.left) (fun g hg hs => ?_) (fun _ _ => rfl) (fun _ _ => rfl)
        rcases hs with hs | ⟨i, hi, hgi⟩
        · exact hs
        · exact absurd (h.inj id i g hg hgi ▸ hi) hnot
  · rcases hb with hb | ⟨i, _, hg⟩
    · exact h.Slt b hb
    · exact h.lt i b hg

theorem Out.freeze {w0 w : World} {S0 S : Nat → Prop} {B : Ctx} {β : Bet} {og : Nat → Option Nat} {st : St} {a : Act} (hO : Out w0 S0 B w S) (h : Rel w S B β og st a) (ids : List Nat) (hin : ∀ id ∈ ids, ∃ r, lookup st.rows id = some r) :
    Out w0 S0 B w (With S og ids) := by
  refine ⟨hO.bel, fun b hb => ?_, fun b hb => .inl (hO.sub b hb)⟩
  rcases hb with hb | ⟨i, hi, hg⟩
  · exact hO.sin b hb
  · obtain ⟨r, hr⟩ := hin i hi
    have := h.row i r hr
    cases r with
    | box imm cs => obtain ⟨g, _, _, ho, _, _, _, _, _, _, hB⟩ := this; rw [hg] at ho; cases ho; exact .inr hB
    | arr imm s e es csp =>
      obtain ⟨_, _, _, _, _, _, _, hor⟩ := this.arr_old
      rcases hor with ⟨_, ho, _⟩ | ⟨g, _, _, ho, _, hB, _⟩
      · rw [hg] at ho; cases ho
      · rw [hg] at ho; cases ho; exact .inr hB

theorem setImm_nil (rows : List (Nat × Row)) : setImm [] rows = rows := by
  induction rows with
  | nil => rfl
  | cons x rest ih => obtain ⟨i, r⟩ := x; simp [setImm, ih]

theorem purL_in {rows : List (Nat × Row)} {f : AV → Option (AV × List Nat)} (hf : ∀ v p, f v = some p → ∀ id ∈ p.2, ∃ r, lookup rows id = some r) : ∀ (cs : List AV) (p : List AV × List Nat), purL f cs = some p → ∀ id ∈ p.2, ∃ r, lookup rows id = some r
  | [], p, h, id, hid => by simp [purL] at h; subst h; simp at hid
  | c :: cs, p, h, id, hid => by
    simp only [purL] at h
    cases hc : f c with
    | none => simp [hc] at h
    | some q =>
      cases hq : purL f cs with
      | none => simp [hc, hq] at h
      | some q' =>
        simp [hc, hq] at h
        subst h
        simp at hid
        rcases hid with hid | hid
        · exact hf c q hc id hid
        · exact purL_in hf cs q' hq id hid
theorem pur1_in {rows : List (Nat × Row)} : ∀ (n : Nat) (v : AV) (p : AV × List Nat), pur1 rows n v = some p → ∀ id ∈ p.2, ∃ r, lookup rows id = some r := by
  intro n
  induction n with
  | zero => intro v p h; simp [pur1] at h
  | succ n ih =>
    intro v p h id hid
    have hL := purL_in (rows := rows) (f := pur1 rows n) ih
    cases v <;> simp only [pur1] at h
    case ptr i off =>
      cases hr : lookup rows i with
      | none => simp [hr] at h
      | some r =>
        cases r with
        | arr _ _ _ _ _ => simp [hr] at h
        | box imm cs =>
          simp only [hr] at h
          cases hp : purL (pur1 rows n) cs with
          | none => simp [hp] at h
          | some q =>
            simp [hp] at h
            subst h
            simp at hid
            rcases hid with rfl | hid
            · exact ⟨_, hr⟩
            · exact hL cs q hp id hid
    case eptr i j off =>
      cases hr : lookup rows i with
      | none => simp [hr] at h
      | some r =>
        cases r with
        | box _ _ => simp [hr] at h
        | arr _ _ _ _ _ => simp [hr] at h; obtain ⟨_, h⟩ := h; subst h; simp at hid; subst hid; exact ⟨_, hr⟩
    case own i =>
      cases hr : lookup rows i with
      | none => simp [hr] at h
      | some r =>
        cases r with
        | box _ _ => simp [hr] at h
        | arr _ _ _ _ _ => simp [hr] at h; subst h; simp at hid; subst hid; exact ⟨_, hr⟩
    case sub i lo m =>
      cases hr : lookup rows i with
      | none => simp [hr] at h
      | some r =>
        cases r with
        | box _ _ => simp [hr] at h
        | arr _ _ _ _ _ => simp [hr] at h; obtain ⟨_, h⟩ := h; subst h; simp at hid; subst hid; exact ⟨_, hr⟩
    case agg cs =>
      cases hp : purL (pur1 rows n) cs with
      | none => simp [hp] at h
      | some q => simp [hp] at h; subst h; exact hL cs q hp id hid
    case tup cs =>
      cases hp : purL (pur1 rows n) cs with
      | none => simp [hp] at h
      | some q => simp [hp] at h; subst h; exact hL cs q hp id hid
    case fn f cs =>
      cases hp : purL (pur1 rows n) cs with
      | none => simp [hp] at h
      | some q => simp [hp] at h; subst h; exact hL cs q hp id hid
    all_goals first
      | (cases h; simp at hid; done)
      | (simp at h; done)

section ops
variable {ρ : Type} {P : Program} {w0 w : World} {S0 S : Nat → Prop} {B : Ctx} {β : Bet} {og : Nat → Option Nat} {st : St} {a : Act} {o : Oper} {site : Nat} {y : Eff → Option ρ} {r : ρ}
  {K : Act → World → Prop} {Q : Exit → Act → World → Prop}

theorem optInt_some {x : Option Operand} (hR : VRels w S β st.tm a.tmps.toList) (h : optIsInt (x.map (val st.tm)) = true) (d : Int) :
    (x = none ∧ optInt (x.map (val st.tm)) d = d) ∨ ∃ z k, x = some z ∧ a.eval z = .int k (optInt (x.map (val st.tm)) d) := by
  cases x with
  | none => exact .inl ⟨rfl, rfl⟩
  | some z =>
    refine .inr ⟨z, ?_⟩
    have hv := val_rel hR z
    simp only [Option.map_some] at h ⊢
    generalize val st.tm z = v at h hv ⊢
    cases v <;> simp [optIsInt] at h
    rename_i k n
    exact ⟨k, by simp, by rw [hv.int_inv]; rfl⟩

theorem run_sliceBound {k : IntKind} {n : Int} {m : Nat} (c : BoundsCode) (h0 : 0 ≤ n) (h1 : n ≤ (m : Int)) : (Instr.sliceBound (.int k n) m c).run P w = .ok n.toNat w := by
  simp only [Instr.sliceBound, asIntOf, pure_bind]
  rw [if_pos ⟨h0, h1⟩]
  rfl

theorem run_bounds (hR : VRels w S β st.tm a.tmps.toList) {lo hi : Option Operand} (hl : optIsInt (lo.map (val st.tm)) = true) (hh : optIsInt (hi.map (val st.tm)) = true) (sl : Bool) (len cap : Nat) (hlc : len ≤ cap)
    (h : slb (optInt (lo.map (val st.tm)) 0) (optInt (hi.map (val st.tm)) len) len = true) :
    (Instr.sliceBounds sl len cap (lo.map a.eval) (hi.map a.eval) none).run P w = .ok ((optInt (lo.map (val st.tm)) 0).toNat, (optInt (hi.map (val st.tm)) len).toNat, cap) w := by
  simp only [slb, Bool.and_eq_true, decide_eq_true_eq] at h
  obtain ⟨h0, h1, h2⟩ := h
  rcases optInt_some hR hl 0 with ⟨rfl, e0⟩ | ⟨z, k, rfl, e0⟩ <;> rcases optInt_some hR hh len with ⟨rfl, e1⟩ | ⟨z', k', rfl, e1⟩
  · simp [Instr.sliceBounds, optInt]
  · generalize optInt (Option.map (val st.tm) (some z')) len = n at *
    rw [e0] at h1 ⊢
    have hb := fun c => run_sliceBound (P := P) (w := w) (k := k') (n := n) (m := cap) c (by omega) (by omega)
    simp [Instr.sliceBounds, e1, hb]
  · generalize optInt (Option.map (val st.tm) (some z)) 0 = n at *
    rw [e1] at h1 h2 ⊢
    have hb := fun c => run_sliceBound (P := P) (w := w) (k := k) (n := n) (m := len) c (by omega) (by omega)
    simp [Instr.sliceBounds, e0, hb]
  · generalize optInt (Option.map (val st.tm) (some z)) 0 = n at *
    generalize optInt (Option.map (val st.tm) (some z')) len = n' at *
    have hb := fun c => run_sliceBound (P := P) (w := w) (k := k') (n := n') (m := cap) c (by omega) (by omega)
    have hb' := fun c => run_sliceBound (P := P) (w := w) (k := k) (n := n) (m := n'.toNat) c (by omega) (by omega)
    simp [Instr.sliceBounds, e0, e1, hb, hb']

theorem extract_mk (s : List UInt8) (l h : Nat) : (ByteArray.mk s.toArray).extract l h = ⟨((s.drop l).take (h - l)).toArray⟩ := by
  apply ByteArray.ext
  simp

theorem op_slice_str (hR : Rel w S B β og st a) (hO : Out w0 S0 B w S) {t : TypeId} {x : Operand} {lo hi : Option Operand} {s : List UInt8} (ho : o.op = .slice t x lo hi none) (ht : P.underlying t = some .string) (hx : val st.tm x = .str s)
    (hl : optIsInt (lo.map (val st.tm)) = true) (hh : optIsInt (hi.map (val st.tm)) = true) (hb : slb (optInt (lo.map (val st.tm)) 0) (optInt (hi.map (val st.tm)) s.length) s.length = true)
    (hy : y { v := .str ((s.drop (optInt (lo.map (val st.tm)) 0).toNat).take ((optInt (hi.map (val st.tm)) s.length).toNat - (optInt (lo.map (val st.tm)) 0).toNat)) } = some r) (hK : Good w0 S0 B site o st y r K) : o.wp P a w K Q := by
  have h := val_rel hR.tm x
  rw [hx] at h
  refine op_slot hR hO (.str _ _) hy hK ?_
  have hbd := run_bounds (P := P) (w := w) hR.tm hl hh false s.length s.length (Nat.le_refl _) hb
  have hsz : (ByteArray.mk s.toArray).size = s.length := by simp [ByteArray.size]
  simp [execOp, ho, h.str_inv, Instr.sliceAt, run_underlying ht, Instr.slice, hsz, hbd, extract_mk]

theorem sizeOK_spec {e : TypeId} {s : Sh} (h : sizeOK P e s = true) : ∃ i, P.info? e = some i ∧ i.size = s.width := by
  simp only [sizeOK, Bool.and_eq_true, beq_iff_eq] at h
  obtain ⟨i, hi⟩ := Option.isSome_iff_exists.1 h.1
  exact ⟨i, hi, by have := h.2; simpa [Program.cellsOf, hi] using this⟩

theorem op_slice_slv (hR : Rel w S B β og st a) (hO : Out w0 S0 B w S) {rowsV : List (Nat × Row)} (hsub : ∀ id x, lookup rowsV id = some x → lookup st.rows id = some x) {t e : TypeId} {x : Operand} {lo hi : Option Operand} {s : Sh} {es : List AV} {ids : List Nat}
    (ho : o.op = .slice t x lo hi none) (ht : P.underlying t = some (.slice e)) (hx : pur1 rowsV depth (val st.tm x) = some (.slv s es, ids)) (hsz : sizeOK P e s = true)
    (hl : optIsInt (lo.map (val st.tm)) = true) (hh : optIsInt (hi.map (val st.tm)) = true) (hb : slb (optInt (lo.map (val st.tm)) 0) (optInt (hi.map (val st.tm)) es.length) es.length = true)
    (hy : y { v := .slv s ((es.drop (optInt (lo.map (val st.tm)) 0).toNat).take ((optInt (hi.map (val st.tm)) es.length).toNat - (optInt (lo.map (val st.tm)) 0).toNat)), imm := ids } = some r) (hK : Good w0 S0 B site o st y r K) : o.wp P a w K Q := by
  have hp := pur1_sound (w := w) (S := S) (B := B) (β := β) (og := og) (rows := rowsV) (fun id x hx => hR.row id x (hsub _ _ hx)) depth _ _ _ _ hx (val_rel hR.tm x)
  obtain ⟨i, hi', hiw⟩ := sizeOK_spec hsz
  have hb0 := hb
  simp only [slb, Bool.and_eq_true, decide_eq_true_eq] at hb0
  obtain ⟨h0, h1, h2⟩ := hb0
  obtain ⟨A, c, he, hc, hv⟩ := slv_part hp β (l := (optInt (lo.map (val st.tm)) 0).toNat) (hh := (optInt (hi.map (val st.tm)) es.length).toNat) (by omega) (by omega)
  have hin : ∀ id ∈ ids, ∃ r, lookup st.rows id = some r := fun id hid => by obtain ⟨r, hr⟩ := pur1_in _ _ _ hx id hid; exact ⟨r, hsub _ _ hr⟩
  have hF := (hR.freeze ids).put o.dst hv
  refine wp_value (u := .slice (if c = (optInt (lo.map (val st.tm)) 0).toNat then A else A.map (·.add ((optInt (lo.map (val st.tm)) 0).toNat * s.width))) ((optInt (hi.map (val st.tm)) es.length).toNat - (optInt (lo.map (val st.tm)) 0).toNat) (c - (optInt (lo.map (val st.tm)) 0).toNat)) (w' := w) ?_ (hK _ _ _ hy ⟨With S og ids, β, og, ?_, hO.freeze hR ids hin⟩)
  · have hbd := run_bounds (P := P) (w := w) hR.tm hl hh true es.length c hc hb
    simp [execOp, ho, he, Instr.sliceAt, run_underlying ht, Instr.slice, hbd, sizeOf, typeInfo, hi', hiw]
  · have : applyRows site { v := AV.slv s ((es.drop (optInt (lo.map (val st.tm)) 0).toNat).take ((optInt (hi.map (val st.tm)) es.length).toNat - (optInt (lo.map (val st.tm)) 0).toNat)), imm := ids } st.rows = setImm ids st.rows := by
      simp only [applyRows, List.foldl_nil]
      cases ids with
      | nil => rw [setImm_nil]
      | cons i is => rfl
    simp only [apply, this, List.map_nil, List.nil_append]
    exact hF

theorem op_slice_zero (hR : Rel w S B β og st a) (hO : Out w0 S0 B w S) {rowsV : List (Nat × Row)} (hsub : ∀ id x, lookup rowsV id = some x → lookup st.rows id = some x) {t e : TypeId} {x m : Operand} {lo hi : Option Operand} {s : Sh} {es : List AV} {ids : List Nat} {k : IntKind}
    (ho : o.op = .slice t x lo hi (some m)) (ht : P.underlying t = some (.slice e)) (hx : pur1 rowsV depth (val st.tm x) = some (.slv s es, ids)) (hsz : sizeOK P e s = true) (hm : val st.tm m = .int k 0)
    (hl : optIsInt (lo.map (val st.tm)) = true) (hh : optIsInt (hi.map (val st.tm)) = true) (hl0 : optInt (lo.map (val st.tm)) 0 = 0) (hh0 : optInt (hi.map (val st.tm)) 1 = 0)
    (hy : y { v := .slz s } = some r) (hK : Good w0 S0 B site o st y r K) : o.wp P a w K Q := by
  have hp := pur1_sound (w := w) (S := S) (B := B) (β := β) (og := og) (rows := rowsV) (fun id x hx => hR.row id x (hsub _ _ hx)) depth _ _ _ _ hx (val_rel hR.tm x)
  obtain ⟨A, c, ad, xs, he, _, hc, _⟩ := hp.slv_inv
  obtain ⟨i, hi', hiw⟩ := sizeOK_spec hsz
  have hmv := val_rel hR.tm m
  rw [hm] at hmv
  refine op_slot hR hO (.slz _ s A) hy hK ?_
  rcases optInt_some hR.tm hl 0 with ⟨rfl, e0⟩ | ⟨z, k0, rfl, e0⟩ <;> rcases optInt_some hR.tm hh 1 with ⟨rfl, e1⟩ | ⟨z', k', rfl, e1⟩
  · simp [optInt] at hh0
  · rw [hh0] at e1
    simp [execOp, ho, he, Instr.sliceAt, run_underlying ht, Instr.slice, Instr.sliceBounds, Instr.sliceBound, asIntOf, hmv.int_inv, e1, sizeOf, typeInfo, hi']
  · simp [optInt] at hh0
  · rw [hh0] at e1
    rw [hl0] at e0
    simp [execOp, ho, he, Instr.sliceAt, run_underlying ht, Instr.slice, Instr.sliceBounds, Instr.sliceBound, asIntOf, hmv.int_inv, e0, e1, sizeOf, typeInfo, hi']

theorem inb_spec {n : Int} {m : Nat} (h : inb n m = true) : 0 ≤ n ∧ n < m ∧ n.toNat < m := by
  simp only [inb, Bool.and_eq_true, decide_eq_true_eq] at h
  exact ⟨h.1, h.2, by omega⟩

theorem op_indexAddr_slv (hR : Rel w S B β og st a) (hO : Out w0 S0 B w S) {t e : TypeId} {x i : Operand} {s : Sh} {es : List AV} {k : IntKind} {n : Int} (ho : o.op = .indexAddr t x i) (ht : P.underlying t = some (.slice e)) (hx : val st.tm x = .slv s es) (hi : val st.tm i = .int k n)
    (hsz : sizeOK P e s = true) (hb : inb n es.length = true) (hy : y { v := .eref s es n.toNat 0 } = some r) (hK : Good w0 S0 B site o st y r K) : o.wp P a w K Q := by
  have h := val_rel hR.tm x
  rw [hx] at h
  have h' := val_rel hR.tm i
  rw [hi] at h'
  obtain ⟨b0, b1, b2⟩ := inb_spec hb
  obtain ⟨A, c, ad, xs, he, hs, hc, hm, hA, hv, h1, hxs⟩ := h.slv_inv
  obtain ⟨rfl, hS⟩ := hA (by rintro rfl; simp at b2)
  obtain ⟨ii, hii, hiw⟩ := sizeOK_spec hsz
  refine op_slot hR hO (.eref _ s es n.toNat 0 ad xs b2 hs hS hv.1 h1 hxs hv.2) hy hK ?_
  simp [execOp, ho, he, h'.int_inv, Instr.indexAt, asIntOf, run_underlying ht, b0, b1, sizeOf, typeInfo, hii, hiw]

theorem op_indexAddr_own (hR : Rel w S B β og st a) (hO : Out w0 S0 B w S) {t e e' : TypeId} {x i : Operand} {id : Nat} {im : Bool} {s : Sh} {es : List AV} {k : IntKind} {n : Int} (ho : o.op = .indexAddr t x i) (ht : P.underlying t = some (.slice e)) (hx : val st.tm x = .own id)
    {csp : Option (List AV)} (hl : lookup st.rows id = some (.arr im s e' es csp)) (hi : val st.tm i = .int k n)
    (hsz : sizeOK P e s = true) (hb : inb n es.length = true) (hy : y { v := .eptr id n.toNat 0 } = some r) (hK : Good w0 S0 B site o st y r K) : o.wp P a w K Q := by
  have h := val_rel hR.tm x
  rw [hx] at h
  have h' := val_rel hR.tm i
  rw [hi] at h'
  obtain ⟨b0, b1, b2⟩ := inb_spec hb
  obtain ⟨hp, hsh, v, xs, hbt, h1, hvs, hor⟩ := (hR.row id _ hl).arr_old
  obtain ⟨ii, hii, hiw⟩ := sizeOK_spec hsz
  rcases hor with ⟨he0, _⟩ | ⟨g, cap, cur, hog, hvv, _, hh, hc, hm, _⟩
  · subst he0; simp at b2
  · generalize he : a.eval x = u at h
    cases h with
    | own _ _ v' wd hb' =>
      rw [hbt] at hb'
      simp only [Option.some.injEq, Prod.mk.injEq] at hb'
      obtain ⟨rfl, rfl⟩ := hb'
      subst hvv
      refine op_slot hR hO (.eptr _ id n.toNat 0 g _ _ _ hbt) hy hK ?_
      simp [execOp, ho, he, h'.int_inv, Instr.indexAt, asIntOf, run_underlying ht, b0, b1, sizeOf, typeInfo, hii, hiw, add_lit]

theorem op_index_str (hR : Rel w S B β og st a) (hO : Out w0 S0 B w S) {t : TypeId} {x i : Operand} {s : List UInt8} {k : IntKind} {n : Int} (ho : o.op = .index t x i) (ht : P.underlying t = some .string) (hx : valT P st.tm t x = .str s) (hi : val st.tm i = .int k n)
    (hb : inb n s.length = true) (hy : y { v := .int .u8 ((s.getD n.toNat 0).toNat) } = some r) (hK : Good w0 S0 B site o st y r K) : o.wp P a w K Q := by
  have h := valT_rel hR.tm P t x
  rw [hx] at h
  have h' := val_rel hR.tm i
  rw [hi] at h'
  obtain ⟨b0, b1, b2⟩ := inb_spec hb
  refine op_slot hR hO (.int _ _ _) hy hK ?_
  have hg : (ByteArray.mk s.toArray)[n.toNat]? = some (s.getD n.toNat 0) := by
    have hlt : n.toNat < (ByteArray.mk s.toArray).size := by simpa [ByteArray.size] using b2
    have h0 := getElem?_pos (ByteArray.mk s.toArray) n.toNat hlt
    rw [h0]
    congr 1
    show s.toArray[n.toNat] = _
    simp [List.getD, List.getElem?_eq_getElem b2]
  simp [execOp, ho, h.str_inv, h'.int_inv, Instr.index, asIntOf, run_underlying ht, b0, hg]

theorem op_index_arr (hR : Rel w S B β og st a) (hO : Out w0 S0 B w S) {t e : TypeId} {x i : Operand} {len : Nat} {cs : List AV} {k : IntKind} {n : Int} (ho : o.op = .index t x i) (ht : P.underlying t = some (.array len e)) (hx : valT P st.tm t x = .agg cs) (hi : val st.tm i = .int k n)
    (hag : isAggT P e = false) (h1 : P.cellsOf e = 1) (hd : (P.underlying e).isSome = true) (hl : len = cs.length) (hall : cs.all (has1 (shOf P depth e)) = true)
    (hb : inb n len = true) (hy : y { v := eta1 (shOf P depth e) (cs.getD n.toNat .unk) } = some r) (hK : Good w0 S0 B site o st y r K) : o.wp P a w K Q := by
  have h := valT_rel hR.tm P t x
  rw [hx] at h
  have h' := val_rel hR.tm i
  rw [hi] at h'
  obtain ⟨b0, b1, b2⟩ := inb_spec hb
  obtain ⟨vs, he, hvs, _⟩ := h.agg_inv
  obtain ⟨d, hd⟩ := Option.isSome_iff_exists.1 hd
  obtain ⟨ii, hii, hiw⟩ := underlying_info hd
  have hc : cs[n.toNat]? = some (cs[n.toNat]'(by omega)) := List.getElem?_eq_getElem (by omega)
  obtain ⟨u, hu, hr⟩ := hvs.at_ hc
  have hgd : cs.getD n.toNat .unk = cs[n.toNat]'(by omega) := by simp [List.getD, hc]
  have hhas : has1 (shOf P depth e) (cs[n.toNat]'(by omega)) = true := by
    rw [List.all_eq_true] at hall
    exact hall _ (List.getElem_mem _)
  refine op_slot hR hO (u := u) (by rw [hgd]; exact eta1_rel hhas hr) hy hK ?_
  simp [execOp, ho, he, h'.int_inv, Instr.index, asIntOf, run_underlying ht, b0, b1, part, run_isAgg hd, hag, sizeOf, typeInfo, hii, hiw, h1, hu]

end ops
end Go.Ev
