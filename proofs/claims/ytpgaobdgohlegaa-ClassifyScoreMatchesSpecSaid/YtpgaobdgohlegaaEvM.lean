/-
  The operations: slice literals; all operations together.
-/
import Derived.Test.YtpgaobdgohlegaaEvL
namespace Go.Ev
open Go.RowKit

section ops
variable {ρ : Type} {P : Program} {w0 w : World} {S0 S : Nat → Prop} {B : Ctx} {β : Bet} {og : Nat → Option Nat} {st : St} {a : Act} {o : Oper} {site : Nat} {y : Eff → Option ρ} {r : ρ}
  {K : Act → World → Prop} {Q : Exit → Act → World → Prop}

theorem flat_set_w {n : Nat} : ∀ (es : List AV) (i : Nat) (x : AV), (∀ e ∈ es, e.cells.length = n) → x.cells.length = n → i < es.length → flat (es.set i x) = (flat es).take (i * n) ++ x.cells ++ (flat es).drop (i * n + n)
  | [], i, x, _, _, h => by simp at h
  | e :: es, 0, x, hs, hx, _ => by
    have hw := hs e (by simp)
    simp only [List.set_cons_zero, flat, List.flatMap_cons, Nat.zero_mul, List.take_zero, List.nil_append, Nat.zero_add, ← hw]
    simp
  | e :: es, i + 1, x, hs, hx, h => by
    have hw := hs e (by simp)
    have ih := flat_set_w es i x (fun y hy => hs y (by simp [hy])) hx (by simpa using h)
    simp only [List.set_cons_succ]
    simp only [flat, List.flatMap_cons] at ih ⊢
    have e1 : (i + 1) * n = e.cells.length + i * n := by rw [hw, Nat.add_mul, Nat.one_mul, Nat.add_comm]
    have e2 : e.cells.length + i * n + n = e.cells.length + (i * n + n) := by omega
    rw [ih, e1, e2, List.take_length_add_append, List.drop_length_add_append]
    simp
theorem flat_length_w {n : Nat} : ∀ (es : List AV), (∀ e ∈ es, e.cells.length = n) → (flat es).length = es.length * n
  | [], _ => by simp [flat]
  | e :: es, h => by
    have h1 := h e (by simp)
    have h2 := flat_length_w (n := n) es (fun x hx => h x (by simp [hx]))
    simp only [flat, List.flatMap_cons, List.length_append, List.length_cons] at h2 ⊢
    rw [h1, h2, Nat.add_mul, Nat.one_mul, Nat.add_comm]

theorem hasSh_laid {s : Sh} {v : AV} (h : hasSh s v = true) : v.laidB = true := by
  cases s <;> cases v <;> simp [hasSh, has1] at h <;> rfl

theorem fillE_sound {s : Sh} : ∀ (parts : List (Nat × AV)) (parts' : List (Nat × Value)) (es es' : List AV) (vs : List Value), fillE s es parts = some es' → parts.map (·.1) = parts'.map (·.1) → VRels w S nob (parts.map (·.2)) (parts'.map (·.2)) →
      (∀ e ∈ es, e.cells.length = s.width) → VRels w S nob (flat es) vs → (∀ u ∈ vs, u.oneCell' = true) →
      ∃ vs', Instr.fill (fun i => some (i * s.width, s.width)) vs.toArray parts' = some vs'.toArray ∧ VRels w S nob (flat es') vs' ∧ (∀ u ∈ vs', u.oneCell' = true) ∧ es'.length = es.length
  | [], [], es, es', vs, h, _, _, _, hv, h1 => by simp [fillE] at h; subst h; exact ⟨vs, rfl, hv, h1, rfl⟩
  | [], _ :: _, _, _, _, _, hm, _, _, _, _ => by simp at hm
  | _ :: _, [], _, _, _, _, hm, _, _, _, _ => by simp at hm
  | (i, v) :: parts, (i', u) :: parts', es, es', vs, h, hm, hp, hw, hv, h1 => by
    simp only [List.map_cons, List.cons.injEq] at hm
    obtain ⟨hii, hm'⟩ := hm
    subst hii
    simp only [List.map_cons] at hp
    obtain ⟨u', us', he, hvu, hps⟩ := hp.inv
    simp only [List.cons.injEq] at he
    obtain ⟨rfl, rfl⟩ := he
    simp only [fillE] at h
    split at h
    · rename_i hc
      simp only [Bool.and_eq_true] at hc
      obtain ⟨hsh, hlt⟩ := hc
      have hi : i < es.length := by simpa [Nat.blt_eq] using hlt
      have hvw := hasSh_width s v hsh
      obtain ⟨us, huc, hus, hu1⟩ := hvu.laid (hasSh_laid hsh) (fun _ _ h => by cases h)
      have hul : us.length = s.width := by rw [hus.1]; exact hvw
      have hfl := flat_length_w es hw
      have hb : i * s.width + s.width ≤ es.length * s.width := by
        have : (i + 1) * s.width ≤ es.length * s.width := Nat.mul_le_mul_right _ hi
        rwa [Nat.add_mul, Nat.one_mul] at this
      have hvl : vs.length = es.length * s.width := by rw [hv.1, hfl]
      have hset : VRels w S nob (flat (es.set i v)) (vs.take (i * s.width) ++ us ++ vs.drop (i * s.width + us.length)) := by
        rw [flat_set_w es i v hw hvw hi, hul]
        exact ((hv.take _).append hus).append (hv.drop _)
      have h1' : ∀ x ∈ vs.take (i * s.width) ++ us ++ vs.drop (i * s.width + us.length), x.oneCell' = true := by
        intro x hx
        simp only [List.mem_append] at hx
        rcases hx with (hx | hx) | hx
        · exact h1 x (List.mem_of_mem_take hx)
        · exact hu1 x hx
        · exact h1 x (List.mem_of_mem_drop hx)
      obtain ⟨vs', hf, hv', h1'', hl'⟩ := fillE_sound parts parts' _ es' _ h hm' hps (fun e he => by
        rcases List.mem_or_eq_of_mem_set he with h | h
        · exact hw e h
        · rw [h]; exact hvw) hset h1'
      refine ⟨vs', ?_, hv', h1'', by rw [hl', List.length_set]⟩
      have hfold := foldl_set (i * s.width) us 0 vs.toArray (by simp; omega)
      simp only [Nat.add_zero] at hfold
      simp only [Instr.fill, huc]
      have hsz : us.toArray.size = s.width := by simpa using hul
      have hgt : ¬ (i * s.width + us.toArray.size > vs.toArray.size) := by simp; omega
      simp only [hsz, ne_eq, not_true_eq_false, decide_false, Bool.false_or, decide_eq_true_eq]
      rw [hsz] at hgt
      rw [if_neg hgt]
      have hz : us.toArray.zipIdx.foldl (fun cs x => match x with | (c, j) => cs.setIfInBounds (i * s.width + j) c) vs.toArray = (vs.take (i * s.width) ++ us ++ vs.drop (i * s.width + us.length)).toArray := by
        rw [← hfold, ← Array.foldl_toList, Array.toList_zipIdx]
      rw [hz]
      exact hf
    · cases h

theorem op_buildSlice (hR : Rel w S B β og st a) (hO : Out w0 S0 B w S) {rowsV : List (Nat × Row)} (hsub : ∀ id x, lookup rowsV id = some x → lookup st.rows id = some x) (hf : Fresh site st.used) {t e : TypeId} {len : Nat} {parts : Array (Nat × Operand)} {z qs es : List AV} {ids : List Nat} (ho : o.op = .buildSlice t len parts) (ht : P.underlying t = some (.slice e))
    (hel : elemOK P e = true) (hlen : len ≤ 1000) (hce : P.cellsOf e ≤ 1000) (hpos : len ≠ 0) (hz : zeroAV P e = some z) (hq : purL (pur1 rowsV depth) (parts.toList.map fun p => valT P st.tm e p.2) = some (qs, ids))
    (hfill : fillE (shOf P depth e) (List.replicate len (mkAV (shOf P depth e) z)) ((parts.toList.map fun p => p.1).zip qs) = some es) (hall : es.all (hasSh (shOf P depth e)) = true)
    (hy : y { v := .own site, new := some (.arr false (shOf P depth e) e es none), imm := ids } = some r) (hK : Good w0 S0 B site o st y r K) : o.wp P a w K Q := by
  obtain ⟨i, zv, hi, hzv, hiw, hipos, hzs, hby, _⟩ := elemOK_spec hel
  obtain ⟨i', v, hi', hv, hl, rfl⟩ := zeroAV_spec hz
  rw [hi] at hi'
  cases hi'
  rw [hzv] at hv
  cases hv
  have hsz : P.cellsOf e = i.size := by simp [Program.cellsOf, hi]
  have hrow : ∀ id x, lookup rowsV id = some x → RowRel w S B β id (og id) x := fun id x hx => hR.row id x (hsub _ _ hx)
  have hpv : VRels w S β (parts.toList.map fun p => valT P st.tm e p.2) (parts.toList.map fun p => a.eval p.2) := by
    refine ⟨by simp, fun j c u hc hu => ?_⟩
    simp only [List.getElem?_map] at hc hu
    cases hj : parts.toList[j]? with
    | none => simp [hj] at hc
    | some p => simp [hj] at hc hu; subst hc; subst hu; exact valT_rel hR.tm P _ _
  have hpq := purL_sound (w := w) (S := S) (β := β) (og := og) (f := pur1 rowsV depth) (pur1_sound hrow depth) _ _ _ hq hpv
  have hin : ∀ id ∈ ids, ∃ r, lookup st.rows id = some r := fun id hid => by obtain ⟨r, hr⟩ := purL_in (rows := rowsV) (pur1_in depth) _ _ hq id hid; exact ⟨r, hsub _ _ hr⟩
  have hFr := hR.freeze ids
  have hOF := hO.freeze hR ids hin
  obtain ⟨zs, hzc, hzvs, hz1⟩ := (ofVal_rel (w := w) (S := With S og ids) (β := nob) (shOf P depth e) zv).laid hl (fun _ _ h => by cases h)
  have hzl : zs.length = i.size := by rw [← hzs, hzc]; simp
  have hzl' : (ofVal (shOf P depth e) zv).cells.length = (shOf P depth e).width := by rw [← hzvs.1, hzl, hiw]
  have hmk := mkAV_zero hzl' (ofVal_cells _ _)
  have hflat0 : flat (List.replicate len (mkAV (shOf P depth e) (ofVal (shOf P depth e) zv).cells)) = (List.replicate len (ofVal (shOf P depth e) zv).cells).flatten := by
    simp [flat, List.flatMap_replicate, hmk]
  have hv0 : VRels w (With S og ids) nob (flat (List.replicate len (mkAV (shOf P depth e) (ofVal (shOf P depth e) zv).cells))) (List.replicate len zs).flatten := by rw [hflat0]; exact hzvs.rep len
  have hql : qs.length = parts.toList.length := by rw [← hpq.1]; simp
  obtain ⟨vs', hfl, hvr, h1', hel'⟩ := fillE_sound (s := shOf P depth e) _ (parts.toList.map fun p => (p.1, a.eval p.2)) _ es (List.replicate len zs).flatten hfill
    (by rw [List.map_map, List.map_fst_zip (by simp [hql])]; rfl)
    (by rw [List.map_map, List.map_snd_zip (by simp [hql])]; exact hpq)
    (fun x hx => by rw [(List.mem_replicate.1 hx).2, hmk]; exact hzl') hv0 (fun u hu => by
      obtain ⟨l, hl, hul⟩ := List.mem_flatten.1 hu
      rw [(List.mem_replicate.1 hl).2] at hul
      exact hz1 u hul)
  have hesl : es.length = len := by rw [hel']; simp
  have hsh : ∀ x ∈ es, hasSh (shOf P depth e) x = true := by simpa using hall
  have hvl : vs'.length = len * (shOf P depth e).width := by rw [hvr.1, flat_length es hsh, hesl]
  have hb := below_alloc w (.cells vs'.toArray e)
  have hlt : ∀ b, With S og ids b → b < (w.alloc (.cells vs'.toArray e)).heap.size := fun b hs => by have := hFr.Slt b hs; simp; omega
  have hN := hFr.new site hf o.dst hb (S' := With S og ids) (fun _ h => h) (fun _ _ h => h) hlt (x := .slice (some ⟨w.heap.size, 0, none⟩) len len) (wd := (shOf P depth e).width) (o := some w.heap.size) rfl (fun g hg => by cases hg; simp)
    (r := .arr false (shOf P depth e) e es none) (v := .own site) (u := .slice (some ⟨w.heap.size, 0, none⟩) len len)
    ⟨by rw [← hiw]; exact hipos, _, [], vs', by simpa using hsh, (fun c h => by cases h), upd_same _ _ _, h1', by rw [List.append_nil]; exact hvr.mono (fun _ h => h) (fun b hs => hb.block b (hFr.Slt b hs)) (fun _ _ h => h), .inr ⟨w.heap.size, rfl, by rw [hesl]; rfl, fun h => Nat.lt_irrefl _ (hR.Ble _ h), heap_alloc_new w _, by simp only [maxLen, List.length_nil]; omega,
      fun _ hs => absurd (hFr.Slt _ hs) (Nat.lt_irrefl _), (fun h => by cases h)⟩⟩ (.own _ site _ _ (upd_same _ _ _))
  have happ : apply site o.dst { v := AV.own site, new := some (.arr false (shOf P depth e) e es none), imm := ids } st = ⟨putTm st.tm o.dst (.own site), setRow (setImm ids st.rows) site (.arr false (shOf P depth e) e es none), site :: st.used⟩ := by
    simp only [apply, applyRows, List.foldl_nil, List.map_nil, List.nil_append]
    cases ids with
    | nil => rw [setImm_nil]
    | cons i is => rfl
  refine wp_value (u := .slice (some ⟨w.heap.size, 0, none⟩) len len) (w' := w.alloc (.cells vs'.toArray e)) ?_ (hK _ _ _ hy ⟨_, _, _, by rw [happ]; exact hN, hOF.grow hFr.Ble hb⟩)
  have hmap : (parts.map fun p => (p.1, a.eval p.2)) = (parts.toList.map fun p => (p.1, a.eval p.2)).toArray := by apply Array.ext'; simp
  have hn24 : ¬ (len * i.size > 2 ^ 24) := by
    have : len * i.size ≤ 1000 * 1000 := Nat.mul_le_mul hlen (by rw [← hsz]; exact hce)
    omega
  have hn0 : ¬ (len * i.size = 0) := by
    intro h
    rcases Nat.mul_eq_zero.1 h with h | h
    · exact hpos h
    · omega
  have hinit : (Array.range (len * i.size)).map (fun j => zv.cells[j % zv.cells.size]!) = ((List.replicate len zs).flatten).toArray := by
    apply Array.ext'
    have hr := range_rep zs (default : Value) i.size hzl hipos len
    rw [← hr, hzc]
    have : zs.toArray.size = i.size := by simpa using hzl
    simp only [Array.toList_map, Array.toList_range, this]
    apply List.map_congr_left
    intro j _
    simp [List.getD]
  rw [← hiw] at hfl
  simp only [execOp, ho, Instr.buildSlice, Sem.run_bind, run_underlying ht, Result.andThen_ok, sizeOf, typeInfo, run_program, hi, Sem.run_pure, hn24, if_false, hn0, zeroValue, hzv, hinit, hmap, hfl, newRow, run_newObj]
  rfl

theorem op_buildSlice0 (hR : Rel w S B β og st a) (hO : Out w0 S0 B w S) {t e : TypeId} {parts : Array (Nat × Operand)} {s : Sh} (ho : o.op = .buildSlice t 0 parts) (ht : P.underlying t = some (.slice e)) (hi : (P.info? e).isSome = true) (hp : parts.size = 0)
    (hy : y { v := .slz s } = some r) (hK : Good w0 S0 B site o st y r K) : o.wp P a w K Q := by
  obtain ⟨i, hi⟩ := Option.isSome_iff_exists.1 hi
  have hpe : parts = #[] := Array.eq_empty_of_size_eq_zero hp
  subst hpe
  have hb := below_alloc w (.cells #[] e)
  have hG := hR.grow hb (S' := S) (fun _ h => h) (fun _ _ h => h) (fun b hs => by have := hR.Slt b hs; simp; omega)
  refine wp_value (u := .slice (some ⟨w.heap.size, 0, none⟩) 0 0) (w' := w.alloc (.cells #[] e)) ?_ (hK _ _ _ hy ⟨S, β, og, hG.put o.dst (.slz _ s _), hO.grow hR.Ble hb⟩)
  simp [execOp, ho, Instr.buildSlice, run_underlying ht, sizeOf, typeInfo, hi, Instr.fill, newRow]
  have hr0 : Array.range 0 = #[] := rfl
  simp [hr0]

end ops
end Go.Ev
