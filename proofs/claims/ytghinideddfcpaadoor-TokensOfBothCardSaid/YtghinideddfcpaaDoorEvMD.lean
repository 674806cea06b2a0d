/-
  What is known of a function that is handed rows; such a call.
-/
import Derived.Test.YtghinideddfcpaaDoorEvL
import Derived.IntWalk
import Derived.Laws.MakeOwn
import Derived.Lib.ConvBytes
import Derived.Laws.BytesString
import Derived.RangeFuncRecord
/-
  The operations: slice literals; all operations together.
-/
namespace Go.Ev
open Go.RowKit

section ops
variable {R : Option Nat} {ρ : Type} {P : Program} {w0 w : World} {S0 S : Nat → Prop} {B : Ctx} {β : Bet} {og : Nat → Option Nat} {st : St} {a : Act} {o : Oper} {site : Nat} {y : Eff → Option ρ} {r : ρ}
  {K : Act → World → Prop} {Q : Exit → Act → World → Prop}

theorem flat_set_w {n : Nat} : ∀ (es : List AV) (i : Nat) (x : AV), (∀ e ∈ es, e.cells.length = n) → x.cells.length = n → i < es.length → flat (es.set i x) = (flat es).take (i * n) ++ x.cells ++ (flat es).drop (i * n + n)
  | [], i, x, _, _, h => by simp at h
  | e :: es, 0, x, hs, hx, _ => by
    have hw := hs e (by simp)
    simp only [List.set_cons_zero, flat, List.flatMap_cons, Nat.zero_mul, List.take_zero, List.nil_append, Nat.zero_add, ← hw]
    simp
  | e :: es, i + 1, x, hs, hx, h => by
    have hw := hs e (by simp)
    have ih := flat_set_w es i x (fun y hy => hs y (by simp [hy])) hx (by simpa using h)
    simp only [List.set_cons_succ]
    simp only [flat, List.flatMap_cons] at ih ⊢
    have e1 : (i + 1) * n = e.cells.length + i * n := by rw [hw, Nat.add_mul, Nat.one_mul, Nat.add_comm]
    have e2 : e.cells.length + i * n + n = e.cells.length + (i * n + n) := by omega
    rw [ih, e1, e2, List.take_length_add_append, List.drop_length_add_append]
    simp
theorem flat_length_w {n : Nat} : ∀ (es : List AV), (∀ e ∈ es, e.cells.length = n) → (flat es).length = es.length * n
  | [], _ => by simp [flat]
  | e :: es, h => by
    have h1 := h e (by simp)
    have h2 := flat_length_w (n := n) es (fun x hx => h x (by simp [hx]))
    simp only [flat, List.flatMap_cons, List.length_append, List.length_cons] at h2 ⊢
    rw [h1, h2, Nat.add_mul, Nat.one_mul, Nat.add_comm]

theorem hasSh_laid {s : Sh} {v : AV} (h : hasSh s v = true) : v.laidB = true := by
  cases s <;> cases v <;> simp [hasSh, has1] at h <;> rfl

theorem fillE_sound {s : Sh} : ∀ (parts : List (Nat × AV)) (parts' : List (Nat × Value)) (es es' : List AV) (vs : List Value), fillE s es parts = some es' → parts.map (·.1) = parts'.map (·.1) → VRels w S nob (parts.map (·.2)) (parts'.map (·.2)) →
      (∀ e ∈ es, e.cells.length = s.width) → VRels w S nob (flat es) vs → (∀ u ∈ vs, u.oneCell' = true) →
      ∃ vs', Instr.fill (fun i => some (i * s.width, s.width)) vs.toArray parts' = some vs'.toArray ∧ VRels w S nob (flat es') vs' ∧ (∀ u ∈ vs', u.oneCell' = true) ∧ es'.length = es.length
  | [], [], es, es', vs, h, _, _, _, hv, h1 => by simp [fillE] at h; subst h; exact ⟨vs, rfl, hv, h1, rfl⟩
  | [], _ :: _, _, _, _, _, hm, _, _, _, _ => by simp at hm
  | _ :: _, [], _, _, _, _, hm, _, _, _, _ => by simp at hm
  | (i, v) :: parts, (i', u) :: parts', es, es', vs, h, hm, hp, hw, hv, h1 => by
    simp only [List.map_cons, List.cons.injEq] at hm
    obtain ⟨hii, hm'⟩ := hm
    subst hii
    simp only [List.map_cons] at hp
    obtain ⟨u', us', he, hvu, hps⟩ := hp.inv
    simp only [List.cons.injEq] at he
    obtain ⟨rfl, rfl⟩ := he
    simp only [fillE] at h
    split at h
    · rename_i hc
      simp only [Bool.and_eq_true] at hc
      obtain ⟨hsh, hlt⟩ := hc
      have hi : i < es.length := by simpa [Nat.blt_eq] using hlt
      have hvw := hasSh_width s v hsh
      obtain ⟨us, huc, hus, hu1⟩ := hvu.laid (hasSh_laid hsh) (fun _ _ h => by cases h)
      have hul : us.length = s.width := by rw [hus.1]; exact hvw
      have hfl := flat_length_w es hw
      have hb : i * s.width + s.width ≤ es.length * s.width := by
        have : (i + 1) * s.width ≤ es.length * s.width := Nat.mul_le_mul_right _ hi
        rwa [Nat.add_mul, Nat.one_mul] at this
      have hvl : vs.length = es.length * s.width := by rw [hv.1, hfl]
      have hset : VRels w S nob (flat (es.set i v)) (vs.take (i * s.width) ++ us ++ vs.drop (i * s.width + us.length)) := by
        rw [flat_set_w es i v hw hvw hi, hul]
        exact ((hv.take _).append hus).append (hv.drop _)
      have h1' : ∀ x ∈ vs.take (i * s.width) ++ us ++ vs.drop (i * s.width + us.length), x.oneCell' = true := by
        intro x hx
        simp only [List.mem_append] at hx
        rcases hx with (hx | hx) | hx
        · exact h1 x (List.mem_of_mem_take hx)
        · exact hu1 x hx
        · exact h1 x (List.mem_of_mem_drop hx)
      obtain ⟨vs', hf, hv', h1'', hl'⟩ := fillE_sound parts parts' _ es' _ h hm' hps (fun e he => by
        rcases List.mem_or_eq_of_mem_set he with h | h
        · exact hw e h
        · rw [h]; exact hvw) hset h1'
      refine ⟨vs', ?_, hv', h1'', by rw [hl', List.length_set]⟩
      have hfold := foldl_set (i * s.width) us 0 vs.toArray (by simp; omega)
      simp only [Nat.add_zero] at hfold
      simp only [Instr.fill, huc]
      have hsz : us.toArray.size = s.width := by simpa using hul
      have hgt : ¬ (i * s.width + us.toArray.size > vs.toArray.size) := by simp; omega
      simp only [hsz, ne_eq, not_true_eq_false, decide_false, Bool.false_or, decide_eq_true_eq]
      rw [hsz] at hgt
      rw [if_neg hgt]
      have hz : us.toArray.zipIdx.foldl (fun cs x => match x with | (c, j) => cs.setIfInBounds (i * s.width + j) c) vs.toArray = (vs.take (i * s.width) ++ us ++ vs.drop (i * s.width + us.length)).toArray := by
        rw [← hfold, ← Array.foldl_toList, Array.toList_zipIdx]
      rw [hz]
      exact hf
    · cases h

theorem op_buildSlice (hR : Rel w S B β og st a) (hO : Out w0 S0 B w S) {rowsV : List (Nat × Row)} (hsub : ∀ id x, lookup rowsV id = some x → lookup st.rows id = some x) (hf : Fresh site st.used) {t e : TypeId} {len : Nat} {parts : Array (Nat × Operand)} {z qs es : List AV} {ids : List Nat} (ho : o.op = .buildSlice t len parts) (ht : P.underlying t = some (.slice e))
    (hel : elemOK P e = true) (hlen : len ≤ 1000) (hce : P.cellsOf e ≤ 1000) (hpos : len ≠ 0) (hz : zeroAV P e = some z) (hq : purL (pur1 rowsV depth) (parts.toList.map fun p => valT P st.tm e p.2) = some (qs, ids))
    (hfill : fillE (shOf P depth e) (List.replicate len (mkAV (shOf P depth e) z)) ((parts.toList.map fun p => p.1).zip qs) = some es) (hall : es.all (hasSh (shOf P depth e)) = true)
    (hy : y { v := .own site, new := some (.arr false (shOf P depth e) e es none), imm := ids } = some r) (hK : Good w0 S0 B site o st y r K) : o.wpR R P a w K Q := by
  obtain ⟨i, zv, hi, hzv, hiw, hipos, hzs, hby, _⟩ := elemOK_spec hel
  obtain ⟨i', v, hi', hv, hl, rfl⟩ := zeroAV_spec hz
  rw [hi] at hi'
  cases hi'
  rw [hzv] at hv
  cases hv
  have hsz : P.cellsOf e = i.size := by simp [Program.cellsOf, hi]
  have hrow : ∀ id x, lookup rowsV id = some x → RowRel w S B β id (og id) x := fun id x hx => hR.row id x (hsub _ _ hx)
  have hpv : VRels w S β (parts.toList.map fun p => valT P st.tm e p.2) (parts.toList.map fun p => a.eval p.2) := by
    refine ⟨by simp, fun j c u hc hu => ?_⟩
    simp only [List.getElem?_map] at hc hu
    cases hj : parts.toList[j]? with
    | none => simp [hj] at hc
    | some p => simp [hj] at hc hu; subst hc; subst hu; exact valT_rel hR.tm P _ _
  have hpq := purL_sound (w := w) (S := S) (β := β) (og := og) (f := pur1 rowsV depth) (pur1_sound hrow depth) _ _ _ hq hpv
  have hin : ∀ id ∈ ids, ∃ r, lookup st.rows id = some r := fun id hid => by obtain ⟨r, hr⟩ := purL_in (rows := rowsV) (pur1_in depth) _ _ hq id hid; exact ⟨r, hsub _ _ hr⟩
  have hFr := hR.freeze ids
  have hOF := hO.freeze hR ids hin
  obtain ⟨zs, hzc, hzvs, hz1⟩ := (ofVal_rel (w := w) (S := With S og ids) (β := nob) (shOf P depth e) zv).laid hl (fun _ _ h => by cases h)
  have hzl : zs.length = i.size := by rw [← hzs, hzc]; simp
  have hzl' : (ofVal (shOf P depth e) zv).cells.length = (shOf P depth e).width := by rw [← hzvs.1, hzl, hiw]
  have hmk := mkAV_zero hzl' (ofVal_cells _ _)
  have hflat0 : flat (List.replicate len (mkAV (shOf P depth e) (ofVal (shOf P depth e) zv).cells)) = (List.replicate len (ofVal (shOf P depth e) zv).cells).flatten := by
    simp [flat, List.flatMap_replicate, hmk]
  have hv0 : VRels w (With S og ids) nob (flat (List.replicate len (mkAV (shOf P depth e) (ofVal (shOf P depth e) zv).cells))) (List.replicate len zs).flatten := by rw [hflat0]; exact hzvs.rep len
  have hql : qs.length = parts.toList.length := by rw [← hpq.1]; simp
  obtain ⟨vs', hfl, hvr, h1', hel'⟩ := fillE_sound (s := shOf P depth e) _ (parts.toList.map fun p => (p.1, a.eval p.2)) _ es (List.replicate len zs).flatten hfill
    (by rw [List.map_map, List.map_fst_zip (by simp [hql])]; rfl)
    (by rw [List.map_map, List.map_snd_zip (by simp [hql])]; exact hpq)
    (fun x hx => by rw [(List.mem_replicate.1 hx).2, hmk]; exact hzl') hv0 (fun u hu => by
      obtain ⟨l, hl, hul⟩ := List.mem_flatten.1 hu
      rw [(List.mem_replicate.1 hl).2] at hul
      exact hz1 u hul)
  have hesl : es.length = len := by rw [hel']; simp
  have hsh : ∀ x ∈ es, hasSh (shOf P depth e) x = true := by simpa using hall
  have hvl : vs'.length = len * (shOf P depth e).width := by rw [hvr.1, flat_length es hsh, hesl]
  have hb := below_alloc w (.cells vs'.toArray e)
  have hlt : ∀ b, With S og ids b → b < (w.alloc (.cells vs'.toArray e)).heap.size := fun b hs => by have := hFr.Slt b hs; simp; omega
  have hN := hFr.new site hf o.dst hb (S' := With S og ids) (fun _ h => h) (fun _ _ h => h) hlt (x := .slice (some ⟨w.heap.size, 0, none⟩) len len) (wd := (shOf P depth e).width) (o := some w.heap.size) rfl (fun g hg => by cases hg; simp)
    (r := .arr false (shOf P depth e) e es none) (v := .own site) (u := .slice (some ⟨w.heap.size, 0, none⟩) len len)
    ⟨by rw [← hiw]; exact hipos, _, [], vs', by simpa using hsh, (fun c h => by cases h), upd_same _ _ _, h1', by rw [List.append_nil]; exact hvr.mono (fun _ h => h) (fun b hs => hb.block b (hFr.Slt b hs)) (fun _ _ h => h), .inr ⟨w.heap.size, rfl, by rw [hesl]; rfl, fun h => Nat.lt_irrefl _ (hR.Ble _ h), Lies.plain (heap_alloc_new w _), by simp only [maxLen, List.length_nil]; omega,
      fun _ hs => absurd (hFr.Slt _ hs) (Nat.lt_irrefl _), (fun h => by cases h)⟩⟩ (.own _ site _ _ (upd_same _ _ _))
  have happ : apply site o.dst { v := AV.own site, new := some (.arr false (shOf P depth e) e es none), imm := ids } st = ⟨putTm st.tm o.dst (.own site), setRow (setImm ids st.rows) site (.arr false (shOf P depth e) e es none), site :: st.used⟩ := by
    simp only [apply, applyRows, List.foldl_nil, List.map_nil, List.nil_append]
    cases ids with
    | nil => rw [setImm_nil]
    | cons i is => rfl
  refine wp_value (u := .slice (some ⟨w.heap.size, 0, none⟩) len len) (w' := w.alloc (.cells vs'.toArray e)) ?_ (hK _ _ _ hy ⟨_, _, _, by rw [happ]; exact hN, hOF.grow hFr.Ble hb⟩)
  have hmap : (parts.map fun p => (p.1, a.eval p.2)) = (parts.toList.map fun p => (p.1, a.eval p.2)).toArray := by apply Array.ext'; simp
  have hn24 : ¬ (len * i.size > 2 ^ 24) := by
    have : len * i.size ≤ 1000 * 1000 := Nat.mul_le_mul hlen (by rw [← hsz]; exact hce)
    omega
  have hn0 : ¬ (len * i.size = 0) := by
    intro h
    rcases Nat.mul_eq_zero.1 h with h | h
    · exact hpos h
    · omega
  have hinit : (Array.range (len * i.size)).map (fun j => zv.cells[j % zv.cells.size]!) = ((List.replicate len zs).flatten).toArray := by
    apply Array.ext'
    have hr := range_rep zs (default : Value) i.size hzl hipos len
    rw [← hr, hzc]
    have : zs.toArray.size = i.size := by simpa using hzl
    simp only [Array.toList_map, Array.toList_range, this]
    apply List.map_congr_left
    intro j _
    simp [List.getD]
  rw [← hiw] at hfl
  simp only [execOp, ho, Instr.buildSlice, Sem.run_bind, run_underlying ht, Result.andThen_ok, sizeOf, typeInfo, run_program, hi, Sem.run_pure, hn24, if_false, hn0, zeroValue, hzv, hinit, hmap, hfl, newRow, run_newObj]
  rfl

theorem op_buildSlice0 (hR : Rel w S B β og st a) (hO : Out w0 S0 B w S) {t e : TypeId} {parts : Array (Nat × Operand)} {s : Sh} (ho : o.op = .buildSlice t 0 parts) (ht : P.underlying t = some (.slice e)) (hi : (P.info? e).isSome = true) (hp : parts.size = 0)
    (hy : y { v := .slz s } = some r) (hK : Good w0 S0 B site o st y r K) : o.wpR R P a w K Q := by
  obtain ⟨i, hi⟩ := Option.isSome_iff_exists.1 hi
  have hpe : parts = #[] := Array.eq_empty_of_size_eq_zero hp
  subst hpe
  have hb := below_alloc w (.cells #[] e)
  have hG := hR.grow hb (S' := S) (fun _ h => h) (fun _ _ h => h) (fun b hs => by have := hR.Slt b hs; simp; omega)
  refine wp_value (u := .slice (some ⟨w.heap.size, 0, none⟩) 0 0) (w' := w.alloc (.cells #[] e)) ?_ (hK _ _ _ hy ⟨S, β, og, hG.put o.dst (.slz _ s _), hO.grow hR.Ble hb⟩)
  simp [execOp, ho, Instr.buildSlice, run_underlying ht, sizeOf, typeInfo, hi, Instr.fill, newRow]
  have hr0 : Array.range 0 = #[] := rfl
  simp [hr0]

end ops
end Go.Ev

/-
  The operations on parts of slices of the call's own: parts, indexes, capacities, copies.
-/
namespace Go.Ev
open Go.RowKit

section ops
variable {R : Option Nat} {ρ : Type} {P : Program} {w0 w : World} {S0 S : Nat → Prop} {B : Ctx} {β : Bet} {og : Nat → Option Nat} {st : St} {a : Act} {o : Oper} {site : Nat} {y : Eff → Option ρ} {r : ρ}
  {K : Act → World → Prop} {Q : Exit → Act → World → Prop}

/-- The slice that a row is. -/
theorem arr_val {B : Nat → Prop} {id : Nat} {o : Option Nat} {im : Bool} {s : Sh} {e : TypeId} {es : List AV} {csp : Option (List AV)} (h : RowRel w S B β id o (.arr im s e es csp)) :
    ∃ A c, β id = some (.slice A es.length c, s.width) ∧ es.length ≤ c ∧ (∀ l, csp = some l → c = es.length + l.length) ∧ (0 < c → ∃ g, A = some ⟨g, 0, none⟩ ∧ o = some g) := by
  obtain ⟨hp, v, sp, xs, hshS, hcs, hbt, h1, hvs, hor⟩ := h
  rcases hor with ⟨rfl, rfl, _, A, rfl⟩ | ⟨g, ho, rfl, _⟩
  · exact ⟨A, 0, hbt, Nat.le_refl _, fun l hl => by rw [hcs l hl]; rfl, fun h => absurd h (Nat.lt_irrefl _)⟩
  · exact ⟨_, _, hbt, by omega, fun l hl => by rw [hcs l hl], fun _ => ⟨g, rfl, ho⟩⟩

theorem own_val {id : Nat} {v u : Value} {wd : Nat} (hb : β id = some (v, wd)) (h : VRel w S β (.own id) u) : u = v := by
  cases h with
  | own _ _ _ wd' hb' => rw [hb] at hb'; simp only [Option.some.injEq, Prod.mk.injEq] at hb'; exact hb'.1.symm
theorem sub_val {id lo n len c wd : Nat} {A : Option Addr} {u : Value} (hb : β id = some (.slice A len c, wd)) (h : VRel w S β (.sub id lo n) u) : u = .slice (if c = lo then A else A.map (·.add (lo * wd))) n (c - lo) := by
  cases h with
  | sub _ _ _ _ A' n' c' wd' hb' => rw [hb] at hb'; simp only [Option.some.injEq, Prod.mk.injEq, Value.slice.injEq] at hb'; obtain ⟨⟨rfl, rfl, rfl⟩, rfl⟩ := hb'; rfl

theorem op_slice_sub (hR : Rel w S B β og st a) (hO : Out w0 S0 B w S) {t e e' : TypeId} {x : Operand} {lo hi : Option Operand} {id : Nat} {im : Bool} {s : Sh} {es : List AV} {csp : Option (List AV)} (ho : o.op = .slice t x lo hi none) (ht : P.underlying t = some (.slice e)) (hx : val st.tm x = .own id)
    (hl : lookup st.rows id = some (.arr im s e' es csp)) (hsz : sizeOK P e s = true) (hlo : optIsInt (lo.map (val st.tm)) = true) (hh : optIsInt (hi.map (val st.tm)) = true) (hb : slb (optInt (lo.map (val st.tm)) 0) (optInt (hi.map (val st.tm)) es.length) es.length = true)
    (hy : y { v := .sub id (optInt (lo.map (val st.tm)) 0).toNat ((optInt (hi.map (val st.tm)) es.length).toNat - (optInt (lo.map (val st.tm)) 0).toNat) } = some r) (hK : Good w0 S0 B site o st y r K) : o.wpR R P a w K Q := by
  have h := val_rel hR.tm x
  rw [hx] at h
  obtain ⟨A, c, hbt, hc, _, _⟩ := arr_val (hR.row id _ hl)
  have he := own_val hbt h
  obtain ⟨i, hi', hiw⟩ := sizeOK_spec hsz
  refine op_slot hR hO (.sub _ id _ _ A es.length c s.width hbt) hy hK ?_
  have hbd := run_bounds (P := P) (w := w) hR.tm hlo hh true es.length c hc hb
  simp [execOp, ho, he, Instr.sliceAt, run_underlying ht, Instr.slice, hbd, sizeOf, typeInfo, hi', hiw]

theorem op_slice_ext (hR : Rel w S B β og st a) (hO : Out w0 S0 B w S) (hf : Fresh site st.used) {t e e' : TypeId} {x : Operand} {hi : Option Operand} {id : Nat} {s : Sh} {es l : List AV} (ho : o.op = .slice t x none hi none) (ht : P.underlying t = some (.slice e)) (hx : val st.tm x = .own id)
    (hl : lookup st.rows id = some (.arr false s e' es (some l))) (hsz : sizeOK P e s = true) (hh : optIsInt (hi.map (val st.tm)) = true) (h1 : (es.length : Int) ≤ optInt (hi.map (val st.tm)) es.length) (h2 : optInt (hi.map (val st.tm)) es.length ≤ (es.length : Int) + l.length)
    (hy : y { v := .own site, new := some (.arr false s e' (es ++ l.take ((optInt (hi.map (val st.tm)) es.length).toNat - es.length)) (some (l.drop ((optInt (hi.map (val st.tm)) es.length).toNat - es.length)))), del := some id } = some r) (hK : Good w0 S0 B site o st y r K) : o.wpR R P a w K Q := by
  have h := val_rel hR.tm x
  rw [hx] at h
  obtain ⟨hp, v, sp, xs, hshS, hcs, hbt, h1c, hvs, hor⟩ := hR.row id _ hl
  have hlsp : l = sp := hcs l rfl
  subst hlsp
  have he := own_val hbt h
  obtain ⟨i, hi', hiw⟩ := sizeOK_spec hsz
  generalize hn : optInt (hi.map (val st.tm)) es.length = n at *
  have hsplit : (es ++ l.take (n.toNat - es.length)) ++ l.drop (n.toNat - es.length) = es ++ l := by rw [List.append_assoc, List.take_append_drop]
  have hlen : (es ++ l.take (n.toNat - es.length)).length = n.toNat := by simp; omega
  have hlen2 : (l.drop (n.toNat - es.length)).length = es.length + l.length - n.toNat := by simp; omega
  have hrunB : ∀ (A : Option Addr), (Instr.sliceBounds true es.length (es.length + l.length) none (hi.map a.eval) none).run P w = .ok (0, n.toNat, es.length + l.length) w := by
    intro A
    rcases optInt_some hR.tm hh es.length with ⟨rfl, e1⟩ | ⟨z, k, rfl, e1⟩
    · rw [hn] at e1
      subst e1
      simp [Instr.sliceBounds]
    · rw [hn] at e1
      have hb := fun c => run_sliceBound (P := P) (w := w) (k := k) (n := n) (m := es.length + l.length) c (by omega) (by omega)
      simp [Instr.sliceBounds, e1, hb]
  rcases hor with ⟨he0, hsp0, hogn, A, rfl⟩ | ⟨g, hog, rfl, hBg, hh', hmx, hi1, _⟩
  · subst he0
    subst hsp0
    have hn0 : n = 0 := by simp at h1 h2; omega
    subst hn0
    refine wp_value (u := .slice A 0 0) (w' := w) ?_ (hK _ _ _ hy ⟨S, _, _, hR.moved (id := id) hf o.dst (World.grownBy.refl w _) (fun g hg => by rw [hogn] at hg; cases hg) (x := .slice A 0 0) (wd := s.width) (o' := none) rfl (fun g hg => by cases hg)
      ⟨hp, .slice A 0 0, [], [], by simp, (fun c h => by simp at h; exact h), upd_same _ _ _, by simp, VRels.nil, .inl ⟨rfl, rfl, rfl, A, rfl⟩⟩ (.own _ site _ _ (upd_same _ _ _)), hO⟩)
    have := hrunB A
    simp at this
    simp [execOp, ho, he, Instr.sliceAt, run_underlying ht, Instr.slice, this, sizeOf, typeInfo, hi', hiw]
  · refine wp_value (u := .slice (some ⟨g, 0, none⟩) n.toNat (es.length + l.length)) (w' := w) ?_ (hK _ _ _ hy ⟨S, _, _, hR.moved (id := id) hf o.dst (World.grownBy.refl w _) (fun g' hg' => by rw [hog] at hg'; cases hg'; exact hi1 rfl) (x := .slice (some ⟨g, 0, none⟩) n.toNat (es.length + l.length)) (wd := s.width) (o' := some g) rfl
      (fun x hx => by cases hx; exact ⟨.inl hog, hR.lt id g hog⟩) ?_ (.own _ site _ _ (upd_same _ _ _)), hO⟩)
    · have := hrunB none
      have h0 : (⟨g, 0, none⟩ : Addr).add 0 = ⟨g, 0, none⟩ := by simp [Addr.add]
      simp [execOp, ho, he, Instr.sliceAt, run_underlying ht, Instr.slice, this, sizeOf, typeInfo, hi', hiw, h0]
    · refine ⟨hp, _, l.drop (n.toNat - es.length), xs, by rw [hsplit]; exact hshS, (fun c h => by simp at h; exact h.symm), upd_same _ _ _, h1c, by rw [hsplit]; exact hvs, .inr ⟨g, rfl, ?_, hBg, hh', ?_, hi1, (fun h => by cases h)⟩⟩
      · rw [hlen, hlen2]; congr 1; omega
      · rw [hlen, hlen2]; omega

theorem op_indexAddr_sub (hR : Rel w S B β og st a) (hO : Out w0 S0 B w S) {t e e' : TypeId} {x i : Operand} {id lo len : Nat} {im : Bool} {s : Sh} {es : List AV} {k : IntKind} {n : Int} (ho : o.op = .indexAddr t x i) (ht : P.underlying t = some (.slice e)) (hx : val st.tm x = .sub id lo len)
    {csp : Option (List AV)} (hl : lookup st.rows id = some (.arr im s e' es csp)) (hi : val st.tm i = .int k n)
    (hsz : sizeOK P e s = true) (hb : inb n len = true) (hle : lo + len ≤ es.length) (hy : y { v := .eptr id (lo + n.toNat) 0 } = some r) (hK : Good w0 S0 B site o st y r K) : o.wpR R P a w K Q := by
  have h := val_rel hR.tm x
  rw [hx] at h
  have h' := val_rel hR.tm i
  rw [hi] at h'
  obtain ⟨b0, b1, b2⟩ := inb_spec hb
  obtain ⟨A, c, hbt, hc, _, hA⟩ := arr_val (hR.row id _ hl)
  obtain ⟨g, rfl, _⟩ := hA (by omega)
  have he := sub_val hbt h
  rw [if_neg (by omega)] at he
  obtain ⟨ii, hii, hiw⟩ := sizeOK_spec hsz
  refine op_slot (u := .pointer (some ⟨g, (lo + n.toNat) * s.width + 0, none⟩)) hR hO (.eptr _ id (lo + n.toNat) 0 g _ _ _ hbt) hy hK ?_
  simp [execOp, ho, he, h'.int_inv, Instr.indexAt, asIntOf, run_underlying ht, b0, b1, sizeOf, typeInfo, hii, hiw, add_lit', Nat.add_mul]

theorem op_cap (hR : Rel w S B β og st a) (hO : Out w0 S0 B w S) {rowsV : List (Nat × Row)} (hsub : ∀ id x, lookup rowsV id = some x → lookup st.rows id = some x) {args : Array Operand} {ts : Array TypeId} {t e e' : TypeId} {tr : List TypeId} {id : Nat} {im : Bool} {s : Sh} {es l : List AV}
    (ho : o.op = .call { callee := .builtin .cap, args := args, argTypes := ts }) (hts : ts.toList = t :: tr) (hx : valsT P st.tm ts.toList args.toList = [.own id]) (ht : P.underlying t = some (.slice e)) (hl : lookup rowsV id = some (.arr im s e' es (some l)))
    (hy : y { v := .int .i64 (es.length + l.length) } = some r) (hK : Good w0 S0 B site o st y r K) : o.wpR R P a w K Q := by
  have hv := valsT_rel hR.tm P ts.toList args.toList
  rw [hx] at hv
  obtain ⟨u, us, he, hu, hn⟩ := hv.inv
  rw [hn.inv_nil] at he
  have hm := map_eval args _ he
  have ht0 : ts[0]? = some t := by rw [← Array.getElem?_toList, hts]; rfl
  obtain ⟨A, c, hbt, hc, hcl, _⟩ := arr_val (hR.row id _ (hsub _ _ hl))
  have hcc := hcl l rfl
  subst hcc
  have hu' := own_val hbt hu
  refine op_slot hR hO (.int _ _ _) hy hK ?_
  simp [execOp, ho, resolve, invoke, builtin, hm, Builtin.cap_, ht0, run_underlying ht, goInt, hu']

/-- Elements of a row are written. -/
theorem row_splice {B : Nat → Prop} {id : Nat} {o : Option Nat} {s : Sh} {e : TypeId} {es ds : List AV} {csp : Option (List AV)} (hSlt : ∀ b, S b → b < w.heap.size) (h : RowRel w S B β id o (.arr false s e es csp)) {lo : Nat} {us : List Value} (hds : ∀ x ∈ ds, hasSh s x = true) (hus : VRels w S nob (flat ds) us)
    (h1u : ∀ u ∈ us, u.oneCell' = true) (hle : lo + ds.length ≤ es.length) (hne : ds ≠ []) :
    ∃ g xs c, o = some g ∧ ¬ S g ∧ ¬ B g ∧ β id = some (.slice (some ⟨g, 0, none⟩) es.length c, s.width) ∧ es.length ≤ c ∧ Lies w g (List.toArray xs) e (isB s) ∧ lo * s.width + us.length ≤ xs.length ∧ us.length = ds.length * s.width ∧
      RowRel (w.setRow g (xs.take (lo * s.width) ++ us ++ xs.drop (lo * s.width + us.length)).toArray) S B β id o (.arr false s e (es.take lo ++ (ds ++ es.drop (lo + ds.length))) csp) := by
  obtain ⟨hp, v, sp, xs, hshS, hcs, hbt, h1, hvs, hor⟩ := h
  have hpos : 0 < ds.length := List.length_pos_iff.2 hne
  rcases hor with ⟨rfl, _⟩ | ⟨g, ho, rfl, hBg, hh, hmx, him, _⟩
  · simp at hle; exact absurd hle.2 (by simpa using hne)
  · have hul : us.length = ds.length * s.width := by rw [hus.1, flat_length ds hds]
    have hxl : xs.length = (es.length + sp.length) * s.width := by rw [hvs.1, flat_length _ hshS, List.length_append]
    have hfit : lo * s.width + us.length ≤ xs.length := by
      rw [hul, hxl, ← Nat.add_mul]
      exact Nat.mul_le_mul_right _ (by omega)
    have hgr := grownBy_setRow w g (xs.take (lo * s.width) ++ us ++ xs.drop (lo * s.width + us.length)).toArray
    have hwk : ∀ b, S b → (w.setRow g (xs.take (lo * s.width) ++ us ++ xs.drop (lo * s.width + us.length)).toArray).heap[b]? = w.heap[b]? := fun b hs => hgr.block b (hSlt b hs) (fun e => by cases e; exact him rfl hs)
    have hlen : (es.take lo ++ (ds ++ es.drop (lo + ds.length))).length = es.length := by simp; omega
    refine ⟨g, xs, _, ho, him rfl, hBg, hbt, by omega, hh, hfit, hul, hp, _, sp, xs.take (lo * s.width) ++ us ++ xs.drop (lo * s.width + us.length), fun y hy => ?_, hcs, hbt, fun u hu => ?_, ?_, .inr ⟨g, ho, by rw [hlen], hBg, hh.setRow (by simp only [List.size_toArray, List.length_append, List.length_take, List.length_drop]; omega), by rw [hlen]; exact hmx, fun _ => him rfl, (fun h => by cases h)⟩⟩
    · simp only [List.mem_append] at hy
      rcases hy with (hy | hy | hy) | hy
      · exact hshS y (List.mem_append_left _ (List.mem_of_mem_take hy))
      · exact hds y hy
      · exact hshS y (List.mem_append_left _ (List.mem_of_mem_drop hy))
      · exact hshS y (List.mem_append_right _ hy)
    · simp only [List.mem_append] at hu
      rcases hu with (hu | hu) | hu
      · exact h1 u (List.mem_of_mem_take hu)
      · exact h1u u hu
      · exact h1 u (List.mem_of_mem_drop hu)
    · refine VRels.mono (w := w) (S := S) (β := nob) ?_ (fun _ h => h) hwk (fun _ _ h => h)
      have e1 : flat ((es.take lo ++ (ds ++ es.drop (lo + ds.length))) ++ sp) = (flat (es ++ sp)).take (lo * s.width) ++ flat ds ++ (flat (es ++ sp)).drop (lo * s.width + us.length) := by
        have hshE : ∀ x ∈ es, hasSh s x = true := fun x hx => hshS x (List.mem_append_left _ hx)
        have f1 : (flat (es ++ sp)).take (lo * s.width) = flat (es.take lo) := by
          rw [← flat_take (s := s) _ _ hshS, List.take_append_of_le_length (by omega)]
        have f2 : (flat (es ++ sp)).drop (lo * s.width + us.length) = flat (es.drop (lo + ds.length) ++ sp) := by
          rw [hul, ← Nat.add_mul, ← flat_drop (s := s) _ _ hshS, List.drop_append_of_le_length (by omega)]
        rw [f1, f2]
        simp [flat]
      rw [e1]
      exact ((hvs.take _).append hus).append (hvs.drop _)

theorem take_drop_all (es : List AV) (lo : Nat) : es.take lo ++ (([] : List AV) ++ es.drop (lo + 0)) = es := by simp

theorem op_copy (hR : Rel w S B β og st a) (hO : Out w0 S0 B w S) {rowsV : List (Nat × Row)} (hsub : ∀ id x, lookup rowsV id = some x → lookup st.rows id = some x) {args : Array Operand} {ts : Array TypeId} {t e e' : TypeId} {id lo len : Nat} {s : Sh} {z : AV} {es es2 : List AV} {csp : Option (List AV)}
    (ho : o.op = .call { callee := .builtin .copy, args := args, argTypes := ts }) (hts : ts.toList = [t, t]) (hx : valsT P st.tm ts.toList args.toList = [.sub id lo len, z]) (ht : P.underlying t = some (.slice e)) (hl : lookup rowsV id = some (.arr false s e' es csp)) (hz : elemsOf rowsV z = some (s, es2)) (hsz : sizeOK P e s = true) (hle : lo + len ≤ es.length)
    (hy : y { v := .int .i64 (min len es2.length : Nat), mod := some (id, .arr false s e' (es.take lo ++ (es2.take (min len es2.length) ++ es.drop (lo + min len es2.length))) csp) } = some r) (hK : Good w0 S0 B site o st y r K) : o.wpR R P a w K Q := by
  have hv := valsT_rel hR.tm P ts.toList args.toList
  rw [hx] at hv
  obtain ⟨u, us, he, hu, hs1⟩ := hv.inv
  obtain ⟨u2, us2, rfl, hu2, hn⟩ := hs1.inv
  rw [hn.inv_nil] at he
  have hm := map_eval args _ he
  have htt : ts = #[t, t] := by apply Array.ext'; simpa using hts
  obtain ⟨ii, hii, hiw⟩ := sizeOK_spec hsz
  obtain ⟨A2, c2, ad, xs2, rfl, hsh2, hA2, hvs2, h12, hcell, hlm⟩ := elems_sound hR hsub hz hu2
  have hrow := hR.row id _ (hsub _ _ hl)
  obtain ⟨A, c, hbt, hc, _, hA⟩ := arr_val hrow
  have hu' := sub_val hbt hu
  have hexec : ∀ (x : Value) (w' : World), (Builtin.copy_ #[t, t] o.type #[u, .slice A2 es2.length c2]).run P w = .ok x w' → (execOp a.eval o).run P w = .ok (.value x) w' := fun x w' hrun => by
    simp only [execOp, ho, resolve, invoke, builtin, hm, htt, Sem.run_bind, Sem.run_pure, Result.andThen_ok, hrun]
  generalize hmm : min len es2.length = m at hy
  have hml : m ≤ len := by omega
  have hm2 : m ≤ es2.length := by omega
  have hmin : Nat.min es2.length len = m := by show min es2.length len = m; omega
  clear hmm
  by_cases h0 : m = 0
  · rw [h0] at hy
    simp only [List.take_zero] at hy
    rw [take_drop_all] at hy
    rw [h0] at hmin
    have hfc : ∀ x : Value, (Builtin.firstCells ii.size 0 (.slice A2 es2.length c2)).run P w = .ok #[] w := by
      intro x
      cases A2 <;> simp [Builtin.firstCells, loadCells, loadCellsFrom]
    have hrun : (Builtin.copy_ #[t, t] o.type #[u, .slice A2 es2.length c2]).run P w = .ok (goInt 0) w := by
      rw [hu']
      generalize (if c = lo then A else A.map (·.add (lo * s.width))) = A'
      cases A' <;> simp [Builtin.copy_, run_underlying ht, Builtin.lenOf, sizeOf, typeInfo, hii, hmin, hfc undef, storeCells]
    have hM := hR.modify (id := id) (w' := w) (World.grownBy.refl w _) rfl (fun g hg => by
      obtain ⟨_, _, _, _, _, _, _, _, _, hor⟩ := hrow
      rcases hor with ⟨_, _, hogn, _⟩ | ⟨g', hog, _, _, _, _, him, _⟩
      · rw [hogn] at hg; cases hg
      · rw [hog] at hg; cases hg; exact him rfl) hrow
    refine wp_value (hexec _ _ hrun) (hK _ _ _ hy ⟨S, β, og, hM.put o.dst (.int _ _ _), hO⟩)
  · have hne : es2.take (m) ≠ [] := by
      intro h
      have := congrArg List.length h
      rw [List.length_take, List.length_nil] at this
      omega
    have hdl : (es2.take (m)).length = m := by rw [List.length_take]; omega
    have hne2 : es2 ≠ [] := by rintro rfl; simp at hne
    have hA2' := hA2 hne2
    subst hA2'
    have hus : VRels w S nob (flat (es2.take (m))) (xs2.take (m * s.width)) := by
      rw [flat_take (s := s) _ _ hsh2]; exact hvs2.take _
    obtain ⟨g, xs, c', hog, hSg, hBg, hbt', hc', hh, hfit, hul, hrow'⟩ := row_splice hR.Slt hrow (lo := lo) (ds := es2.take (m)) (fun x hx => hsh2 x (List.mem_of_mem_take hx)) hus (fun u hu => h12 u (List.mem_of_mem_take hu)) (by rw [hdl]; omega) hne
    rw [hbt] at hbt'
    simp only [Option.some.injEq, Prod.mk.injEq, Value.slice.injEq, and_true, true_and] at hbt'
    obtain ⟨rfl, rfl⟩ := hbt'
    rw [hdl] at hrow' hul
    have hgr := grownBy_setRow w g (xs.take (lo * s.width) ++ xs2.take (m * s.width) ++ xs.drop (lo * s.width + (xs2.take (m * s.width)).length)).toArray
    have hM := hR.modify (id := id) (by rw [hog]; exact hgr) (by simp [World.setRow]) (fun g' hg' => by rw [hog] at hg'; cases hg'; exact hSg) hrow'
    have hst := hh.stores (P := P) (lo * s.width) (xs2.take (m * s.width)) 0 (by simp only [List.size_toArray, Nat.add_zero]; exact hfit) (fun u hu => h12 u (List.mem_of_mem_take hu))
    simp only [Nat.add_zero] at hst
    have hx2l : m * s.width ≤ xs2.length := by
      rw [hvs2.1, flat_length es2 hsh2]
      exact Nat.mul_le_mul_right _ (by omega)
    have hld := run_loadCells_take (P := P) w ad xs2 (m * s.width) hx2l hcell
    have hrun : (Builtin.copy_ #[t, t] o.type #[u, .slice (some ad) es2.length c2]).run P w = .ok (goInt (m : Int)) (w.setRow g (xs.take (lo * s.width) ++ xs2.take (m * s.width) ++ xs.drop (lo * s.width + (xs2.take (m * s.width)).length)).toArray) := by
      rw [hu', if_neg (by omega)]
      simp only [Option.map_some, add_lit', Nat.zero_add]
      simp [Builtin.copy_, run_underlying ht, Builtin.lenOf, Builtin.firstCells, sizeOf, typeInfo, hii, hiw, hmin, hld, hst]
    refine wp_value (hexec _ _ hrun) (hK _ _ _ hy ⟨S, β, og, hM.put o.dst (.int _ _ _), hO.grownBy hR.Ble hgr (fun k hk => by cases hk; exact hBg)⟩)

end ops
end Go.Ev

/-
  Elements that are cleared; room that is appended.
-/
namespace Go.Ev
open Go.RowKit

section ops
variable {R : Option Nat} {ρ : Type} {P : Program} {w0 w : World} {S0 S : Nat → Prop} {B : Ctx} {β : Bet} {og : Nat → Option Nat} {st : St} {a : Act} {o : Oper} {site : Nat} {y : Eff → Option ρ} {r : ρ}
  {K : Act → World → Prop} {Q : Exit → Act → World → Prop}

theorem op_clear (hR : Rel w S B β og st a) (hO : Out w0 S0 B w S) {rowsV : List (Nat × Row)} (hsub : ∀ id x, lookup rowsV id = some x → lookup st.rows id = some x) {args : Array Operand} {ts : Array TypeId} {t e e' : TypeId} {id lo len : Nat} {s : Sh} {es : List AV} {csp : Option (List AV)}
    (ho : o.op = .call { callee := .builtin .clear, args := args, argTypes := ts }) (hts : ts.toList = [t]) (hx : valsT P st.tm ts.toList args.toList = [.sub id lo len]) (ht : P.underlying t = some (.slice e)) (hl : lookup rowsV id = some (.arr false s e' es csp)) (hse : s = shOf P depth e) (hel : elemOK P e = true) (hle : lo + len ≤ es.length)
    (hy : y { v := .undef, mod := some (id, .arr false s e' (es.take lo ++ (List.replicate len (zeroE P e) ++ es.drop (lo + len))) csp) } = some r) (hK : Good w0 S0 B site o st y r K) : o.wpR R P a w K Q := by
  have hv := valsT_rel hR.tm P ts.toList args.toList
  rw [hx] at hv
  obtain ⟨u, us, he, hu, hn⟩ := hv.inv
  rw [hn.inv_nil] at he
  have hm := map_eval args _ he
  have htt : ts = #[t] := by apply Array.ext'; simpa using hts
  obtain ⟨i, zz, hi, hzz, hiw, hpos, hzs, hby, zc, hza, hhz⟩ := elemOK_spec hel
  have hrow := hR.row id _ (hsub _ _ hl)
  obtain ⟨A, c, hbt, hc, _, hA⟩ := arr_val hrow
  have hu' := sub_val hbt hu
  have hexec : ∀ (x : Value) (w' : World), (Builtin.clear_ #[t] o.type #[u]).run P w = .ok x w' → (execOp a.eval o).run P w = .ok (.value x) w' := fun x w' hrun => by
    simp only [execOp, ho, resolve, invoke, builtin, hm, htt, Sem.run_bind, Sem.run_pure, Result.andThen_ok, hrun]
  by_cases h0 : len = 0
  · subst h0
    simp only [List.replicate_zero] at hy
    rw [take_drop_all] at hy
    have hrun : (Builtin.clear_ #[t] o.type #[u]).run P w = .ok undef w := by
      rw [hu']
      generalize (if c = lo then A else A.map (·.add (lo * s.width))) = A'
      cases A' <;> simp [Builtin.clear_, run_underlying ht] <;> rfl
    have hM := hR.modify (id := id) (w' := w) (World.grownBy.refl w _) rfl (fun g hg => by
      obtain ⟨_, _, _, _, _, _, _, _, _, hor⟩ := hrow
      rcases hor with ⟨_, _, hogn, _⟩ | ⟨g', hog, _, _, _, _, him, _⟩
      · rw [hogn] at hg; cases hg
      · rw [hog] at hg; cases hg; exact him rfl) hrow
    exact wp_value (hexec _ _ hrun) (hK _ _ _ hy ⟨S, β, og, hM.put o.dst (.undef _), hO⟩)
  · obtain ⟨z1, z2, z3⟩ := zeros_rel hi hzz hzs hpos hza hhz w S nob len
    rw [← hse] at z1
    have hne : List.replicate len (zeroE P e) ≠ [] := by
      intro h
      have := congrArg List.length h
      simp at this
      exact h0 this
    obtain ⟨g, xs, c', hog, hSg, hBg, hbt', hc', hh, hfit, hul, hrow'⟩ := row_splice hR.Slt hrow (lo := lo) (ds := List.replicate len (zeroE P e)) (fun x hx => by rw [(List.mem_replicate.1 hx).2]; exact z1) z2 z3 (by simpa using hle) hne
    rw [hbt] at hbt'
    simp only [Option.some.injEq, Prod.mk.injEq, Value.slice.injEq, and_true, true_and] at hbt'
    obtain ⟨rfl, rfl⟩ := hbt'
    rw [List.length_replicate] at hrow'
    have hgr := grownBy_setRow w g (xs.take (lo * s.width) ++ (Builtin.zeroCells zz.cells len).toList ++ xs.drop (lo * s.width + (Builtin.zeroCells zz.cells len).toList.length)).toArray
    have hM := hR.modify (id := id) (by rw [hog]; exact hgr) (by simp [World.setRow]) (fun g' hg' => by rw [hog] at hg'; cases hg'; exact hSg) hrow'
    have hst := hh.stores (P := P) (lo * s.width) (Builtin.zeroCells zz.cells len).toList 0 (by simp only [List.size_toArray, Nat.add_zero]; exact hfit) z3
    simp only [Nat.add_zero] at hst
    have hrun : (Builtin.clear_ #[t] o.type #[u]).run P w = .ok undef (w.setRow g (xs.take (lo * s.width) ++ (Builtin.zeroCells zz.cells len).toList ++ xs.drop (lo * s.width + (Builtin.zeroCells zz.cells len).toList.length)).toArray) := by
      rw [hu', if_neg (by omega)]
      simp only [Option.map_some, add_lit', Nat.zero_add]
      obtain ⟨len, rfl⟩ := Nat.exists_eq_succ_of_ne_zero h0
      simp only [Builtin.clear_, List.getElem?_toArray, List.getElem?_cons_zero, Sem.run_bind, run_underlying ht, Result.andThen_ok, zeroValue, typeInfo, run_program, hi, hzz, Sem.run_pure, hst]
      rfl
    exact wp_value (hexec _ _ hrun) (hK _ _ _ hy ⟨S, β, og, hM.put o.dst (.undef _), hO.grownBy hR.Ble hgr (fun k hk => by cases hk; exact hBg)⟩)

theorem wrap_nat (n : Nat) (h : n ≤ 4611686018427387904) : IntKind.i64.wrap (n : Int) = n := IntWalk.i64_in _ (by omega)
/-- Room for n elements is appended, in a new array. -/
theorem run_append_zeros (t u ty e : TypeId) (i : TypeInfo) (z : Value) (ht : P.underlying t = some (.slice e)) {k k' : IntKind} (hut : P.underlying u = some (.int k')) (hi : P.info? e = some i) (hz : i.zero = some z) (hpos : 0 < i.size)
    (A : Option Addr) (sLen sCap n : Nat) (olds : List Value) (hlo : olds.length = sLen * i.size) (holds : ∀ b, A = some b → ∀ j v, olds[j]? = some v → w.cell? (b.add j) = some v) (hA : A = none → sLen = 0)
    (hg : sCap < sLen + n) (hn : 0 < n) (h63 : sLen + n ≤ 4611686018427387904) (hb : n * i.bytes ≤ 281474976710656) (hfit : Builtin.nextslicecap (sLen + n) sCap * i.bytes ≤ 281474976710656) :
    (Builtin.append_ #[t, u] ty #[.slice A sLen sCap, .int k (n : Int)]).run P w =
      .ok (.slice (some ⟨w.heap.size, 0, none⟩) (sLen + n) (grownCap w (sLen + n) sCap e))
        (w.drew.alloc (.cells ((olds ++ (Builtin.zeroCells z.cells n).toList).toArray ++ Builtin.zeroCells z.cells (grownCap w (sLen + n) sCap e - (sLen + n))) e)) := by
  have hng : ¬ (sLen + n ≤ sCap) := by omega
  have h63' : ¬ (9223372036854775807 < ((sLen : Int) + (n : Int))) := by omega
  have h48' : ¬ (281474976710656 < Builtin.nextslicecap (sLen + n) sCap * i.bytes) := by omega
  have hwr : IntKind.i64.wrap (n : Int) = n := wrap_nat n (by omega)
  have hnn : ¬ ((n : Int) < 0) := by omega
  have hbb : ¬ ((281474976710656 : Int) < (n : Int) * (i.bytes : Int)) := by
    have := Int.ofNat_le.2 hb
    rw [Int.natCast_mul] at this
    exact Int.not_lt.2 this
  have hn0 : ¬ (n * i.size = 0) := by
    intro h
    rcases Nat.mul_eq_zero.1 h with h | h <;> omega
  have hfo : (Builtin.firstCells i.size sLen (.slice A sLen sCap)).run P w.drew = .ok olds.toArray w.drew := by
    cases A with
    | none =>
      have h0 := hA rfl
      subst h0
      have : olds = [] := List.eq_nil_of_length_eq_zero (by simpa using hlo)
      subst this
      simp [Builtin.firstCells]
    | some b => exact run_firstCells_some (P := P) w.drew i.size sLen b sLen sCap olds hlo (by simpa using holds b rfl)
  simp [Builtin.append_, run_underlying ht, run_underlying hut, sizeOf, typeInfo, zeroValue, hi, hz, asInt, asIntOf, hwr, hnn, hbb, hn0, hng, h63', h48', Question.forced, hfo, newRow, grownCap]
  congr 2
  apply Array.ext'
  simp [List.append_assoc]

theorem op_append_zeros (hR : Rel w S B β og st a) (hO : Out w0 S0 B w S) {rowsV : List (Nat × Row)} (hsub : ∀ id x, lookup rowsV id = some x → lookup st.rows id = some x) (hf : Fresh site st.used) {args : Array Operand} {ts : Array TypeId} {t t' e e' : TypeId} {id i : Nat} {im : Bool} {k k' : IntKind} {n : Int} {s : Sh} {es sp : List AV}
    (ho : o.op = .call { callee := .builtin .append, args := args, argTypes := ts }) (hts : ts.toList = [t, t']) (hx : valsT P st.tm ts.toList args.toList = [.sub id 0 i, .int k n]) (ht : P.underlying t = some (.slice e)) (ht' : P.underlying t' = some (.int k')) (hl : lookup rowsV id = some (.arr im s e' es (some sp))) (hse : s = shOf P depth e) (hel : elemOK P e = true) (hie : i ≤ es.length) (hn : 0 ≤ n)
    (hgt : es.length + sp.length < i + n.toNat) (hroom : roomB (i + n.toNat) (P.bytesOf e) = true)
    (hy : y { v := .own site, new := some (.arr false s e (es.take i ++ List.replicate n.toNat (zeroE P e)) none) } = some r) (hK : Good w0 S0 B site o st y r K) : o.wpR R P a w K Q := by
  have hv := valsT_rel hR.tm P ts.toList args.toList
  rw [hx] at hv
  obtain ⟨u, us, he, hu, hs1⟩ := hv.inv
  obtain ⟨u2, us2, rfl, hu2, hnl⟩ := hs1.inv
  rw [hnl.inv_nil] at he
  have hm := map_eval args _ he
  have htt : ts = #[t, t'] := by apply Array.ext'; simpa using hts
  obtain ⟨ii, zz, hi, hzz, hiw, hpos, hzs, hby, zc, hza, hhz⟩ := elemOK_spec hel
  obtain ⟨hb1, hb2⟩ := roomB_spec hroom
  have hrow := hR.row id _ (hsub _ _ hl)
  obtain ⟨A, c, hbt, hc, hcl, hA⟩ := arr_val hrow
  have hcc := hcl sp rfl
  have hu' := sub_val hbt hu
  have hu2' := hu2.int_inv
  obtain ⟨hp, v, sp', xs, hshS, hcs, hbt', h1, hvs, hor⟩ := hrow
  have hsp : sp = sp' := hcs sp rfl
  subst hsp
  rw [hbt] at hbt'
  simp only [Option.some.injEq, Prod.mk.injEq, and_true] at hbt'
  subst hbt'
  have hshE : ∀ x ∈ es.take i, hasSh s x = true := fun x hx => hshS x (List.mem_append_left _ (List.mem_of_mem_take hx))
  have hxl : xs.length = (es.length + sp.length) * ii.size := by rw [hvs.1, flat_length _ hshS, List.length_append, hiw, hse]
  have hole : i * ii.size ≤ xs.length := by rw [hxl]; exact Nat.mul_le_mul_right _ (by omega)
  have hol : (xs.take (i * ii.size)).length = i * ii.size := by rw [List.length_take]; omega
  have hvo : VRels w S nob (flat (es.take i)) (xs.take (i * ii.size)) := by
    have := hvs.take (i * ii.size)
    rw [hiw, ← hse, ← flat_take (s := s) _ _ hshS, List.take_append_of_le_length hie] at this
    rw [hiw, ← hse]
    exact this
  obtain ⟨z1, z2, z3⟩ := zeros_rel hi hzz hzs hpos hza hhz w S nob n.toNat
  rw [← hse] at z1
  have hshN : ∀ x ∈ es.take i ++ List.replicate n.toNat (zeroE P e), hasSh s x = true := fun x hx => by
    rcases List.mem_append.1 hx with h | h
    · exact hshE x h
    · rw [(List.mem_replicate.1 h).2]; exact z1
  have hvN : VRels w S nob (flat (es.take i ++ List.replicate n.toNat (zeroE P e))) (xs.take (i * ii.size) ++ (Builtin.zeroCells zz.cells n.toNat).toList) := by rw [flat_append]; exact hvo.append z2
  have h1N : ∀ u ∈ xs.take (i * ii.size) ++ (Builtin.zeroCells zz.cells n.toNat).toList, u.oneCell' = true := fun x hx => by
    rcases List.mem_append.1 hx with h | h
    · exact h1 x (List.mem_of_mem_take h)
    · exact z3 x h
  have hlN : (es.take i ++ List.replicate n.toNat (zeroE P e)).length = i + n.toNat := by simp; omega
  have hA' : ∃ A', u = .slice A' i c ∧ (∀ b, A' = some b → ∀ (j : Nat) (v : Value), (xs.take (i * ii.size))[j]? = some v → w.cell? (b.add j) = some v) ∧ (A' = none → i = 0) := by
    rcases Nat.eq_zero_or_pos c with h0 | h0
    · refine ⟨A, ?_, fun b _ j v hj => ?_, fun _ => by omega⟩
      · rw [hu', if_pos h0]; rfl
      · have hi0 : i = 0 := by omega
        subst hi0
        simp at hj
    · obtain ⟨g, rfl, hog⟩ := hA h0
      refine ⟨some ⟨g, 0, none⟩, ?_, fun b hb j v hj => ?_, fun h => by cases h⟩
      · rw [hu', if_neg (by omega)]
        simp [Addr.add]
      · cases hb
        rcases hor with ⟨rfl, rfl, _⟩ | ⟨g', hog', hvv, _, hh, _⟩
        · simp at hcc; omega
        · rw [hog] at hog'
          cases hog'
          rw [add_lit, row_cell hh]
          rw [List.getElem?_take] at hj
          split at hj
          · simpa using hj
          · cases hj
  obtain ⟨A', hue, hold, hnone⟩ := hA'
  have hnn : ((n.toNat : Nat) : Int) = n := by omega
  have hrun := run_append_zeros (P := P) (w := w) t t' o.type e ii zz ht (k := k) ht' hi hzz hpos A' i c n.toNat _ hol hold hnone (by omega) (by omega) (by omega)
    (by rw [hby]; exact Nat.le_trans (Nat.mul_le_mul_right _ (by omega)) (Nat.le_trans hb1 (by decide))) (by rw [hby]; exact roomB_fits hroom (by omega))
  rw [hnn] at hrun
  have hexec : ∀ (x : Value) (w' : World), (Builtin.append_ #[t, t'] o.type #[.slice A' i c, .int k n]).run P w = .ok x w' → (execOp a.eval o).run P w = .ok (.value x) w' := fun x w' hrun => by
    simp only [execOp, ho, resolve, invoke, builtin, hm, htt, hue, hu2', Sem.run_bind, Sem.run_pure, Result.andThen_ok, hrun]
  have hb := below_drew_alloc w (.cells ((xs.take (i * ii.size) ++ (Builtin.zeroCells zz.cells n.toNat).toList).toArray ++ Builtin.zeroCells zz.cells (grownCap w (i + n.toNat) c e - (i + n.toNat))) e)
  have hN := hR.new site hf o.dst hb (S' := S) (fun _ h => h) (fun _ _ h => h) (fun b hs => Nat.lt_of_lt_of_le (hR.Slt b hs) hb.size) (x := .slice (some ⟨w.heap.size, 0, none⟩) (i + n.toNat) (grownCap w (i + n.toNat) c e)) (wd := s.width) (o := some w.heap.size) rfl (fun g hg => by cases hg; simp)
    (r := .arr false s e (es.take i ++ List.replicate n.toNat (zeroE P e)) none) (v := .own site) (u := .slice (some ⟨w.heap.size, 0, none⟩) (i + n.toNat) (grownCap w (i + n.toNat) c e)) ?_ (.own _ site _ _ (upd_same _ _ _))
  · exact wp_value (hexec _ _ hrun) (hK _ _ _ hy ⟨S, _, _, hN, hO.grow hR.Ble hb⟩)
  · rw [← hlN]
    exact rowrel_new (w := w) hR.Slt hR.Ble hi hzz hzs hpos hiw hza hhz hse hshN hvN h1N (grownCap_ge _ _ _ _) (grownCap_le_maxLen _ _ _ _ (by rw [hlN]; simp only [maxLen]; omega)) (w1 := w.drew) rfl (upd_same _ _ _)

/-- A new slice of zeros. -/
theorem op_makeSlice (hR : Rel w S B β og st a) (hO : Out w0 S0 B w S) (hf : Fresh site st.used) {t e : TypeId} {l c : Operand} {k k' : IntKind} {n : Int} (ho : o.op = .makeSlice t l c) (ht : P.underlying t = some (.slice e)) (hl : val st.tm l = .int k n) (hc : val st.tm c = .int k' n) (hel : elemOK P e = true) (hn : 0 ≤ n) (hroom : roomB n.toNat (P.bytesOf e) = true)
    (hy : y { v := .own site, new := some (.arr false (shOf P depth e) e (List.replicate n.toNat (zeroE P e)) none) } = some r) (hK : Good w0 S0 B site o st y r K) : o.wpR R P a w K Q := by
  have hlv := val_rel hR.tm l
  rw [hl] at hlv
  have hcv := val_rel hR.tm c
  rw [hc] at hcv
  have hle := hlv.int_inv
  have hce := hcv.int_inv
  obtain ⟨ii, zz, hi, hzz, hiw, hpos, hzs, hby, zc, hza, hhz⟩ := elemOK_spec hel
  obtain ⟨hb1, hb2⟩ := roomB_spec hroom
  obtain ⟨z1, z2, z3⟩ := zeros_rel hi hzz hzs hpos hza hhz w S nob n.toNat
  have hbb : (ii.bytes : Int) * n ≤ 281474976710656 := by
    have h1 : n.toNat * ii.bytes ≤ 150000000000000 := by rw [hby]; exact hb1
    have h2 : ((n.toNat * ii.bytes : Nat) : Int) ≤ 150000000000000 := by omega
    rw [Int.natCast_mul, Int.toNat_of_nonneg hn, Int.mul_comm] at h2
    omega
  have hmc : Go.madeCells zz.cells (n.toNat * ii.size) = Builtin.zeroCells zz.cells n.toNat := by
    unfold Go.madeCells Builtin.zeroCells
    rw [hzs]
  have hrun := run_make (P := P) w t e ii zz ht hi hzz k k' n n hn (Int.le_refl _) hbb (by omega)
  rw [hmc] at hrun
  have hexec : ∀ (x : Value) (w' : World), (Instr.makeSlice t (.int k n) (.int k' n)).run P w = .ok x w' → (execOp a.eval o).run P w = .ok (.value x) w' := fun x w' hrun => by
    simp only [execOp, ho, hle, hce, Sem.run_bind, Sem.run_pure, Result.andThen_ok, hrun]
  have hx : Builtin.zeroCells zz.cells n.toNat = (Builtin.zeroCells zz.cells n.toNat).toList.toArray ++ Builtin.zeroCells zz.cells (n.toNat - (List.replicate n.toNat (zeroE P e)).length) := by
    rw [List.length_replicate, Nat.sub_self]
    apply Array.ext'
    simp [Builtin.zeroCells]
  have hb := below_alloc w (.cells (Builtin.zeroCells zz.cells n.toNat) e)
  have hN := hR.new site hf o.dst hb (S' := S) (fun _ h => h) (fun _ _ h => h) (fun b hs => Nat.lt_of_lt_of_le (hR.Slt b hs) hb.size) (x := .slice (some ⟨w.heap.size, 0, none⟩) n.toNat n.toNat) (wd := (shOf P depth e).width) (o := some w.heap.size) rfl (fun g hg => by cases hg; simp)
    (r := .arr false (shOf P depth e) e (List.replicate n.toNat (zeroE P e)) none) (v := .own site) (u := .slice (some ⟨w.heap.size, 0, none⟩) n.toNat n.toNat) ?_ (.own _ site _ _ (upd_same _ _ _))
  · exact wp_value (hexec _ _ hrun) (hK _ _ _ hy ⟨S, _, _, hN, hO.grow hR.Ble hb⟩)
  · have := rowrel_new (w := w) (β' := upd β site (some (.slice (some ⟨w.heap.size, 0, none⟩) n.toNat n.toNat, (shOf P depth e).width))) (id := site) hR.Slt hR.Ble hi hzz hzs hpos hiw hza hhz rfl (es := List.replicate n.toNat (zeroE P e)) (fun x hx => by rw [(List.mem_replicate.1 hx).2]; exact z1) z2 z3 (cap := n.toNat) (by simp) (by simp only [maxLen]; omega) (w1 := w) rfl (by rw [List.length_replicate]; exact upd_same _ _ _)
    rw [← hx] at this
    exact this

def bInts (s : List UInt8) : List Int := s.map fun (b : UInt8) => (b.toNat : Int)
theorem bytes_ints (s : List UInt8) : bytesAV s = (bInts s).map (AV.int .u8) := by
  unfold bytesAV bInts; rw [List.map_map]; rfl
theorem byteT_spec {e : TypeId} (h : byteT P e = true) : P.underlying e = some (.int .u8) := by
  unfold byteT at h
  split at h
  · assumption
  · cases h
theorem below_bytes (w : World) (e : TypeId) (s : ByteArray) : Below w.heap.size w (Lib.bytesWorld w e s) :=
  ⟨by simp [Lib.bytesWorld, World.freeze, World.alloc, World.drew, -World.alloc_eq, -World.drew_eq], by simp [Lib.bytesWorld, World.freeze, World.alloc, World.drew, -World.alloc_eq, -World.drew_eq], by simp [Lib.bytesWorld, World.freeze, World.alloc, World.drew, -World.alloc_eq, -World.drew_eq], by rw [Lib.bytesWorld_size]; omega, fun j hj => Lib.bytesWorld_at_old w e s j hj⟩
theorem ints_rel (w : World) (S : Nat → Prop) (β : Bet) (k : IntKind) : ∀ l : List Int, VRels w S β (l.map (AV.int k)) (l.map (Value.int k))
  | [] => VRels.nil
  | _ :: l => VRels.cons (.int _ _ _) (ints_rel w S β k l)
theorem flat_ints (k : IntKind) : ∀ l : List Int, flat (l.map (AV.int k)) = l.map (AV.int k)
  | [] => rfl
  | n :: l => by
    show AV.cells (AV.int k n) ++ flat (l.map (AV.int k)) = _
    rw [flat_ints k l]; rfl
/-- A string's bytes, in a new row. -/
theorem op_bytes (hR : Rel w S B β og st a) (hO : Out w0 S0 B w S) (hf : Fresh site st.used) {src dst e : TypeId} {x : Operand} {s : List UInt8} (ho : o.op = .convert src dst x) (hs : P.underlying src = some .string) (hd : P.underlying dst = some (.slice e)) (hx : valT P st.tm src x = .str s) (hb : byteT P e = true) (hl : lenB s.length = true)
    (hy : y { v := .own site, new := some (.arr false (.int .u8) e (bytesAV s) none) } = some r) (hK : Good w0 S0 B site o st y r K) : o.wpR R P a w K Q := by
  have hv := valT_rel hR.tm P src x
  rw [hx] at hv
  have he := hv.str_inv
  have hub := byteT_spec hb
  have hn : s.length ≤ maxLen := by
    have := of_decide_eq_true (show decide (s.length ≤ 9223372036854775807) = true from hl)
    simp only [maxLen]; omega
  have hrun := Lib.run_convert_string_bytes (P := P) w src dst e ⟨s.toArray⟩ hs hd hub
  have hsz : (ByteArray.mk s.toArray).size = s.length := by simp [ByteArray.size]
  rw [hsz] at hrun
  have hexec : (execOp a.eval o).run P w = .ok (.value (.slice (some ⟨w.heap.size, 0, none⟩) s.length (grownCap w s.length 0 e))) (Lib.bytesWorld w e ⟨s.toArray⟩) := by
    simp only [execOp, ho, he, Sem.run_bind, Sem.run_pure, Result.andThen_ok, hrun]
  have hge := grownCap_ge w s.length 0 e
  have hlm := grownCap_le_maxLen w s.length 0 e hn
  have hbl := below_bytes w e ⟨s.toArray⟩
  have hcells : Lib.bytesCells w e ⟨s.toArray⟩ = ((bInts s ++ List.replicate (grownCap w s.length 0 e - s.length) 0).map (Value.int .u8)).toArray := by
    unfold Lib.bytesCells
    rw [hsz]
    apply Array.ext'
    simp [bInts]
  have hN := hR.new site hf o.dst hbl (S' := S) (fun _ h => h) (fun _ _ h => h) (fun b hs => Nat.lt_of_lt_of_le (hR.Slt b hs) hbl.size) (x := .slice (some ⟨w.heap.size, 0, none⟩) s.length (grownCap w s.length 0 e)) (wd := (Sh.int .u8).width) (o := some w.heap.size) rfl (fun g hg => by cases hg; rw [Lib.bytesWorld_size]; omega)
    (r := .arr false (.int .u8) e (bytesAV s) none) (v := .own site) (u := .slice (some ⟨w.heap.size, 0, none⟩) s.length (grownCap w s.length 0 e)) ?_ (.own _ site _ _ (upd_same _ _ _))
  · exact wp_value hexec (hK _ _ _ hy ⟨S, _, _, hN, hO.grow hR.Ble hbl⟩)
  · have hes : bytesAV s ++ (List.replicate (grownCap w s.length 0 e - s.length) (0 : Int)).map (AV.int .u8) = (bInts s ++ List.replicate (grownCap w s.length 0 e - s.length) 0).map (AV.int .u8) := by
      rw [bytes_ints, List.map_append]
    have hbl2 : (bytesAV s).length = s.length := by unfold bytesAV; simp
    refine ⟨by decide, _, (List.replicate (grownCap w s.length 0 e - s.length) (0 : Int)).map (AV.int .u8), (bInts s ++ List.replicate (grownCap w s.length 0 e - s.length) 0).map (Value.int .u8), ?_, (fun c h => by cases h), upd_same _ _ _, ?_, ?_, .inr ⟨w.heap.size, rfl, ?_, fun h => Nat.lt_irrefl _ (hR.Ble _ h), ?_, ?_, fun _ hs => absurd (hR.Slt _ hs) (Nat.lt_irrefl _), (fun h => by cases h)⟩⟩
    · rw [hes]
      intro v hv
      obtain ⟨n, _, rfl⟩ := List.mem_map.1 hv
      rfl
    · intro u hu
      obtain ⟨n, _, rfl⟩ := List.mem_map.1 hu
      rfl
    · rw [hes, flat_ints]
      exact ints_rel _ _ _ _ _
    · rw [hbl2, List.length_map, List.length_replicate, Nat.add_sub_cancel' hge]
    · refine ⟨_, .inr ⟨rfl, rfl⟩, ?_⟩
      have := Lib.bytesWorld_at_new w e ⟨s.toArray⟩
      rw [hcells] at this
      exact this
    · rw [hbl2, List.length_map, List.length_replicate, Nat.add_sub_cancel' hge]; exact hlm
/-- A constant string's bytes: the row is marked as such. -/
theorem op_mark (hR : Rel w S B β og st a) (hO : Out w0 S0 B w S) {rowsV : List (Nat × Row)} (hsub : ∀ id x, lookup rowsV id = some x → lookup st.rows id = some x) {src dst e e0 e' : TypeId} {x : Operand} {id : Nat} {s : Sh} {es : List AV} {sp : Option (List AV)} (ho : o.op = .convert src dst x) (hs : P.underlying src = some (.slice e0)) (hd : P.underlying dst = some (.slice e)) (hx : valT P st.tm src x = .own id) (hsd : (src == dst) = true) (hb : byteT P e = true) (hl : lookup rowsV id = some (.arr false s e' es sp)) (hsh : Sh.beq s (.int .u8) = true) (hne : es ≠ [])
    (hy : y { v := .own id, mod := some (id, .arr false s e' es sp) } = some r) (hK : Good w0 S0 B site o st y r K) : o.wpR R P a w K Q := by
  have hv := valT_rel hR.tm P src x
  rw [hx] at hv
  obtain ⟨hp, v, sp', xs, hshS, hcs, hbt, h1, hvs, hor⟩ := hR.row id _ (hsub _ _ hl)
  rcases hor with ⟨he0, _⟩ | ⟨g, hog, rfl, hBg, hh, hmx, hi1, hi2⟩
  · exact absurd he0 hne
  have he : a.eval x = .slice (some ⟨g, 0, none⟩) es.length (es.length + sp'.length) := by
    generalize hu : a.eval x = u at hv
    cases hv with
    | own _ _ v' wd hb' =>
      rw [hbt] at hb'
      simp only [Option.some.injEq, Prod.mk.injEq] at hb'
      exact hb'.1.symm
  obtain rfl := Sh.beq_eq _ _ hsh
  obtain ⟨fz, hfz, hg⟩ := hh
  have hlt : g < w.heap.size := hR.lt id g hog
  have hsh2 : w.shape? g = some (e', xs.length) := by
    unfold World.shape?
    rw [hg]
    simp
  have hw' : (w.freeze ⟨g, xs.length, none⟩ 1).heap[g]? = some (.cells xs.toArray e' (xs.length, xs.length + 1)) := by
    unfold World.freeze
    rw [if_neg (by decide)]
    simp only [Array.getElem?_modify, if_pos, hg, Option.map_some]
    rcases hfz with rfl | ⟨_, rfl⟩
    · rfl
    · simp
  have hother : ∀ k, k ≠ g → (w.freeze ⟨g, xs.length, none⟩ 1).heap[k]? = w.heap[k]? := fun k hk => by
    unfold World.freeze
    rw [if_neg (by decide)]
    simp only [Array.getElem?_modify]
    rw [if_neg (fun e => hk e.symm)]
  have hsize : (w.freeze ⟨g, xs.length, none⟩ 1).heap.size = w.heap.size := by
    unfold World.freeze
    rw [if_neg (by decide)]
    simp
  have hgr : w.grownBy (w.freeze ⟨g, xs.length, none⟩ 1) (some g) := ⟨by unfold World.freeze; rw [if_neg (by decide)], by unfold World.freeze; rw [if_neg (by decide)], by unfold World.freeze; rw [if_neg (by decide)], by rw [hsize]; exact Nat.le_refl _, fun k _ hk => hother k (fun e => hk (by rw [e]))⟩
  have hw : ∀ b, S b → (w.freeze ⟨g, xs.length, none⟩ 1).heap[b]? = w.heap[b]? := fun b hs => hother b (fun e => hi1 rfl (by rw [← e]; exact hs))
  have hub := byteT_spec hb
  have hsd' : src = dst := by simpa using hsd
  subst hsd'
  rw [hs] at hd
  cases hd
  have hexec : (execOp a.eval o).run P w = .ok (.value (.slice (some ⟨g, 0, none⟩) es.length (es.length + sp'.length))) (w.freeze ⟨g, xs.length, none⟩ 1) := by
    simp [execOp, ho, he, convert, run_underlying hs, run_underlying hub, markStringish, hsh2]
  have hM := hR.modify (id := id) (by rw [hog]; exact hgr) hsize (fun g' hg' => by rw [hog] at hg'; cases hg'; exact hi1 rfl)
    (r1 := .arr false (.int .u8) e' es sp) ⟨hp, _, sp', xs, hshS, hcs, hbt, h1, hvs.mono (fun _ h => h) hw (fun _ _ h => h), .inr ⟨g, hog, rfl, hBg, ⟨_, .inr ⟨rfl, rfl⟩, by simpa using hw'⟩, hmx, hi1, hi2⟩⟩
  exact wp_value hexec (hK _ _ _ hy ⟨S, β, og, hM.put o.dst (.own _ id _ _ hbt), hO.grownBy hR.Ble hgr (fun k hk => by cases hk; exact hBg)⟩)

theorem push_all : ∀ (ns : List Int) (s : List UInt8), ns.foldl (fun r n => ByteArray.push r (UInt8.ofNat n.toNat)) ⟨s.toArray⟩ = ⟨(s ++ ns.map fun n => UInt8.ofNat n.toNat).toArray⟩
  | [], s => by simp
  | n :: ns, s => by
    rw [List.foldl_cons]
    have : ByteArray.push ⟨s.toArray⟩ (UInt8.ofNat n.toNat) = ⟨(s ++ [UInt8.ofNat n.toNat]).toArray⟩ := by
      simp [ByteArray.push]
    rw [this, push_all ns]
    simp
/-- Bytes, as a string. -/
theorem op_string (hR : Rel w S B β og st a) (hO : Out w0 S0 B w S) {rowsV : List (Nat × Row)} (hsub : ∀ id x, lookup rowsV id = some x → lookup st.rows id = some x) {src dst e : TypeId} {x : Operand} {s : Sh} {es : List AV} (ho : o.op = .convert src dst x) (hs : P.underlying src = some (.slice e)) (hd : P.underlying dst = some .string) (hx : elemsOf rowsV (valT P st.tm src x) = some (s, es)) (hb : byteT P e = true) (hsh : Sh.beq s (.int .u8) = true)
    (hy : y { v := .str (strAV es) } = some r) (hK : Good w0 S0 B site o st y r K) : o.wpR R P a w K Q := by
  have hv := valT_rel hR.tm P src x
  obtain ⟨A, c, ad, xs, he, hse, hA, hvs, h1, hxc, hlm⟩ := elems_sound hR hsub hx hv
  have hub := byteT_spec hb
  obtain rfl := Sh.beq_eq _ _ hsh
  obtain ⟨ns, hns⟩ : ∃ ns : List Int, es = ns.map (AV.int .u8) := by
    refine ⟨es.map AV.toInt, ?_⟩
    rw [List.map_map]
    symm
    conv => rhs; rw [← List.map_id es]
    refine List.map_congr_left fun v hv => ?_
    have := hse v hv
    cases v <;> simp [hasSh, has1] at this
    subst this
    rfl
  subst hns
  rw [flat_ints] at hvs
  have hxs : xs = ns.map (Value.int .u8) := by
    refine List.ext_getElem? fun j => ?_
    rw [List.getElem?_map]
    cases hj : ns[j]? with
    | none =>
      have : xs.length = ns.length := by rw [hvs.1, List.length_map]
      rw [List.getElem?_eq_none (by rw [this]; exact List.getElem?_eq_none_iff.1 hj)]
      rfl
    | some n =>
      obtain ⟨u, hu, hr⟩ := hvs.at_ (j := j) (c := .int .u8 n) (by rw [List.getElem?_map, hj]; rfl)
      rw [hu, hr.int_inv]
      rfl
  have hstr : strAV (ns.map (AV.int .u8)) = ns.map fun n => UInt8.ofNat n.toNat := by
    unfold strAV; rw [List.map_map]; rfl
  have hrun : (Conv.bytesToString (.slice A (ns.map (AV.int .u8)).length c)).run P w = .ok (.string ⟨(strAV (ns.map (AV.int .u8))).toArray⟩) w := by
    rw [hstr]
    cases ns with
    | nil =>
      cases A with
      | none => simp [Conv.bytesToString, Sem.run_pure]; rfl
      | some b =>
        have := run_bytesToString (P := P) w b 0 c [] (by simpa using run_loadCells_list (P := P) w b [] (fun j v h => by simp at h))
        exact this
    | cons n ns =>
      rw [hA (by simp)]
      have hl := run_loadCells_list (P := P) w ad xs hxc
      rw [hxs] at hl
      have := run_bytesToString (P := P) w ad (n :: ns).length c (n :: ns) (by simpa using hl)
      rw [List.length_map, this]
      have hp := push_all (n :: ns) []
      rw [List.nil_append] at hp
      exact congrArg (fun z => Result.ok (Value.string z) w) hp
  have hexec : (execOp a.eval o).run P w = .ok (.value (.string ⟨(strAV (ns.map (AV.int .u8))).toArray⟩)) w := by
    have hc : (convert src dst (a.eval x)).run P w = .ok (.string ⟨(strAV (ns.map (AV.int .u8))).toArray⟩) w := by
      rw [he]
      unfold convert
      simp only [Sem.run_bind, run_underlying hs, run_underlying hd, Result.andThen_ok]
      cases A <;> simp only [run_underlying hub, Result.andThen_ok, hrun]
    simp only [execOp, ho, Sem.run_bind, Sem.run_pure, Result.andThen_ok, hc]
  exact wp_value hexec (hK _ _ _ hy ⟨S, β, og, hR.put o.dst (.str _ _), hO⟩)

end ops
end Go.Ev

/-
  Calls whose arguments' rows are handed over.
-/
namespace Go.Ev
open Go.RowKit

/-! ### Other numbers for rows -/
theorem rens_at (m : Nat → Option Nat) : ∀ (cs : List AV) (j : Nat) (c : AV), (AV.rens m cs)[j]? = some c → ∃ c', cs[j]? = some c' ∧ c = c'.ren m := by
  intro cs
  induction cs with
  | nil => intro j c hc; simp [AV.rens] at hc
  | cons x cs ih =>
    intro j c hc
    cases j with
    | zero => simp [AV.rens] at hc; exact ⟨x, rfl, hc.symm⟩
    | succ j => simp only [AV.rens, List.getElem?_cons_succ] at hc; obtain ⟨c', h1, h2⟩ := ih j c hc; exact ⟨c', by simpa using h1, h2⟩
theorem rens_length (m : Nat → Option Nat) : ∀ cs : List AV, (AV.rens m cs).length = cs.length := by
  intro cs
  induction cs with
  | nil => rfl
  | cons x cs ih => simp [AV.rens, ih]

theorem ren_rel {w : World} {S : Nat → Prop} {m : Nat → Option Nat} {β : Bet} {v : AV} {u : Value} (h : VRel w S β v u) : ∀ {β' : Bet}, (∀ id x j, β id = some x → m id = some j → β' j = some x) → VRel w S β' (v.ren m) u := by
  induction h with
  | unk β v => intro β' _; exact .unk _ v
  | undef => intro β' _; exact .undef _
  | int β k n => intro β' _; exact .int _ k n
  | bool β b => intro β' _; exact .bool _ b
  | ubool β b => intro β' _; exact .ubool _ b
  | str β s => intro β' _; exact .str _ s
  | agg β cs vs hl h1 _ ih =>
    intro β' hm
    refine .agg _ _ vs (by rw [rens_length]; exact hl) h1 fun j c u hc hu => ?_
    obtain ⟨c', hc', rfl⟩ := rens_at m cs j c hc
    exact ih j c' u hc' hu hm
  | tup β cs vs hl _ ih =>
    intro β' hm
    refine .tup _ _ vs (by rw [rens_length]; exact hl) fun j c u hc hu => ?_
    obtain ⟨c', hc', rfl⟩ := rens_at m cs j c hc
    exact ih j c' u hc' hu hm
  | slv β s es A c a xs hs hc hm hA hl h1 hx hh _ => intro β' _; exact .slv _ s es A c a xs hs hc hm hA hl h1 hx hh
  | slz β s A => intro β' _; exact .slz _ s A
  | eref β s es i off a xs hi hs hSa hl h1 hx hh _ => intro β' _; exact .eref _ s es i off a xs hi hs hSa hl h1 hx hh
  | ref β cs a xs hSa hl h1 hx hh _ => intro β' _; exact .ref _ cs a xs hSa hl h1 hx hh
  | ptr β id off g wd hbt =>
    intro β' hm
    simp only [AV.ren]
    split
    · rename_i j hj; exact .ptr _ j off g wd (hm _ _ _ hbt hj)
    · exact .unk _ _
  | eptr β id i off g n c wd hbt =>
    intro β' hm
    simp only [AV.ren]
    split
    · rename_i j hj; exact .eptr _ j i off g n c wd (hm _ _ _ hbt hj)
    · exact .unk _ _
  | own β id v wd hbt =>
    intro β' hm
    simp only [AV.ren]
    split
    · rename_i j hj; exact .own _ j v wd (hm _ _ _ hbt hj)
    · exact .unk _ _
  | sub β id lo len A n c wd hbt =>
    intro β' hm
    simp only [AV.ren]
    split
    · rename_i j hj; exact .sub _ j lo len A n c wd (hm _ _ _ hbt hj)
    · exact .unk _ _
  | fn β f cs vs hl _ ih =>
    intro β' hm
    refine .fn _ f _ vs (by rw [rens_length]; exact hl) fun j c u hc hu => ?_
    obtain ⟨c', hc', rfl⟩ := rens_at m cs j c hc
    exact ih j c' u hc' hu hm

theorem rens_rel {w : World} {S : Nat → Prop} {m : Nat → Option Nat} {β β' : Bet} (hm : ∀ id x j, β id = some x → m id = some j → β' j = some x) {cs : List AV} {vs : List Value} (h : VRels w S β cs vs) : VRels w S β' (AV.rens m cs) vs := by
  refine ⟨by rw [rens_length]; exact h.1, fun j c u hc hu => ?_⟩
  obtain ⟨c', hc', rfl⟩ := rens_at m cs j c hc
  exact ren_rel (h.2 j c' u hc' hu) hm

theorem RowRel.ren {w : World} {S B B' : Nat → Prop} {β β' : Bet} {m : Nat → Option Nat} {id id' : Nat} {o : Option Nat} {r : Row} (h : RowRel w S B β id o r) (hm : ∀ id x j, β id = some x → m id = some j → β' j = some x) (hid : ∀ x, β id = some x → β' id' = some x) (hB : ∀ g, o = some g → ¬ B g → ¬ B' g) :
    RowRel w S B' β' id' o (r.ren m) := by
  cases r with
  | box imm cs =>
    obtain ⟨g, vs, t, ho, hb, hh, hv, hi, hj, hBg⟩ := h
    exact ⟨g, vs, t, ho, hid _ hb, hh, rens_rel hm hv, hi, hj, hB g ho hBg⟩
  | arr imm s e es csp =>
    obtain ⟨hp, v, sp, xs, hsh, hcs, hb, h1, hv, hor⟩ := h
    refine ⟨hp, v, sp, xs, hsh, hcs, hid _ hb, h1, hv, ?_⟩
    rcases hor with h | ⟨g, ho, hvv, hBg, rest⟩
    · exact .inl h
    · exact .inr ⟨g, ho, hvv, hB g ho hBg, rest⟩
  | foc imm s e pre cs post =>
    obtain ⟨hp, hcl, g, sp, xs, us, ys, h1, h2, ho, hb, h3, vx, vu, vy, hBg, rest⟩ := h
    exact ⟨hp, by rw [rens_length]; exact hcl, g, sp, xs, us, ys, h1, h2, ho, hid _ hb, h3, vx, rens_rel hm vu, vy, hB g ho hBg, rest⟩
theorem RowRel.forget {w : World} {S B : Nat → Prop} {β : Bet} {id : Nat} {o : Option Nat} {r : Row} (h : RowRel w S B β id o r) : RowRel w S B β id o r.forget := by
  cases r with
  | box imm cs => exact h
  | arr imm s e es csp =>
    obtain ⟨hp, v, sp, xs, hsh, hcs, rest⟩ := h
    exact ⟨hp, v, sp, xs, hsh, (fun c h => by cases h), rest⟩
  | foc imm s e pre cs post => exact h
theorem RowRel.place {w : World} {S B : Nat → Prop} {β : Bet} {id : Nat} {o : Option Nat} {r : Row} (h : RowRel w S B β id o r) : (∃ x, β id = some x) ∧ ∀ g, o = some g → ¬ B g := by
  cases r with
  | box imm cs =>
    obtain ⟨g, vs, t, ho, hb, hh, hv, hi, hj, hBg⟩ := h
    exact ⟨⟨_, hb⟩, fun g' hg' => by rw [ho] at hg'; cases hg'; exact hBg⟩
  | arr imm s e es csp =>
    obtain ⟨hp, v, sp, xs, hsh, hcs, hb, h1, hv, hor⟩ := h
    refine ⟨⟨_, hb⟩, fun g' hg' => ?_⟩
    rcases hor with ⟨_, _, ho, _⟩ | ⟨g, ho, hvv, hBg, rest⟩
    · rw [ho] at hg'; cases hg'
    · rw [ho] at hg'; cases hg'; exact hBg
  | foc imm s e pre cs post =>
    obtain ⟨hp, hcl, g, sp, xs, us, ys, h1, h2, ho, hb, h3, vx, vu, vy, hBg, rest⟩ := h
    exact ⟨⟨_, hb⟩, fun g' hg' => by rw [ho] at hg'; cases hg'; exact hBg⟩
def Row.imm : Row → Bool
  | .box i _ => i
  | .arr i _ _ _ _ => i
  | .foc i _ _ _ _ _ => i
theorem RowRel.free {w : World} {S B : Nat → Prop} {β : Bet} {id : Nat} {o : Option Nat} {r : Row} (h : RowRel w S B β id o r) (hi : r.imm = false) : ∀ g, o = some g → ¬ S g := by
  cases r with
  | box imm cs =>
    obtain ⟨g, vs, t, ho, hb, hh, hv, hi', hj, hBg⟩ := h
    intro g' hg'; rw [ho] at hg'; cases hg'; exact hi' hi
  | arr imm s e es csp =>
    obtain ⟨hp, v, sp, xs, hsh, hcs, hb, h1, hv, hor⟩ := h
    intro g' hg'
    rcases hor with ⟨_, _, ho, _⟩ | ⟨g, ho, hvv, hBg, _, _, hi', _⟩
    · rw [ho] at hg'; cases hg'
    · rw [ho] at hg'; cases hg'; exact hi' hi
  | foc imm s e pre cs post =>
    obtain ⟨hp, hcl, g, sp, xs, us, ys, h1, h2, ho, hb, h3, vx, vu, vy, hBg, hh, hm, hi', _⟩ := h
    intro g' hg'
    rw [ho] at hg'
    cases hg'
    exact hi' hi

/-! ### Opening -/
section opn
variable {w : World} {S B : Nat → Prop} {β : Bet} {og : Nat → Option Nat} {rows : List (Nat × Row)}

theorem VRels.tail_with {ids ids' : List Nat} (hs : ∀ i ∈ ids, i ∈ ids') {cs : List AV} {vs : List Value} (h : VRels w (With S og ids) β cs vs) : VRels w (With S og ids') β cs vs := h.keepS fun _ hb => With.sub hs hb

theorem purL_soundX {f : AV → Option (AV × List Nat)} (hf : ∀ v v' ids u, f v = some (v', ids) → VRel w S β v u → VRel w (With S og ids) β v' u) :
    ∀ (cs : List AV) (cs' : List AV) (ids : List Nat) {vs : List Value}, purL f cs = some (cs', ids) → VRels w S β cs vs → VRels w (With S og ids) β cs' vs
  | [], cs', ids, vs, h, hv => by simp [purL] at h; obtain ⟨rfl, rfl⟩ := h; rw [hv.inv_nil]; exact VRels.nil
  | c :: cs, cs', ids, vs, h, hv => by
    simp only [purL] at h
    cases hc : f c with
    | none => simp [hc] at h
    | some q =>
      cases hq : purL f cs with
      | none => simp [hc, hq] at h
      | some q' =>
        simp [hc, hq] at h
        obtain ⟨rfl, rfl⟩ := h
        obtain ⟨u, us, rfl, hu, hus⟩ := hv.inv
        exact VRels.cons ((hf c q.1 q.2 u hc hu).keepS fun b => With.sub (fun i hi => by simp [hi])) ((purL_soundX hf cs q'.1 q'.2 hq hus).keepS fun b => With.sub (fun i hi => by simp [hi]))

theorem opn1_sound (hrow : ∀ id r, lookup rows id = some r → RowRel w S B β id (og id) r) : ∀ (n : Nat) (v v' : AV) (ids : List Nat) (u : Value), opn1 rows n v = some (v', ids) → VRel w S β v u → VRel w (With S og ids) β v' u := by
  intro n
  induction n with
  | zero => intro v v' ids u h; simp [opn1] at h
  | succ n ih =>
    intro v v' ids u h hv
    have hL := purL_soundX (w := w) (S := S) (β := β) (og := og) (f := opn1 rows n) ih
    have pure : ∀ x, pur1 rows depth x = some (v', ids) → VRel w S β x u → VRel w (With S og ids) β v' u := fun x hx hv =>
      (pur1_sound (w := w) (S := S) (B := B) (β := β) (og := og) (rows := rows) hrow depth _ _ _ _ hx hv).mono (fun _ h => h) (fun _ _ => rfl) (fun _ _ h => by cases h)
    cases v <;> simp only [opn1] at h
    case ptr i off =>
      split at h
      · cases h; exact hv.keepS fun _ => With.left
      · exact pure _ h hv
      · cases h
    case eptr i j off =>
      split at h
      · cases h; exact hv.keepS fun _ => With.left
      · exact pure _ h hv
      · cases h
    case own i =>
      split at h
      · cases h; exact hv.keepS fun _ => With.left
      · exact pure _ h hv
      · cases h; exact hv.keepS fun _ => With.left
      · exact pure _ h hv
      · cases h; exact hv.keepS fun _ => With.left
      · cases h
    case sub i lo m =>
      split at h
      · cases h; exact hv.keepS fun _ => With.left
      · exact pure _ h hv
      · cases h
    case agg cs =>
      cases hp : purL (opn1 rows n) cs with
      | none => simp [hp] at h
      | some q =>
        simp [hp] at h
        obtain ⟨rfl, rfl⟩ := h
        cases hv with
        | agg _ _ vs hl h1 hh =>
          have := hL cs q.1 q.2 hp ⟨hl, hh⟩
          exact .agg _ _ _ this.1 h1 this.2
    case tup cs =>
      cases hp : purL (opn1 rows n) cs with
      | none => simp [hp] at h
      | some q =>
        simp [hp] at h
        obtain ⟨rfl, rfl⟩ := h
        cases hv with
        | tup _ _ vs hl hh =>
          have := hL cs q.1 q.2 hp ⟨hl, hh⟩
          exact .tup _ _ _ this.1 this.2
    case fn f cs =>
      cases hp : purL (opn1 rows n) cs with
      | none => simp [hp] at h
      | some q =>
        simp [hp] at h
        obtain ⟨rfl, rfl⟩ := h
        cases hv with
        | fn _ _ _ vs hl hh =>
          have := hL cs q.1 q.2 hp ⟨hl, hh⟩
          exact .fn _ _ _ _ this.1 this.2
    all_goals (cases h; exact hv.keepS fun _ => With.left)

theorem opn1_in : ∀ (n : Nat) (v : AV) (p : AV × List Nat), opn1 rows n v = some p → ∀ id ∈ p.2, ∃ r, lookup rows id = some r := by
  intro n
  induction n with
  | zero => intro v p h; simp [opn1] at h
  | succ n ih =>
    intro v p h id hid
    have hL := purL_in (rows := rows) (f := opn1 rows n) ih
    have pure : ∀ x, pur1 rows depth x = some p → ∃ r, lookup rows id = some r := fun x hx => pur1_in _ _ _ hx id hid
    cases v <;> simp only [opn1] at h
    case ptr i off =>
      split at h
      · cases h; simp at hid
      · exact pure _ h
      · cases h
    case eptr i j off =>
      split at h
      · cases h; simp at hid
      · exact pure _ h
      · cases h
    case own i =>
      split at h
      · cases h; simp at hid
      · exact pure _ h
      · cases h; simp at hid
      · exact pure _ h
      · cases h; simp at hid
      · cases h
    case sub i lo m =>
      split at h
      · cases h; simp at hid
      · exact pure _ h
      · cases h
    case agg cs =>
      cases hp : purL (opn1 rows n) cs with
      | none => simp [hp] at h
      | some q => simp [hp] at h; subst h; exact hL cs q hp id hid
    case tup cs =>
      cases hp : purL (opn1 rows n) cs with
      | none => simp [hp] at h
      | some q => simp [hp] at h; subst h; exact hL cs q hp id hid
    case fn f cs =>
      cases hp : purL (opn1 rows n) cs with
      | none => simp [hp] at h
      | some q => simp [hp] at h; subst h; exact hL cs q hp id hid
    all_goals (cases h; simp at hid)

theorem rowsAt_in : ∀ (ids : List Nat) (q : List Row × List Nat), rowsAt rows ids = some q → ∀ id ∈ q.2, ∃ r, lookup rows id = some r
  | [], q, h, id, hid => by simp [rowsAt] at h; subst h; simp at hid
  | i :: is, q, h, id, hid => by
    simp only [rowsAt] at h
    split at h
    · cases h
    · rename_i q' hq
      split at h
      · rename_i cs hl
        split at h
        · rename_i p hp
          cases h
          simp only [List.mem_append] at hid
          rcases hid with hid | hid
          · exact purL_in (rows := rows) (opn1_in depth) _ _ hp id hid
          · exact rowsAt_in is q' hq id hid
        · cases h
      · cases h
        exact rowsAt_in is q' hq id hid
      · split at h
        · rename_i p hp
          cases h
          simp only [List.mem_append] at hid
          rcases hid with hid | hid
          · exact purL_in (rows := rows) (opn1_in depth) _ _ hp id hid
          · exact rowsAt_in is q' hq id hid
        · cases h
      · cases h

/-- The rows that are handed over. -/
theorem rowsAt_sound (hrow : ∀ id r, lookup rows id = some r → RowRel w S B β id (og id) r) (inj : ∀ id id' g, og id = some g → og id' = some g → id = id') : ∀ (ids : List Nat) (rs : List Row) (fz fz' : List Nat), rowsAt rows ids = some (rs, fz) → (∀ i ∈ fz, i ∈ fz') → (∀ i ∈ fz', i ∉ ids) →
    rs.length = ids.length ∧ ∀ (j i : Nat), ids[j]? = some i → ∃ r r0, rs[j]? = some r ∧ lookup rows i = some r0 ∧ r0.imm = false ∧ RowRel w (With S og fz') B β i (og i) r ∧ r.imm = false
  | [], rs, fz, fz', h, _, _ => by simp [rowsAt] at h; obtain ⟨rfl, rfl⟩ := h; exact ⟨rfl, fun j i hj => by simp at hj⟩
  | i :: is, rs, fz, fz', h, hfz, hd => by
    have key : ∀ (r : Row), lookup rows i = some r → r.imm = false → RowRel w (With S og fz') B β i (og i) r := fun r hr him =>
      (hrow i r hr).keep (fun _ _ h => h) (fun _ => With.left) (fun g hg hs => by
        rcases hs with hs | ⟨i', hi', hg'⟩
        · exact hs
        · exact absurd (inj i i' g hg hg' ▸ hi' : i ∈ fz') (fun h => hd i h (by simp))) (fun _ _ => rfl) (fun _ _ => rfl)
    simp only [rowsAt] at h
    split at h
    · cases h
    · rename_i q' hq
      obtain ⟨rs', fz2⟩ := q'
      have step : ∀ (r r0 : Row), lookup rows i = some r0 → r0.imm = false → RowRel w (With S og fz') B β i (og i) r → r.imm = false → rs = r :: rs' → (∀ x ∈ fz2, x ∈ fz') → rs.length = (i :: is).length ∧ ∀ (j i' : Nat), (i :: is)[j]? = some i' → ∃ r r0, rs[j]? = some r ∧ lookup rows i' = some r0 ∧ r0.imm = false ∧ RowRel w (With S og fz') B β i' (og i') r ∧ r.imm = false := by
        intro r r0 hl h0 hr hi he hf2
        subst he
        obtain ⟨i1, i2⟩ := rowsAt_sound hrow inj is rs' fz2 fz' hq hf2 (fun x hx hin => hd x hx (by simp [hin]))
        refine ⟨by simp [i1], fun j i' hj => ?_⟩
        cases j with
        | zero => simp at hj; subst hj; exact ⟨r, r0, rfl, hl, h0, hr, hi⟩
        | succ j => simp at hj; simpa using i2 j i' hj
      split at h
      · rename_i cs hl
        split at h
        · rename_i p hp
          cases h
          refine step _ _ hl rfl ?_ rfl rfl (fun x hx => hfz x (by simp [hx]))
          obtain ⟨g, vs, t, ho, hb, hh, hv, hi, hj, hBg⟩ := hrow i _ hl
          obtain ⟨_, _, _, ho', _, _, _, hi', _, _⟩ := key _ hl rfl
          rw [ho] at ho'
          cases ho'
          obtain ⟨p1, p2⟩ := p
          exact ⟨g, vs, t, ho, hb, hh, (purL_soundX (opn1_sound hrow depth) cs p1 p2 hp hv).keepS fun b => With.sub (fun x hx => hfz x (by simp [hx])), hi', (fun h => by cases h), hBg⟩
        · cases h
      · rename_i s e es sp hl
        cases h
        exact step _ _ hl rfl (key _ hl rfl) rfl rfl hfz
      · rename_i s e pre cs post hl
        split at h
        · rename_i p hp
          cases h
          refine step _ _ hl rfl ?_ rfl rfl (fun x hx => hfz x (by simp [hx]))
          obtain ⟨q1, q2, g, sp, xs, us, ys, h1, h2, ho, hb, h3, vx, vu, vy, hBg, hh, hm, hi, hj⟩ := hrow i _ hl
          obtain ⟨_, _, _, _, _, _, _, _, _, ho', _, _, _, _, _, _, _, _, hi', _⟩ := key _ hl rfl
          rw [ho] at ho'
          cases ho'
          have hlen := purL_length cs p hp
          obtain ⟨p1, p2⟩ := p
          exact ⟨q1, hlen.trans q2, g, sp, xs, us, ys, h1, h2, ho, hb, h3, vx.keepS fun b => With.left, (purL_soundX (opn1_sound hrow depth) cs p1 p2 hp vu).keepS fun b => With.sub (fun x hx => hfz x (by simp [hx])), vy.keepS fun b => With.left, hBg, hh, hm, hi', (fun h => by cases h)⟩
        · cases h
      · cases h
end opn

/-! ### Tables of numbers -/
theorem idx_some : ∀ (l : List Nat) (i j : Nat), idx l i = some j → l[j]? = some i
  | [], i, j, h => by simp [idx] at h
  | x :: l, i, j, h => by
    simp only [idx] at h
    split at h
    · rename_i e; cases h; simp [e]
    · cases hi : idx l i with
      | none => simp [hi] at h
      | some k => simp [hi] at h; subst h; simpa using idx_some l i k hi
theorem nodupB_spec : ∀ (l : List Nat), nodupB l = true → ∀ (j j' i : Nat), l[j]? = some i → l[j']? = some i → j = j'
  | [], _, j, j', i, h, _ => by simp at h
  | x :: l, h, j, j', i, hj, hj' => by
    simp only [nodupB, Bool.and_eq_true, Bool.not_eq_true'] at h
    have hx : x ∉ l := by simpa using h.1
    cases j <;> cases j' <;> simp at hj hj'
    · rfl
    · subst hj; exact absurd (List.mem_of_getElem? hj') hx
    · subst hj'; exact absurd (List.mem_of_getElem? hj) hx
    · rw [nodupB_spec l h.2 _ _ i hj hj']
theorem lookup_zipIds : ∀ (rs : List Row) (b id : Nat) (r : Row), lookup (zipIds b rs) id = some r → b ≤ id ∧ rs[id - b]? = some r
  | [], b, id, r, h => by simp [zipIds, lookup] at h
  | x :: rs, b, id, r, h => by
    simp only [zipIds, lookup] at h
    split at h
    · rename_i e; cases h; subst e; simp
    · obtain ⟨h1, h2⟩ := lookup_zipIds rs (b + 1) id r h
      refine ⟨by omega, ?_⟩
      rw [show id - b = (id - (b + 1)) + 1 from by omega]
      simpa using h2
theorem lookup_foldl_set : ∀ (l : List (Nat × Row)) (rows : List (Nat × Row)) (id : Nat) (r : Row), lookup (l.foldl (fun rs p => setRow rs p.1 p.2) rows) id = some r → (id, r) ∈ l ∨ ((∀ p ∈ l, p.1 ≠ id) ∧ lookup rows id = some r)
  | [], rows, id, r, h => .inr ⟨by simp, h⟩
  | (i, x) :: l, rows, id, r, h => by
    simp only [List.foldl_cons] at h
    rcases lookup_foldl_set l _ id r h with h | ⟨h1, h2⟩
    · exact .inl (by simp [h])
    · rw [lookup_setRow] at h2
      split at h2
      · rename_i e; cases h2; subst e; exact .inl (by simp)
      · rename_i e
        refine .inr ⟨fun p hp => ?_, h2⟩
        rcases List.mem_cons.1 hp with rfl | hp
        · exact fun e' => e e'.symm
        · exact h1 p hp
theorem lookup_foldl_del : ∀ (l : List Nat) (rows : List (Nat × Row)) (id : Nat) (r : Row), lookup (l.foldl delRow rows) id = some r → id ∉ l ∧ lookup rows id = some r
  | [], rows, id, r, h => ⟨by simp, h⟩
  | i :: l, rows, id, r, h => by
    simp only [List.foldl_cons] at h
    obtain ⟨h1, h2⟩ := lookup_foldl_del l _ id r h
    rw [lookup_delRow] at h2
    split at h2
    · cases h2
    · rename_i e; exact ⟨by simp only [List.mem_cons, not_or]; exact ⟨e, h1⟩, h2⟩
theorem delsOf_mem : ∀ (ids : List Nat) (rs : List (Option Row)) (j i : Nat), ids[j]? = some i → rs[j]? = some none → i ∈ delsOf ids rs
  | [], _, j, i, h, _ => by simp at h
  | _ :: _, [], j, i, _, h => by simp at h
  | x :: ids, y :: rs, j, i, h, h' => by
    cases j with
    | zero => simp at h h'; subst h; subst h'; simp [delsOf]
    | succ j =>
      have := delsOf_mem ids rs j i (by simpa using h) (by simpa using h')
      cases y <;> simp [delsOf, this]
theorem modsOf_mem (m : Nat → Option Nat) : ∀ (ids : List Nat) (rs : List (Option Row)) (j i : Nat) (r : Row), ids[j]? = some i → rs[j]? = some (some r) → (i, r.ren m) ∈ modsOf m ids rs
  | [], _, j, i, r, h, _ => by simp at h
  | _ :: _, [], j, i, r, _, h => by simp at h
  | x :: ids, y :: rs, j, i, r, h, h' => by
    cases j with
    | zero => simp at h h'; subst h; subst h'; simp [modsOf]
    | succ j =>
      have := modsOf_mem m ids rs j i r (by simpa using h) (by simpa using h')
      cases y <;> simp [modsOf, this]
theorem modsOf_inv (m : Nat → Option Nat) : ∀ (ids : List Nat) (rs : List (Option Row)) (i : Nat) (r : Row), (i, r) ∈ modsOf m ids rs → ∃ (j : Nat) (r0 : Row), ids[j]? = some i ∧ rs[j]? = some (some r0) ∧ r = r0.ren m
  | [], _, i, r, h => by simp [modsOf] at h
  | _ :: _, [], i, r, h => by simp [modsOf] at h
  | x :: ids, y :: rs, i, r, h => by
    cases y with
    | none =>
      simp only [modsOf] at h
      obtain ⟨j, r0, h1, h2, h3⟩ := modsOf_inv m ids rs i r h
      exact ⟨j + 1, r0, by simpa using h1, by simpa using h2, h3⟩
    | some z =>
      simp only [modsOf, List.mem_cons, Prod.mk.injEq] at h
      rcases h with ⟨rfl, rfl⟩ | h
      · exact ⟨0, z, rfl, rfl, rfl⟩
      · obtain ⟨j, r0, h1, h2, h3⟩ := modsOf_inv m ids rs i r h
        exact ⟨j + 1, r0, by simpa using h1, by simpa using h2, h3⟩
theorem newsOf_inv (m : Nat → Option Nat) (site : Nat) : ∀ (rs : List Row) (b i : Nat) (r : Row), (i, r) ∈ newsOf m site b rs → ∃ (j : Nat) (r0 : Row), i = newId site (b + j) ∧ rs[j]? = some r0 ∧ r = r0.ren m
  | [], b, i, r, h => by simp [newsOf] at h
  | x :: rs, b, i, r, h => by
    simp only [newsOf, List.mem_cons, Prod.mk.injEq] at h
    rcases h with ⟨rfl, rfl⟩ | h
    · exact ⟨0, x, rfl, rfl, rfl⟩
    · obtain ⟨j, r0, h1, h2, h3⟩ := newsOf_inv m site rs (b + 1) i r h
      exact ⟨j + 1, r0, by rw [h1]; congr 1; omega, by simpa using h2, h3⟩
theorem newsOf_keys (m : Nat → Option Nat) (site : Nat) : ∀ (rs : List Row) (b j : Nat), j < rs.length → newId site (b + j) ∈ (newsOf m site b rs).map (·.1)
  | [], b, j, h => by simp at h
  | x :: rs, b, j, h => by
    cases j with
    | zero => simp [newsOf]
    | succ j =>
      have := newsOf_keys m site rs (b + 1) j (by simpa using h)
      rw [show b + 1 + j = b + (j + 1) from by omega] at this
      simp only [newsOf, List.map_cons, List.mem_cons]
      exact .inr this
theorem newId_inj {site j j' : Nat} (h : newId site j = newId site j') : j = j' := by unfold newId at h; omega

end Go.Ev

namespace Go.Ev
open Go.RowKit

/-- Rows in memory. -/
structure Heap (w : World) (S B : Nat → Prop) (β : Bet) (og : Nat → Option Nat) (rows : List (Nat × Row)) : Prop where
  row : ∀ id r, lookup rows id = some r → RowRel w S B β id (og id) r
  inj : ∀ id id' g, og id = some g → og id' = some g → id = id'
  lt : ∀ id g, og id = some g → g < w.heap.size
  one : ∀ id x, β id = some x → x.1.oneCell' = true
  Slt : ∀ b, S b → b < w.heap.size
  Ble : ∀ b, B b → b < w.heap.size

/-- What a call leaves. -/
structure After (w : World) (S B : Nat → Prop) (β : Bet) (prow : List (Option Row)) (nrow : List Row) (v : AV) (u : Value) (w' : World) (S' : Nat → Prop) (β' : Bet) (og' : Nat → Option Nat) : Prop where
  kept : Kept B w w'
  sub : ∀ b, S b → S' b
  sin : ∀ b, S' b → S b ∨ ¬ B b
  val : VRel w' S' β' v u
  prow : ∀ (j : Nat) (r : Row), prow[j]? = some (some r) → RowRel w' S' B β' (PID + j) (og' (PID + j)) r
  nrow : ∀ (j : Nat) (r : Row), nrow[j]? = some r → RowRel w' S' B β' (RID + j) (og' (RID + j)) r
  inj : ∀ id id' g, og' id = some g → og' id' = some g → id = id'
  lt : ∀ id g, og' id = some g → g < w'.heap.size
  one : ∀ id x, β' id = some x → x.1.oneCell' = true
  Slt : ∀ b, S' b → b < w'.heap.size
  bet : ∀ id x, id < RID → β' id = some x → β id = some x

def XOK (P : Program) (f : FuncId) (F : SummX) : Prop :=
  ∀ (ρ : Type) (w : World) (S B : Nat → Prop) (β : Bet) (og : Nat → Option Nat) (avs : List AV) (rows : List Row) (args : List Value) (k : AV → List (Option Row) → List Row → Option ρ) (r : ρ),
    Heap w S B β og (zipIds PID rows) → (∀ b, S b → B b) ∧ Glb B w → (∀ id x, β id = some x → PID ≤ id ∧ id < PID + rows.length) → VRels w S β avs args → F ρ avs rows k = some r →
    Goes P f args.toArray w fun e w' => ∃ u v prow nrow S' β' og', e = .returned u ∧ k v prow nrow = some r ∧ After w S B β prow nrow v u w' S' β' og'
/-- What follows a call may follow it later. -/
def XNat (F : SummX) : Prop := ∀ (ρ : Type) (avs : List AV) (rows : List Row) (k : AV → List (Option Row) → List Row → Option ρ), F ρ avs rows k = (F (AV × List (Option Row) × List Row) avs rows fun v p n => some (v, p, n)).bind fun x => k x.1 x.2.1 x.2.2

/-- The places of the rows that are handed over. -/
def openBet {α : Type} (f : Nat → Option α) (ids : List Nat) (id : Nat) : Option α := if PID ≤ id then (ids[id - PID]?).bind f else none
theorem openBet_at {α : Type} (f : Nat → Option α) {ids : List Nat} {j i : Nat} (h : ids[j]? = some i) : openBet f ids (PID + j) = f i := by
  unfold openBet
  rw [if_pos (by omega), show PID + j - PID = j from by omega, h]
  rfl
theorem openBet_inv {α : Type} {f : Nat → Option α} {ids : List Nat} {id : Nat} {x : α} (h : openBet f ids id = some x) : ∃ j i, id = PID + j ∧ ids[j]? = some i ∧ f i = some x := by
  unfold openBet at h
  split at h
  · rename_i hp
    cases hi : ids[id - PID]? with
    | none => simp [hi] at h
    | some i => exact ⟨id - PID, i, by omega, hi, by simpa [hi] using h⟩
  · cases h

section ops
variable {R : Option Nat} {ρ : Type} {P : Program} {w0 w : World} {S0 S : Nat → Prop} {B : Ctx} {β : Bet} {og : Nat → Option Nat} {st : St} {a : Act} {o : Oper} {site : Nat} {y : Eff → Option ρ} {r : ρ}
  {K : Act → World → Prop} {Q : Exit → Act → World → Prop}

def isNew (site n id : Nat) : Option Nat := if id = newId site ((id - site) / 4294967296 - 1) then (if (id - site) / 4294967296 - 1 < n then some ((id - site) / 4294967296 - 1) else none) else none
theorem isNew_at {site n j : Nat} (h : j < n) : isNew site n (newId site j) = some j := by
  have e : (newId site j - site) / 4294967296 - 1 = j := by unfold newId; omega
  unfold isNew
  rw [e]
  simp [h]
theorem isNew_inv {site n id j : Nat} (h : isNew site n id = some j) : id = newId site j ∧ j < n := by
  unfold isNew at h
  split at h
  · rename_i e
    split at h
    · rename_i hl; cases h; exact ⟨e, hl⟩
    · cases h
  · cases h

/-- The state behind a call that was handed rows. -/
theorem after_rel' (hR : Rel w S B β og st a) (hO : Out w0 S0 B w S) {ids : List Nat} (hnd : ∀ (j j' i : Nat), ids[j]? = some i → ids[j']? = some i → j = j') (himm : ∀ i ∈ ids, ∃ r, lookup st.rows i = some r ∧ r.imm = false) (hsm : ids.length ≤ 1000000)
    {prow : List (Option Row)} {nrow : List Row} {v : AV} {u : Value} {w' : World} {S' : Nat → Prop} {β' : Bet} {og' : Nat → Option Nat} (hlen : prow.length = ids.length) (dst : Option Tmp)
    (hA : After w S (fun b => b < w.heap.size ∧ ∀ i ∈ ids, og i ≠ some b) (openBet β ids) prow nrow v u w' S' β' og')
    (hfr : ∀ p ∈ newsOf (back site ids nrow.length) site 0 nrow, p.1 ∉ st.used ∧ p.1 < PID) {rows' : List (Nat × Row)}
    (hrows : ∀ id r, lookup rows' id = some r → (id, r) ∈ newsOf (back site ids nrow.length) site 0 nrow ∨ (id, r) ∈ modsOf (back site ids nrow.length) ids prow ∨ (id ∉ delsOf ids prow ∧ (∀ p ∈ modsOf (back site ids nrow.length) ids prow, p.1 ≠ id) ∧ lookup st.rows id = some r)) :
    ∃ S2 β2 og2, Rel w' S2 B β2 og2 ⟨putTm st.tm dst (v.ren (back site ids nrow.length)), rows', (newsOf (back site ids nrow.length) site 0 nrow).map (·.1) ++ st.used⟩ (a.put dst u) ∧ Out w0 S0 B w' S2 ∧ ∀ id x, β id = some x → β2 id = some x := by
  have hnew : ∀ j, j < nrow.length → newId site j ∉ st.used ∧ newId site j < PID := fun j hj => by
    have := newsOf_keys (back site ids nrow.length) site nrow 0 j hj
    rw [Nat.zero_add] at this
    obtain ⟨p, hp, he⟩ := List.mem_map.1 this
    rw [← he]
    exact hfr p hp
  have hisused : ∀ id x, β id = some x → isNew site nrow.length id = none := fun id x hx => by
    cases hi : isNew site nrow.length id with
    | none => rfl
    | some j =>
      obtain ⟨e, hj⟩ := isNew_inv hi
      exact absurd (by rw [← e]; exact hR.used id x hx) (hnew j hj).1
  have hBB : ∀ b, B b → b < w.heap.size ∧ ∀ i ∈ ids, og i ≠ some b := fun b hb => ⟨hR.Ble b hb, fun i hi hg => by
    obtain ⟨r, hr, _⟩ := himm i hi
    exact (hR.row i r hr).place.2 b hg hb⟩
  have hSB : ∀ b, S b → b < w.heap.size ∧ ∀ i ∈ ids, og i ≠ some b := fun b hb => ⟨hR.Slt b hb, fun i hi hg => by
    obtain ⟨r, hr, hm⟩ := himm i hi
    exact (hR.row i r hr).free hm b hg hb⟩
  have hw : ∀ b, S b → w'.heap[b]? = w.heap[b]? := fun b hb => hA.kept.block b (hSB b hb)
  have hβ : ∀ id x, β id = some x → (match isNew site nrow.length id with | some j => β' (RID + j) | none => β id) = some x := fun id x hx => by
    rw [hisused id x hx]; exact hx
  have hm : ∀ id x j, β' id = some x → back site ids nrow.length id = some j → (match isNew site nrow.length j with | some j => β' (RID + j) | none => β j) = some x := fun id x j hx hj => by
    unfold back at hj
    split at hj
    · cases hj
    · split at hj
      · rename_i h1 h2
        have hlt : id < RID := Nat.blt_eq ▸ h2
        obtain ⟨j', i, e1, e2, e3⟩ := openBet_inv (hA.bet id x hlt hx)
        have : id - PID = j' := by omega
        rw [this, e2] at hj
        cases hj
        exact hβ _ _ e3
      · rename_i h1 h2
        split at hj
        · rename_i h3
          cases hj
          have h3' : id - RID < nrow.length := Nat.blt_eq ▸ h3
          rw [isNew_at h3']
          have h2' : ¬ id < RID := fun h => h2 (by rw [Nat.blt_eq]; exact h)
          show β' (RID + (id - RID)) = some x
          rw [show RID + (id - RID) = id from by omega]
          exact hx
        · cases hj
  have hog1 : ∀ j, j < nrow.length → (match isNew site nrow.length (newId site j) with | some j => og' (RID + j) | none => (match idx ids (newId site j) with | some j => (match prow[j]? with | some (some _) => og' (PID + j) | _ => none) | none => og (newId site j))) = og' (RID + j) := fun j hj => by rw [isNew_at hj]
  have hidx : ∀ j i, ids[j]? = some i → idx ids i = some j := fun j i h => by
    have aux : ∀ (l : List Nat) (j i : Nat), l[j]? = some i → ∃ j', idx l i = some j' := by
      intro l
      induction l with
      | nil => intro j i h; simp at h
      | cons x l ih =>
        intro j i h
        by_cases e : i = x
        · exact ⟨0, by simp [idx, e]⟩
        · cases j with
          | zero => simp at h; exact absurd h.symm e
          | succ j =>
            obtain ⟨j', hj'⟩ := ih j i (by simpa using h)
            exact ⟨j' + 1, by simp [idx, e, hj']⟩
    obtain ⟨j', hj'⟩ := aux ids j i h
    rw [hj', hnd j j' i h (idx_some ids i j' hj')]
  have hopn : ∀ j i, ids[j]? = some i → isNew site nrow.length i = none := fun j i h => by
    obtain ⟨r, hr, _⟩ := himm i (List.mem_of_getElem? h)
    obtain ⟨x, hx⟩ := (hR.row i r hr).place.1
    exact hisused i x hx
  have hog2 : ∀ j i r, ids[j]? = some i → prow[j]? = some (some r) → (match isNew site nrow.length i with | some j => og' (RID + j) | none => (match idx ids i with | some j => (match prow[j]? with | some (some _) => og' (PID + j) | _ => none) | none => og i)) = og' (PID + j) := fun j i r h hp => by
    rw [hopn j i h, hidx j i h]
    simp only [hp]
  have hog3 : ∀ id, isNew site nrow.length id = none → id ∉ ids → (match isNew site nrow.length id with | some j => og' (RID + j) | none => (match idx ids id with | some j => (match prow[j]? with | some (some _) => og' (PID + j) | _ => none) | none => og id)) = og id := fun id h hn => by
    rw [h]
    cases hi : idx ids id with
    | none => rfl
    | some j => exact absurd (List.mem_of_getElem? (idx_some ids id j hi)) hn
  -- every number's place is one of the call's, or as it was
  have hcl : ∀ id g, (match isNew site nrow.length id with | some j => og' (RID + j) | none => (match idx ids id with | some j => (match prow[j]? with | some (some _) => og' (PID + j) | _ => none) | none => og id)) = some g →
      (∃ j, j < nrow.length ∧ id = newId site j ∧ og' (RID + j) = some g) ∨ (∃ j r, ids[j]? = some id ∧ prow[j]? = some (some r) ∧ og' (PID + j) = some g) ∨ (id ∉ ids ∧ og id = some g) := fun id g h => by
    cases hi : isNew site nrow.length id with
    | some j =>
      rw [hi] at h
      obtain ⟨e, hj⟩ := isNew_inv hi
      exact .inl ⟨j, hj, e, h⟩
    | none =>
      rw [hi] at h
      cases hx : idx ids id with
      | some j =>
        rw [hx] at h
        have hj := idx_some ids id j hx
        simp only at h
        split at h
        · rename_i r hp; exact .inr (.inl ⟨j, r, hj, hp, h⟩)
        · cases h
      | none =>
        rw [hx] at h
        refine .inr (.inr ⟨fun hin => ?_, h⟩)
        obtain ⟨j, hj, he⟩ := List.getElem_of_mem hin
        have := hidx j id (by rw [List.getElem?_eq_getElem hj, he])
        rw [hx] at this
        cases this
  have hnB1 : ∀ j, j < nrow.length → ∀ g, og' (RID + j) = some g → ¬ (g < w.heap.size ∧ ∀ i ∈ ids, og i ≠ some g) := fun j hj g hg => (hA.nrow j _ (List.getElem?_eq_getElem hj)).place.2 g hg
  have hnB2 : ∀ j r, prow[j]? = some (some r) → ∀ g, og' (PID + j) = some g → ¬ (g < w.heap.size ∧ ∀ i ∈ ids, og i ≠ some g) := fun j r hj g hg => (hA.prow j r hj).place.2 g hg
  have hyB : ∀ id g, id ∉ ids → og id = some g → (g < w.heap.size ∧ ∀ i ∈ ids, og i ≠ some g) := fun id g hn hg => ⟨hR.lt id g hg, fun i hi hg' => hn (hR.inj id i g hg hg' ▸ hi)⟩
  have hPR : PID + 1000000 < RID := by decide
  refine ⟨S', fun id => match isNew site nrow.length id with | some j => β' (RID + j) | none => β id, fun id => match isNew site nrow.length id with | some j => og' (RID + j) | none => (match idx ids id with | some j => (match prow[j]? with | some (some _) => og' (PID + j) | _ => none) | none => og id), ⟨?_, by rw [Act.put_defers]; exact hR.df, fun id r hr => ?_, fun id id' g hg hg' => ?_, fun id g hg => ?_, fun id x hx => ?_, fun id x hx => ?_, hA.Slt, fun b hb => Nat.lt_of_lt_of_le (hR.Ble b hb) hA.kept.size, fun id x hp hx => ?_⟩, ?_⟩
  · exact tm_put (hR.tm.mono hA.sub hw hβ) dst (ren_rel hA.val hm)
  · rcases hrows id r hr with h | h | ⟨h1, h2, h3⟩
    · obtain ⟨j, r0, e1, e2, rfl⟩ := newsOf_inv _ _ _ _ _ _ h
      rw [Nat.zero_add] at e1
      subst e1
      have hj : j < nrow.length := (List.getElem?_eq_some_iff.1 e2).1
      rw [hog1 j hj]
      refine (hA.nrow j r0 e2).ren hm (fun x hx => ?_) (fun g hg hn hb => hn (hBB g hb))
      rw [isNew_at hj]
      exact hx
    · obtain ⟨j, r0, e1, e2, rfl⟩ := modsOf_inv _ _ _ _ _ h
      rw [hog2 j id r0 e1 e2]
      refine (hA.prow j r0 e2).ren hm (fun x hx => ?_) (fun g hg hn hb => hn (hBB g hb))
      have hjl : j < ids.length := (List.getElem?_eq_some_iff.1 e1).1
      obtain ⟨j', i, q1, q2, q3⟩ := openBet_inv (hA.bet _ x (by omega) hx)
      have : j = j' := by omega
      subst this
      rw [e1] at q2
      cases q2
      exact hβ _ _ q3
    · have hn : id ∉ ids := fun hin => by
        obtain ⟨j, hj, he⟩ := List.getElem_of_mem hin
        have hij : ids[j]? = some id := by rw [List.getElem?_eq_getElem hj, he]
        have hpj : j < prow.length := by rw [hlen]; exact hj
        cases hp : prow[j] with
        | none => exact h1 (delsOf_mem ids prow j id hij (by rw [List.getElem?_eq_getElem hpj, hp]))
        | some r' => exact h2 _ (modsOf_mem (back site ids nrow.length) ids prow j id r' hij (by rw [List.getElem?_eq_getElem hpj, hp])) rfl
      have h0 := hR.row id r h3
      obtain ⟨x, hx⟩ := h0.place.1
      rw [hog3 id (hisused id x hx) hn]
      refine h0.keep hβ hA.sub (fun g hg hs => ?_) hw (fun g hg => hA.kept.block g (hyB id g hn hg))
      exact (hA.sin g hs).elim (fun h => h) fun h => absurd (hyB id g hn hg) h
  · rcases hcl id g hg with ⟨j, hj, rfl, hgj⟩ | ⟨j, r, e1, e2, hgj⟩ | ⟨hn, hgj⟩ <;> rcases hcl id' g hg' with ⟨j', hj', rfl, hgj'⟩ | ⟨j', r', e1', e2', hgj'⟩ | ⟨hn', hgj'⟩
    · have := hA.inj _ _ g hgj hgj'
      rw [show j = j' from by omega]
    · have := hA.inj _ _ g hgj hgj'
      have hjl : j' < ids.length := (List.getElem?_eq_some_iff.1 e1').1
      omega
    · exact absurd (hyB _ g hn' hgj') (hnB1 j hj g hgj)
    · have := hA.inj _ _ g hgj hgj'
      have hjl : j < ids.length := (List.getElem?_eq_some_iff.1 e1).1
      omega
    · have := hA.inj _ _ g hgj hgj'
      have : j = j' := by omega
      subst this
      rw [e1] at e1'
      cases e1'
      rfl
    · exact absurd (hyB _ g hn' hgj') (hnB2 j r e2 g hgj)
    · exact absurd (hyB _ g hn hgj) (hnB1 j' hj' g hgj')
    · exact absurd (hyB _ g hn hgj) (hnB2 j' r' e2' g hgj')
    · exact hR.inj id id' g hgj hgj'
  · rcases hcl id g hg with ⟨j, hj, rfl, hgj⟩ | ⟨j, r, e1, e2, hgj⟩ | ⟨hn, hgj⟩
    · exact hA.lt _ g hgj
    · exact hA.lt _ g hgj
    · exact Nat.lt_of_lt_of_le (hR.lt id g hgj) hA.kept.size
  · split at hx
    · rename_i j hj
      obtain ⟨rfl, hjl⟩ := isNew_inv hj
      have := newsOf_keys (back site ids nrow.length) site nrow 0 j hjl
      rw [Nat.zero_add] at this
      exact List.mem_append_left _ this
    · exact List.mem_append_right _ (hR.used id x hx)
  · split at hx
    · exact hA.one _ x hx
    · exact hR.one id x hx
  · split at hx
    · rename_i j hj
      obtain ⟨rfl, hjl⟩ := isNew_inv hj
      have := (hnew j hjl).2
      omega
    · exact hR.pid id x hp hx
  · refine ⟨?_, hβ⟩
    exact ⟨⟨⟨hA.kept.os.trans hO.bel.os, hA.kept.tape.trans hO.bel.tape, hA.kept.output.trans hO.bel.output, Nat.le_trans hO.bel.size hA.kept.size, fun k hk => (hA.kept.block k (hBB k hk)).trans (hO.bel.block k hk)⟩, hO.bel.glb⟩,
      fun b hb => (hA.sin b hb).elim (hO.sin b) fun h => .inr fun hB => h (hBB b hB), fun b hb => hA.sub b (hO.sub b hb)⟩

theorem lookup_immL (fz : List Nat) (rows : List (Nat × Row)) (id : Nat) : lookup (match fz with | [] => rows | ids => setImm ids rows) id = lookup (setImm fz rows) id := by
  cases fz with
  | nil => rw [setImm_nil]
  | cons i is => rfl

/-- The rows that are reached begin with those that were there. -/
theorem reachF_pre {rows : List (Nat × Row)} {f : List AV → List Nat → List Nat} (hf : ∀ cs acc, acc <+: f cs acc) : ∀ (is acc : List Nat), acc <+: reachF rows f is acc
  | [], acc => by simp [reachF]
  | i :: is, acc => by
    simp only [reachF]
    split
    · exact reachF_pre hf is acc
    · split
      · exact ((List.prefix_append acc [i]).trans (hf _ _)).trans (reachF_pre hf is _)
      · exact (List.prefix_append acc [i]).trans (reachF_pre hf is _)
      · exact ((List.prefix_append acc [i]).trans (hf _ _)).trans (reachF_pre hf is _)
      · exact reachF_pre hf is acc
theorem reach_pre {rows : List (Nat × Row)} : ∀ (n : Nat) (avs : List AV) (acc : List Nat), acc <+: reach rows n avs acc
  | 0, avs, acc => by simp [reach]
  | n + 1, avs, acc => by
    simp only [reach]
    exact reachF_pre (fun cs acc => reach_pre n cs acc) _ _

/-- What a call whose arguments' rows are handed over comes to. -/
theorem evX_open (hR : Rel w S B β og st a) (hO : Out w0 S0 B w S) {rowsV : List (Nat × Row)} (hsub : ∀ id x, lookup rowsV id = some x → lookup st.rows id = some x) (hfr : ∀ e, y e = some r → freshB site e st.used = true) (dst : Option Tmp) {avs : List AV} {args : List Value} {F : SummX}
    (hargs : VRels w S β avs args) (h : evX site F avs rowsV y = some r) :
    ∃ (S1 B1 : Nat → Prop) (β1 : Bet) (og1 : Nat → Option Nat) (avs1 : List AV) (rows1 : List Row) (k1 : AV → List (Option Row) → List Row → Option ρ),
      Heap w S1 B1 β1 og1 (zipIds PID rows1) ∧ ((∀ b, S1 b → B1 b) ∧ Glb B1 w) ∧ (∀ id x, β1 id = some x → PID ≤ id ∧ id < PID + rows1.length) ∧ VRels w S1 β1 avs1 args ∧ F ρ avs1 rows1 k1 = some r ∧
      (∀ id rest key tm, avs = .own id :: rest → lookup rowsV id = some (.box false (.tup [.int .i64 key] :: tm)) → ∃ rest1 tm1 rows2, avs1 = .own PID :: rest1 ∧ rows1 = .box false (.tup [.int .i64 key] :: tm1) :: rows2 ∧ β1 PID = β id ∧ og1 PID = og id) ∧
      ∀ u v prow nrow w' S' β' og', k1 v prow nrow = some r → After w S1 B1 β1 prow nrow v u w' S' β' og' → ∃ e S2 β2 og2, y e = some r ∧ Rel w' S2 B β2 og2 (apply site dst e st) (a.put dst u) ∧ Out w0 S0 B w' S2 ∧ ∀ id x, β id = some x → β2 id = some x := by
  have hrow : ∀ id x, lookup rowsV id = some x → RowRel w S B β id (og id) x := fun id x hx => hR.row id x (hsub _ _ hx)
  unfold evX at h
  split at h
  · cases h
  · rename_i p hp
    obtain ⟨avs1, fz1⟩ := p
    split at h
    · cases h
    · rename_i q hq
      obtain ⟨rs, fz2⟩ := q
      split at h
      · rename_i hc
        simp only [Bool.and_eq_true] at hc
        obtain ⟨⟨hnd, hsm⟩, hdis⟩ := hc
        generalize hids : reach rowsV depth avs1 [] = ids at h hq hnd hsm hdis
        have hnd' := nodupB_spec ids hnd
        have hsm' : ids.length ≤ 1000000 := Nat.le_of_ble_eq_true hsm
        have hdis' : ∀ i ∈ fz1 ++ fz2, i ∉ ids := fun i hi => by
          have := (List.all_eq_true.1 hdis) i hi
          simpa using this
        generalize hfz : fz1 ++ fz2 = fz at h hdis'
        have hin : ∀ id ∈ fz, ∃ r, lookup st.rows id = some r := fun id hid => by
          rw [← hfz] at hid
          rcases List.mem_append.1 hid with hid | hid
          · obtain ⟨r, hr⟩ := purL_in (rows := rowsV) (opn1_in depth) _ _ hp id hid; exact ⟨r, hsub _ _ hr⟩
          · obtain ⟨r, hr⟩ := rowsAt_in _ _ hq id hid; exact ⟨r, hsub _ _ hr⟩
        have hFr := hR.freeze fz
        have hOF := hO.freeze hR fz hin
        obtain ⟨hrl, hrs⟩ := rowsAt_sound hrow hR.inj ids rs fz2 fz hq (fun i hi => by rw [← hfz]; simp [hi]) hdis'
        have hpa := (purL_soundX (w := w) (S := S) (β := β) (og := og) (f := opn1 rowsV depth) (opn1_sound hrow depth) _ _ _ hp hargs).keepS (S' := With S og fz) fun b => With.sub (fun i hi => by rw [← hfz]; simp [hi])
        have hmP : ∀ id x j, β id = some x → toP ids id = some j → openBet β ids j = some x := fun id x j hx hj => by
          unfold toP at hj
          cases hi : idx ids id with
          | none => simp [hi] at hj
          | some j' =>
            simp [hi] at hj
            subst hj
            rw [openBet_at β (idx_some ids id j' hi)]
            exact hx
        have himm : ∀ i ∈ ids, ∃ r, lookup (setImm fz st.rows) i = some r ∧ r.imm = false := fun i hi => by
          obtain ⟨j, hj, he⟩ := List.getElem_of_mem hi
          obtain ⟨r1, r0, _, hl0, hm0, _⟩ := hrs j i (by rw [List.getElem?_eq_getElem hj, he])
          refine ⟨r0, ?_, hm0⟩
          have hni : fz.contains i = false := by
            have : i ∉ fz := fun h => hdis' i h hi
            simpa using this
          rw [lookup_setImm, hsub _ _ hl0]
          simp only [Option.map_some, hni]
          rfl
        have hnS : ∀ i ∈ ids, ∀ g, og i = some g → ¬ With S og fz g := fun i hi g hg => by
          obtain ⟨r, hr, hm⟩ := himm i hi
          exact (hFr.row i r hr).free hm g hg
        have hH : Heap w (With S og fz) (fun b => b < w.heap.size ∧ ∀ i ∈ ids, og i ≠ some b) (openBet β ids) (openBet og ids) (zipIds PID (rs.map (Row.ren (toP ids)))) := by
          refine ⟨fun id x hx => ?_, fun id id' g hg hg' => ?_, fun id g hg => ?_, fun id x hx => ?_, hFr.Slt, fun b hb => hb.1⟩
          · obtain ⟨hle, hx⟩ := lookup_zipIds _ _ _ _ hx
            obtain ⟨jj, rfl⟩ : ∃ jj, id = PID + jj := ⟨id - PID, by omega⟩
            rw [Nat.add_sub_cancel_left, List.getElem?_map] at hx
            cases hr : rs[jj]? with
            | none => simp [hr] at hx
            | some r1 =>
              simp [hr] at hx
              subst hx
              have hjl : jj < ids.length := by rw [← hrl]; exact (List.getElem?_eq_some_iff.1 hr).1
              have hij : ids[jj]? = some ids[jj] := List.getElem?_eq_getElem hjl
              obtain ⟨r2, r0, hr2, hl0, hm0, hrel, _⟩ := hrs _ _ hij
              rw [hr] at hr2
              cases hr2
              rw [openBet_at og hij]
              refine hrel.ren hmP (fun x hx => ?_) (fun g hg _ hb => hb.2 _ (List.mem_of_getElem? hij) hg)
              rw [openBet_at β hij]
              exact hx
          · obtain ⟨j, i, rfl, e1, e2⟩ := openBet_inv hg
            obtain ⟨j', i', rfl, e1', e2'⟩ := openBet_inv hg'
            have := hR.inj i i' g e2 e2'
            subst this
            rw [hnd' j j' i e1 e1']
          · obtain ⟨j, i, rfl, e1, e2⟩ := openBet_inv hg
            exact hR.lt i g e2
          · obtain ⟨j, i, rfl, e1, e2⟩ := openBet_inv hx
            exact hR.one i x e2
        refine ⟨With S og fz, fun b => b < w.heap.size ∧ ∀ i ∈ ids, og i ≠ some b, openBet β ids, openBet og ids, _, _, _, hH,
          ⟨fun b hb => ⟨hFr.Slt b hb, fun i hi hg => hnS i hi b hg hb⟩, hO.bel.here.mono fun b hb => ⟨hR.Ble b hb, fun i hi hg => by
            obtain ⟨r, hr, hm⟩ := himm i hi
            exact (hFr.row i r hr).place.2 b hg hb⟩⟩,
          (fun id x hx => by
            obtain ⟨j, i, rfl, e1, e2⟩ := openBet_inv hx
            have := (List.getElem?_eq_some_iff.1 e1).1
            rw [List.length_map, hrl]
            omega), rens_rel hmP hpa, h, fun id rest key tm e1 e2 => ?_, fun u v prow nrow w' S' β' og' hk hA => ?_⟩
        · subst e1
          have e3 : opn1 rowsV depth (.own id) = some (.own id, []) := by
            unfold depth
            simp only [opn1, e2]
          simp only [purL, e3] at hp
          cases hr : purL (opn1 rowsV depth) rest with
          | none => rw [hr] at hp; cases hp
          | some q1 =>
            rw [hr] at hp
            cases hp
            have hpre : [id] <+: ids := by
              rw [← hids]
              show [id] <+: reachF rowsV (reach rowsV 11) (id :: AV.refss q1.1) []
              simp only [reachF, List.contains_nil, Bool.false_eq_true, if_false, e2]
              exact (reach_pre 11 _ _).trans (reachF_pre (fun cs acc => reach_pre 11 cs acc) _ _)
            obtain ⟨is, his⟩ := hpre
            have his : ids = id :: is := his.symm
            have hj0 : ids[0]? = some id := by rw [his]; rfl
            have e4 : toP ids id = some PID := by unfold toP; rw [his]; simp [idx]
            rw [his] at hq
            simp only [rowsAt, e2] at hq
            cases hr2 : rowsAt rowsV is with
            | none => rw [hr2] at hq; cases hq
            | some q2 =>
              rw [hr2] at hq
              have e5 : opn1 rowsV depth (.tup [.int .i64 key]) = some (.tup [.int .i64 key], []) := by
                unfold depth
                simp only [opn1, purL]
                rfl
              simp only [purL, e5] at hq
              cases hr3 : purL (opn1 rowsV depth) tm with
              | none => rw [hr3] at hq; cases hq
              | some q3 =>
                rw [hr3] at hq
                cases hq
                refine ⟨AV.rens (toP ids) q1.1, AV.rens (toP ids) q3.1, q2.1.map (Row.ren (toP ids)), ?_, rfl, openBet_at β hj0, openBet_at og hj0⟩
                show (AV.own id).ren (toP ids) :: _ = _
                simp only [AV.ren, e4]
        · split at hk
          · rename_i hlen
            have hlen' : prow.length = ids.length := by simpa using hlen
            have hfresh := hfr _ hk
            simp only [freshB, Bool.true_and, List.all_eq_true, Bool.and_eq_true, Bool.not_eq_true'] at hfresh
            have hall : ∃ S2 β2 og2, Rel w' S2 B β2 og2 (apply site dst { v := v.ren (back site ids nrow.length), imm := fz, dels := delsOf ids prow, mods := modsOf (back site ids nrow.length) ids prow, news := newsOf (back site ids nrow.length) site 0 nrow } st) (a.put dst u) ∧ Out w0 S0 B w' S2 ∧ ∀ id x, β id = some x → β2 id = some x := ?_
            · obtain ⟨S2, β2, og2, hx1, hx2, hx3⟩ := hall
              exact ⟨_, S2, β2, og2, hk, hx1, hx2, hx3⟩
            refine after_rel' (site := site) hFr hOF hnd' himm hsm' hlen' dst hA (fun p hp => ?_) (fun id r hr => ?_)
            · obtain ⟨h1, h2⟩ := hfresh p hp
              exact ⟨by simpa using h1, Nat.blt_eq ▸ h2⟩
            · simp only [applyRows] at hr
              rcases lookup_foldl_set _ _ _ _ hr with h | ⟨_, h⟩
              · exact .inl h
              · rcases lookup_foldl_set _ _ _ _ h with h | ⟨h1, h⟩
                · exact .inr (.inl h)
                · obtain ⟨h2, h3⟩ := lookup_foldl_del _ _ _ _ h
                  exact .inr (.inr ⟨h2, h1, (lookup_immL fz st.rows id).symm.trans h3⟩)
          · cases hk
      · cases h


theorem op_callX (hR : Rel w S B β og st a) (hO : Out w0 S0 B w S) {rowsV : List (Nat × Row)} (hsub : ∀ id x, lookup rowsV id = some x → lookup st.rows id = some x) (hfr : ∀ e, y e = some r → freshB site e st.used = true) {f : Operand} {args : Array Operand} {ts : Array TypeId} {g : Nat} {caps : List AV} {F : SummX}
    (ho : o.op = .call { callee := .value f, args := args, argTypes := ts }) (hf : val st.tm f = .fn g caps) (hF : XOK P g F) (hen : entersB P g = true)
    (h : evX site F (valsT P st.tm ts.toList args.toList ++ caps) rowsV y = some r) (hK : Good w0 S0 B site o st y r K) : o.wpR R P a w K Q := by
  have hfv := val_rel hR.tm f
  rw [hf] at hfv
  generalize hfe : a.eval f = fv at hfv
  cases hfv with
  | fn _ _ _ cvs hcl hch =>
  have hargs := (valsT_rel hR.tm P ts.toList args.toList).append (VRels.mono (w' := w) (S' := S) (β' := β) ⟨hcl, hch⟩ (fun _ h => h) (fun _ _ => rfl) (fun _ _ h => h))
  obtain ⟨S1, B1, β1, og1, avs1, rows1, k1, hH, hSB, hdom, hv1, hF1, _, hcont⟩ := evX_open hR hO hsub hfr o.dst hargs h
  have hC := hF ρ w S1 B1 β1 og1 avs1 rows1 _ k1 r hH hSB hdom hv1 hF1
  have hmap : (args.map a.eval) ++ cvs.toArray = (args.toList.map a.eval ++ cvs).toArray := by apply Array.ext'; simp
  have hrun : ∀ s, (callFunc g (args.toList.map a.eval ++ cvs).toArray).run P w = s → (execOp a.eval o).run P w = s := fun s hcf => by
    simp only [execOp, ho, resolve, hfe, Deferred.ofValue]
    simp only [pure_bind, invoke, Array.empty_append, hmap]
    exact hcf
  refine hC.wp hen hrun fun e w' hpost => ?_
  obtain ⟨u, v, prow, nrow, S', β', og', rfl, hk, hA⟩ := hpost
  obtain ⟨e, S2, β2, og2, hy, hR2, hO2, _⟩ := hcont u v prow nrow w' S' β' og' hk hA
  exact ⟨u, rfl, hK _ _ _ hy ⟨S2, β2, og2, hR2, hO2⟩⟩

/-- What a call of the function that a loop hands over comes to: one round of the loop. -/
def YOK (P : Program) (key : Int) (F : SummX) : Prop :=
  ∀ (ρ : Type) (w : World) (S B : Nat → Prop) (β : Bet) (og : Nat → Option Nat) (avs tm : List AV) (rows : List Row) (args : List Value) (k : AV → List (Option Row) → List Row → Option ρ) (r : ρ) (l : Nat) (r0 : Go.Loop) (us : List Value),
    Heap w S B β og (zipIds PID (.box false (.tup [.int .i64 key] :: tm) :: rows)) → (∀ b, S b → B b) ∧ Glb B w → (∀ id x, β id = some x → PID ≤ id ∧ id < PID + (rows.length + 1)) → VRels w S β avs args →
    β PID = some (.func (.yield l) #[] #[], 1) → og PID = some l → w.heap[l]? = some (.loop r0) → r0.state = .ready → r0.pending = none → (r0.params, r0.assign, r0.body) = loopCode key → r0.tmps.toList = us → VRels w S β tm us →
    F ρ (.own PID :: avs) (.box false (.tup [.int .i64 key] :: tm) :: rows) k = some r →
    RoundIn Fence.wide 0 P l r0.fn ((r0.params.zip args.toArray).foldl (fun t (p, v) => t.setIfInBounds p v) r0.tmps) r0.assign r0.body w fun e w' => ∃ u v prow nrow S' β' og', e = .returned u ∧ k v prow nrow = some r ∧ After w S B β prow nrow v u w' S' β' og'

theorem op_yield (hR : Rel w S B β og st a) (hO : Out w0 S0 B w S) {rowsV : List (Nat × Row)} (hsub : ∀ id x, lookup rowsV id = some x → lookup st.rows id = some x) (hfr : ∀ e, y e = some r → freshB site e st.used = true) {f : Operand} {args : Array Operand} {ts : Array TypeId} {id : Nat} {key : Int} {tm : List AV} {F : SummX}
    (ho : o.op = .call { callee := .value f, args := args, argTypes := ts }) (hf : val st.tm f = .own id) (hl : lookup rowsV id = some (.box false (.tup [.int .i64 key] :: tm))) (hn : args.size = (loopCode key).1.size) (hF : YOK P key F)
    (h : evX site F (.own id :: valsT P st.tm ts.toList args.toList) rowsV y = some r) (hK : Good w0 S0 B site o st y r K) : o.wpR R P a w K Q := by
  have hfv := val_rel hR.tm f
  rw [hf] at hfv
  have hargs := VRels.cons hfv (valsT_rel hR.tm P ts.toList args.toList)
  obtain ⟨S1, B1, β1, og1, avs1, rows1, k1, hH, hSB, hdom, hv1, hF1, hown, hcont⟩ := evX_open hR hO hsub hfr o.dst hargs h
  obtain ⟨rest1, tm1, rows2, rfl, rfl, hβ, hog⟩ := hown id _ key tm rfl hl
  generalize hfe : a.eval f = fv at hfv hv1
  cases hfv with
  | own _ _ _ wd hbt =>
  have h0 := hH.row PID (.box false (.tup [.int .i64 key] :: tm1)) (by simp [zipIds, lookup])
  obtain ⟨g, vs, v0, hg, hb0, hH0, hvs, _⟩ := h0
  obtain ⟨v, vs', e0, hx, hxs⟩ := hvs.inv
  have hx' : ∃ xs : List Value, v = .tuple xs.toArray := by cases hx with | tup _ _ xs _ _ => exact ⟨xs, rfl⟩
  obtain ⟨xs, rfl⟩ := hx'
  rcases hH0 with ⟨_, _, h1⟩ | ⟨r0, key', us, hh, hs, hpd, hq, e1, e2, e3⟩ | ⟨s, pos, _, e1, _⟩
  rotate_left 2
  · exfalso
    rw [e1] at e0
    simp only [List.cons.injEq, Value.tuple.injEq] at e0
    have hlen := congrArg Array.size e0.1
    cases hx with
    | tup _ _ xs hl _ =>
      simp at hlen hl
      omega
  · have := h1 (.tuple xs.toArray) (by rw [e0]; simp)
    cases this
  · have hkk : key' = key ∧ us = vs' := by
      rw [e1] at e0
      simp only [List.cons.injEq] at e0
      refine ⟨?_, e0.2⟩
      cases hx with
      | tup _ _ xs hl hc =>
        have e5 : xs = [.int .i64 key'] := by
          have := e0.1
          simp only [Value.tuple.injEq] at this
          rw [← Array.toList_inj] at this
          simpa using this.symm
        subst e5
        have := hc 0 _ _ rfl rfl
        cases this
        rfl
    obtain ⟨rfl, rfl⟩ := hkk
    have hfv2 : fv = .func (.yield g) #[] #[] ∧ wd = 1 := by
      rw [hβ, hbt] at hb0
      simp only [Option.some.injEq, Prod.mk.injEq] at hb0
      exact ⟨hb0.1.trans e3, hb0.2⟩
    obtain ⟨rfl, rfl⟩ := hfv2
    obtain ⟨_, _, e6, _, hv2⟩ := hv1.inv
    simp only [List.cons.injEq] at e6
    obtain ⟨_, rfl⟩ := e6
    have hround := hF ρ w S1 B1 β1 og1 rest1 tm1 rows2 _ k1 r g r0 us hH hSB (by simpa using hdom) hv2 (by rw [hβ, hbt]) hg hh hs hpd hq e2 hxs hF1
    refine ⟨fun _ _ => trivial, ?_⟩
    have hsz : (args.map a.eval).size = r0.params.size := by
      rw [Array.size_map, hn]
      have : (r0.params, r0.assign, r0.body).1 = (loopCode key').1 := by rw [hq]
      exact (congrArg Array.size this).symm
    have hrun : (execOp a.eval o).run P w = .ok (.round g r0.fn ((r0.params.zip (args.toList.map a.eval).toArray).foldl (fun t (p, v) => t.setIfInBounds p v) r0.tmps) r0.assign r0.body) w := by
      simp only [execOp, ho, resolve, hfe, Deferred.ofValue]
      simp only [pure_bind, invoke, Array.empty_append]
      rw [run_yield hh hsz, show args.map a.eval = (args.toList.map a.eval).toArray from by apply Array.ext'; simp]
    rw [semAt_of hrun (fun _ _ h => by cases h) (fun _ _ h => by cases h), Oper.uponIn_round]
    refine ⟨fun h => (by cases h), RoundIn.mono (show RoundIn (fen R) 0 P g r0.fn _ r0.assign r0.body w _ from hround) fun e w' hpost => ?_⟩
    obtain ⟨u, v, prow, nrow, S', β', og', rfl, hk, hA⟩ := hpost
    obtain ⟨e, S2, β2, og2, hy, hR2, hO2, _⟩ := hcont u v prow nrow w' S' β' og' hk hA
    exact hK _ _ _ hy ⟨S2, β2, og2, hR2, hO2⟩

end ops
end Go.Ev
