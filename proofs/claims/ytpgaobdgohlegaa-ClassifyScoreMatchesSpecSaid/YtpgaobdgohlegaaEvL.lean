/-
  The operations, seventh part: literals, calls; all operations together.
-/
import Derived.Test.YtpgaobdgohlegaaEvK
import Derived.Laws.Tables
namespace Go.Ev
open Go.RowKit

section ops
variable {ρ : Type} {P : Program} {w0 w : World} {S0 S : Nat → Prop} {B : Ctx} {β : Bet} {og : Nat → Option Nat} {st : St} {a : Act} {o : Oper} {site : Nat} {y : Eff → Option ρ} {r : ρ}
  {K : Act → World → Prop} {Q : Exit → Act → World → Prop}

theorem foldl_set (off : Nat) : ∀ (us : List Value) (k : Nat) (arr : Array Value), off + k + us.length ≤ arr.size →
    (us.zipIdx k).foldl (fun cs p => cs.setIfInBounds (off + p.2) p.1) arr = (arr.toList.take (off + k) ++ us ++ arr.toList.drop (off + k + us.length)).toArray
  | [], k, arr, _ => by
    apply Array.ext'
    simp
  | u :: us, k, arr, h => by
    simp only [List.length_cons] at h
    simp only [List.zipIdx_cons, List.foldl_cons]
    rw [foldl_set off us (k + 1) (arr.setIfInBounds (off + k) u) (by simp; omega)]
    congr 1
    simp only [Array.toList_setIfInBounds]
    have hl : off + k < arr.toList.length := by simp; omega
    rw [show off + (k + 1) = off + k + 1 from by omega, List.take_add_one, List.getElem?_set_self hl, List.take_set_of_le (by omega), List.drop_set_of_lt (by omega)]
    simp only [Option.toList_some, List.append_assoc, List.length_cons, List.cons_append, List.nil_append]
    congr 3
    congr 1
    omega

theorem fill_sound {place place' : Nat → Option (Nat × Nat)} (hpl : ∀ i p, place i = some p → place' i = some p) :
    ∀ (parts : List (Nat × AV)) (parts' : List (Nat × Value)) (cs cs' : List AV) (vs : List Value), fillA place cs parts = some cs' → parts.map (·.1) = parts'.map (·.1) → VRels w S β (parts.map (·.2)) (parts'.map (·.2)) →
      (∀ id x, β id = some x → x.1.oneCell' = true) → VRels w S β cs vs → (∀ u ∈ vs, u.oneCell' = true) → ∃ vs', Instr.fill place' vs.toArray parts' = some vs'.toArray ∧ VRels w S β cs' vs' ∧ ∀ u ∈ vs', u.oneCell' = true
  | [], [], cs, cs', vs, h, _, _, _, hv, h1 => by simp [fillA] at h; subst h; exact ⟨vs, rfl, hv, h1⟩
  | [], _ :: _, _, _, _, _, hm, _, _, _, _ => by simp at hm
  | _ :: _, [], _, _, _, _, hm, _, _, _, _ => by simp at hm
  | (i, v) :: parts, (i', u) :: parts', cs, cs', vs, h, hm, hp, hone, hv, h1 => by
    simp only [List.map_cons, List.cons.injEq] at hm
    obtain ⟨hii, hm'⟩ := hm
    subst hii
    simp only [List.map_cons] at hp
    obtain ⟨u', us', he, hvu, hps⟩ := hp.inv
    simp only [List.cons.injEq] at he
    obtain ⟨rfl, rfl⟩ := he
    simp only [fillA] at h
    cases hpi : place i with
    | none => simp [hpi] at h
    | some p =>
      simp only [hpi] at h
      split at h
      · rename_i hc
        simp only [Bool.and_eq_true, beq_iff_eq] at hc
        obtain ⟨hlaid, hlen, hle⟩ := hc
        have hle' : p.1 + v.cells.length ≤ cs.length := Nat.le_of_ble_eq_true hle
        obtain ⟨us, huc, hus, hu1⟩ := hvu.laid hlaid hone
        have hul : us.length = p.2 := by rw [hus.1]; exact hlen
        have hsp := hv.splice hus p.1
        have h1' : ∀ x ∈ vs.take p.1 ++ us ++ vs.drop (p.1 + us.length), x.oneCell' = true := by
          intro x hx
          simp only [List.mem_append] at hx
          rcases hx with (hx | hx) | hx
          · exact h1 x (List.mem_of_mem_take hx)
          · exact hu1 x hx
          · exact h1 x (List.mem_of_mem_drop hx)
        obtain ⟨vs', hf, hv', h1''⟩ := fill_sound hpl parts parts' _ cs' _ h hm' hps hone hsp h1'
        refine ⟨vs', ?_, hv', h1''⟩
        have hfold := foldl_set p.1 us 0 vs.toArray (by simp; rw [hv.1, hus.1]; exact hle')
        simp only [Nat.add_zero] at hfold
        obtain ⟨p1, p2⟩ := p
        simp only [Instr.fill, hpl i _ hpi, huc]
        have hsz : us.toArray.size = p2 := by simpa using hul
        have hgt : ¬ (p1 + us.toArray.size > vs.toArray.size) := by simp; rw [hv.1, hus.1]; exact hle'
        simp only [hsz, ne_eq, not_true_eq_false, decide_false, Bool.false_or, decide_eq_true_eq]
        rw [hsz] at hgt
        rw [if_neg hgt]
        have hz : us.toArray.zipIdx.foldl (fun cs x => match x with | (c, j) => cs.setIfInBounds (p1 + j) c) vs.toArray = (vs.take p1 ++ us ++ vs.drop (p1 + us.length)).toArray := by
          rw [← hfold, ← Array.foldl_toList, Array.toList_zipIdx]
        rw [hz]
        exact hf
      · cases h

theorem places_some (fs : List Field) (h : fs.all (fun f => (P.info? f.type).isSome) = true) : fs.mapM (fun f => (P.info? f.type).map fun i => (f.offset, i.size)) = some (fs.map fun f => (f.offset, P.cellsOf f.type)) := by
  induction fs with
  | nil => rfl
  | cons f fs ih =>
    simp only [List.all_cons, Bool.and_eq_true] at h
    obtain ⟨i, hi⟩ := Option.isSome_iff_exists.1 h.1
    simp [List.mapM_cons, hi, ih h.2, Program.cellsOf]

theorem op_build (hR : Rel w S B β og st a) (hO : Out w0 S0 B w S) {t : TypeId} {parts : Array (Nat × Operand)} {cs cs' : List AV} (ho : o.op = .build t parts) (hz : zeroAV P t = some cs) (hk : partsKnown P t = true)
    (hf : fillA (placeOf P t) cs (parts.toList.map fun p => (p.1, valT P st.tm (partTypes P t p.1) p.2)) = some cs') (hy : y { v := .agg cs' } = some r) (hK : Good w0 S0 B site o st y r K) : o.wp P a w K Q := by
  obtain ⟨i, v, hi, hv, hl, rfl⟩ := zeroAV_spec hz
  obtain ⟨us, hc, hvs, h1⟩ := (ofVal_rel (w := w) (S := S) (β := β) (shOf P depth t) v).laid hl hR.one
  have hparts : VRels w S β ((parts.toList.map fun p => (p.1, valT P st.tm (partTypes P t p.1) p.2)).map (·.2)) ((parts.toList.map fun p => (p.1, a.eval p.2)).map (·.2)) := by
    refine ⟨by simp, fun j c u hc hu => ?_⟩
    simp only [List.map_map, List.getElem?_map] at hc hu
    cases hj : parts.toList[j]? with
    | none => simp [hj] at hc
    | some p => simp [hj] at hc hu; subst hc; subst hu; exact valT_rel hR.tm P _ _
  have hmap : (parts.map fun p => (p.1, a.eval p.2)) = (parts.toList.map fun p => (p.1, a.eval p.2)).toArray := by apply Array.ext'; simp
  unfold partsKnown at hk
  split at hk
  · rename_i fs hfs
    obtain ⟨vs', hfill, hvr, h1'⟩ := fill_sound (place := placeOf P t) (place' := fun x => Option.map (fun f => (f.offset, P.cellsOf f.type)) fs[x]?) (fun i p hp => by
      simp only [placeOf, hfs] at hp
      exact hp) _ _ _ cs' us hf (by simp) hparts hR.one hvs h1
    refine op_slot hR hO (.agg _ _ _ hvr.1 h1' hvr.2) hy hK ?_
    have hpl := run_places (P := P) w fs.toList _ (places_some fs.toList hk)
    simp only [execOp, ho, Instr.build, zeroValue, typeInfo, Sem.run_bind, run_program, Result.andThen_ok, hi, Sem.run_pure, hv, run_underlying hfs]
    simp only [Array.mapM_eq_mapM_toList, bind_pure_comp, hmap]
    simp [hpl, hc, hfill]
  · rename_i n e hfs
    obtain ⟨ie, hie⟩ := Option.isSome_iff_exists.1 hk
    obtain ⟨vs', hfill, hvr, h1'⟩ := fill_sound (place := placeOf P t) (place' := fun i => some (i * ie.size, ie.size)) (fun i p hp => by
      simp only [placeOf, hfs, Program.cellsOf, hie, Option.map_some, Option.getD_some] at hp
      exact hp) _ _ _ cs' us hf (by simp) hparts hR.one hvs h1
    refine op_slot hR hO (.agg _ _ _ hvr.1 h1' hvr.2) hy hK ?_
    simp only [execOp, ho, Instr.build, zeroValue, typeInfo, Sem.run_bind, run_program, Result.andThen_ok, hi, Sem.run_pure, hv, run_underlying hfs, sizeOf, hie, hmap]
    simp [hc, hfill]
  · cases hk

theorem nz_rel {w : World} {S : Nat → Prop} {β : Bet} {v : AV} {u : Value} (h : VRel w S β v u) : VRel w S β v.nz u := by
  have hL : ∀ (cs : List AV) (j : Nat) (c : AV), (AV.nzs cs)[j]? = some c → ∃ c', cs[j]? = some c' ∧ c = c'.nz := by
    intro cs
    induction cs with
    | nil => intro j c hc; simp [AV.nzs] at hc
    | cons x cs ih =>
      intro j c hc
      cases j with
      | zero => simp [AV.nzs] at hc; exact ⟨x, rfl, hc.symm⟩
      | succ j => simp only [AV.nzs, List.getElem?_cons_succ] at hc; obtain ⟨c', h1, h2⟩ := ih j c hc; exact ⟨c', by simpa using h1, h2⟩
  have hlen : ∀ cs : List AV, (AV.nzs cs).length = cs.length := by
    intro cs
    induction cs with
    | nil => rfl
    | cons x cs ih => simp [AV.nzs, ih]
  induction h with
  | agg β cs vs hl h1 _ ih =>
    refine .agg _ _ vs (by rw [hlen]; exact hl) h1 fun j c u hc hu => ?_
    obtain ⟨c', hc', rfl⟩ := hL cs j c hc
    exact ih j c' u hc' hu
  | tup β cs vs hl _ ih =>
    refine .tup _ _ vs (by rw [hlen]; exact hl) fun j c u hc hu => ?_
    obtain ⟨c', hc', rfl⟩ := hL cs j c hc
    exact ih j c' u hc' hu
  | slz β s A => exact .slv _ s [] A 0 default [] (by simp) (by simp) (by decide) (fun h => absurd rfl h) (by simp [flat]) (by simp) (by simp) (by simp [flat])
  | unk β v => exact .unk _ v
  | undef => exact .undef _
  | int β k n => exact .int _ k n
  | bool β b => exact .bool _ b
  | ubool β b => exact .ubool _ b
  | str β s => exact .str _ s
  | slv β s es A c a xs hs hc hm hA hl h1 hx hh _ => exact .slv _ s es A c a xs hs hc hm hA hl h1 hx hh
  | eref β s es i off a xs hi hs hSa hl h1 hx hh _ => exact .eref _ s es i off a xs hi hs hSa hl h1 hx hh
  | ref β cs a xs hSa hl h1 hx hh _ => exact .ref _ cs a xs hSa hl h1 hx hh
  | ptr β id off g wd hbt => exact .ptr _ id off g wd hbt
  | eptr β id i off g n c wd hbt => exact .eptr _ id i off g n c wd hbt
  | own β id v wd hbt => exact .own _ id v wd hbt
  | sub β id lo len A n c wd hbt => exact .sub _ id lo len A n c wd hbt
  | fn β f cs vs hl hh _ => exact .fn _ f cs vs hl hh
theorem nzs_rel {w : World} {S : Nat → Prop} {β : Bet} : ∀ {cs : List AV} {vs : List Value}, VRels w S β cs vs → VRels w S β (AV.nzs cs) vs
  | [], vs, h => by rw [h.inv_nil]; exact VRels.nil
  | c :: cs, vs, h => by
    obtain ⟨u, us, rfl, hu, hs⟩ := h.inv
    exact VRels.cons (nz_rel hu) (nzs_rel hs)

/-! ### Calls -/
/-- What is known of a function. -/
def hasBody (P : Program) (f : FuncId) : Bool :=
  match P.funcs[f]? with
  | some fn => fn.body.isSome
  | none => false
/-- A call: of the program's text, or one that the model answers itself. -/
def Goes (P : Program) (f : FuncId) (args : Array Value) (w : World) (R : Ending → World → Prop) : Prop :=
  (hasBody P f = true ∧ Calls P f args w R) ∨ (hasBody P f = false ∧ ∃ u w', (callFunc f args).run P w = .ok (.value u) w' ∧ R (.returned u) w')
theorem Goes.calls {P : Program} {f : FuncId} {args : Array Value} {w : World} {R : Ending → World → Prop} (h : Goes P f args w R) (hb : hasBody P f = true) : Calls P f args w R := by
  rcases h with h | h
  · exact h.2
  · rw [hb] at h; cases h.1
theorem Goes.of {P : Program} {f : FuncId} {fn : Func} {c : Code} {args : Array Value} {w : World} {R : Ending → World → Prop} (hfn : P.funcs[f]? = some fn) (hb : fn.body = some c) (h : Calls P f args w R) : Goes P f args w R :=
  .inl ⟨by simp [hasBody, hfn, hb], h⟩
/-- How an operation that calls goes on. -/
theorem Goes.wp {P : Program} {a : Act} {o : Oper} {w : World} {K : Act → World → Prop} {Q : Exit → Act → World → Prop} {f : FuncId} {args : Array Value} {R : Ending → World → Prop} (hen : entersB P f = true) (h : Goes P f args w R)
    (he : ∀ s, (callFunc f args).run P w = s → (execOp a.eval o).run P w = s) (hR : ∀ e w', R e w' → ∃ u, e = .returned u ∧ K (a.put o.dst u) w') : o.wp P a w K Q := by
  unfold Oper.wp
  rcases h with ⟨hb, h⟩ | ⟨hb, u, w', hrun, hq⟩
  · unfold hasBody at hb
    unfold entersB at hen
    cases hfn : P.funcs[f]? with
    | none => rw [hfn] at hb; cases hb
    | some fn =>
      simp only [hfn, Bool.not_eq_true'] at hen hb
      have hnone : fn.body.isNone = false := by cases hbb : fn.body <;> simp_all
      rw [he (.ok (.enter f args) w) (by
        simp only [callFunc, Sem.run_bind, run_program, Result.andThen_ok, hfn]
        simp [hen, hnone]), Oper.upon_enter]
      refine h.mono fun e w' hq => ?_
      obtain ⟨u, rfl, hk⟩ := hR e w' hq
      exact hk
  · rw [he _ hrun, Oper.upon_value]
    obtain ⟨u', hu, hk⟩ := hR _ _ hq
    cases hu
    exact hk
def SumOK (P : Program) (f : FuncId) (F : Summ) : Prop :=
  ∀ (ρ : Type) (w : World) (S : Nat → Prop) (avs : List AV) (args : List Value) (k : AV → Option ρ) (r : ρ), (∀ b, S b → b < w.heap.size) → VRels w S nob avs args → F ρ avs k = some r →
    Goes P f args.toArray w fun e w' => ∃ u v S', e = .returned u ∧ k v = some r ∧ Below w.heap.size w w' ∧ (∀ b, S' b → S b ∨ w.heap.size ≤ b) ∧ (∀ b, S' b → b < w'.heap.size) ∧ VRel w' S' nob v u
def SNat (F : Summ) : Prop := ∀ (ρ : Type) (avs : List AV) (k : AV → Option ρ), F ρ avs k = (F AV avs some).bind k

theorem flat_free {w w' : World} {S S' : Nat → Prop} {β β' : Bet} {v : AV} {u : Value} (h : VRel w S β v u) : v.flat = true → VRel w' S' β' v u := by
  induction h with
  | unk => intro h; simp [AV.flat] at h
  | undef => intro _; exact .undef _
  | int _ k n => intro _; exact .int _ k n
  | bool _ b => intro _; exact .bool _ b
  | ubool => intro h; simp [AV.flat] at h
  | str _ s => intro _; exact .str _ s
  | agg _ cs vs hl h1 _ ih =>
    intro h
    have hf : ∀ (l : List AV), AV.flats l = true → ∀ c ∈ l, c.flat = true := by
      intro l
      induction l with
      | nil => simp
      | cons c l ih => intro h c' hc'; simp [AV.flats] at h; rcases List.mem_cons.1 hc' with rfl | h'; exact h.1; exact ih h.2 c' h'
    have hfl : AV.flats cs = true := h
    exact .agg _ cs vs hl h1 fun j c u hc hu => ih j c u hc hu (hf cs hfl c (List.mem_of_getElem? hc))
  | tup _ cs vs hl _ ih =>
    intro h
    have hf : ∀ (l : List AV), AV.flats l = true → ∀ c ∈ l, c.flat = true := by
      intro l
      induction l with
      | nil => simp
      | cons c l ih => intro h c' hc'; simp [AV.flats] at h; rcases List.mem_cons.1 hc' with rfl | h'; exact h.1; exact ih h.2 c' h'
    have hfl : AV.flats cs = true := h
    exact .tup _ cs vs hl fun j c u hc hu => ih j c u hc hu (hf cs hfl c (List.mem_of_getElem? hc))
  | slv => intro h; simp [AV.flat] at h
  | slz => intro h; simp [AV.flat] at h
  | eref => intro h; simp [AV.flat] at h
  | ref => intro h; simp [AV.flat] at h
  | ptr => intro h; simp [AV.flat] at h
  | eptr => intro h; simp [AV.flat] at h
  | own => intro h; simp [AV.flat] at h
  | sub => intro h; simp [AV.flat] at h
  | fn => intro h; simp [AV.flat] at h

theorem op_call (hR : Rel w S B β og st a) (hO : Out w0 S0 B w S) {rowsV : List (Nat × Row)} (hsub : ∀ id x, lookup rowsV id = some x → lookup st.rows id = some x) {f : Operand} {args : Array Operand} {ts : Array TypeId} {g : Nat} {caps pargs : List AV} {ids : List Nat} {F : Summ}
    (ho : o.op = .call { callee := .value f, args := args, argTypes := ts }) (hf : val st.tm f = .fn g caps) (hp : purL (pur1 rowsV depth) (valsT P st.tm ts.toList args.toList ++ caps) = some (pargs, ids)) (hF : SumOK P g F) (hen : entersB P g = true)
    (hy : F ρ (AV.nzs pargs) (fun v => y { v, imm := if v.flat then [] else ids }) = some r) (hK : Good w0 S0 B site o st y r K) : o.wp P a w K Q := by
  have hrow : ∀ id x, lookup rowsV id = some x → RowRel w S B β id (og id) x := fun id x hx => hR.row id x (hsub _ _ hx)
  have hfv := val_rel hR.tm f
  rw [hf] at hfv
  generalize hfe : a.eval f = fv at hfv
  cases hfv with
  | fn _ _ _ cvs hcl hch =>
    have hargs := (valsT_rel hR.tm P ts.toList args.toList).append (VRels.mono (w' := w) (S' := S) (β' := β) ⟨hcl, hch⟩ (fun _ h => h) (fun _ _ => rfl) (fun _ _ h => h))
    have hpa := purL_sound (w := w) (S := S) (β := β) (og := og) (f := pur1 rowsV depth) (pur1_sound hrow depth) _ _ _ hp hargs
    have hin : ∀ id ∈ ids, ∃ r, lookup st.rows id = some r := fun id hid => by obtain ⟨r, hr⟩ := purL_in (rows := rowsV) (pur1_in depth) _ _ hp id hid; exact ⟨r, hsub _ _ hr⟩
    have hFr := hR.freeze ids
    have hOF := hO.freeze hR ids hin
    have hC := hF ρ w (With S og ids) (AV.nzs pargs) _ _ r hFr.Slt (nzs_rel hpa) hy
    have hmap : (args.map a.eval) ++ cvs.toArray = (args.toList.map a.eval ++ cvs).toArray := by apply Array.ext'; simp
    have hrun : ∀ s, (callFunc g (args.toList.map a.eval ++ cvs).toArray).run P w = s → (execOp a.eval o).run P w = s := fun s hcf => by
      simp only [execOp, ho, resolve, hfe, Deferred.ofValue]
      simp only [pure_bind, invoke, Array.empty_append, hmap]
      exact hcf
    refine hC.wp hen hrun fun e w' hpost => ?_
    obtain ⟨v, av, S', rfl, hy, hbel, hS', hlt, hv⟩ := hpost
    refine ⟨v, rfl, ?_⟩
    · by_cases hflat : av.flat = true
      · have hG := hR.grow hbel (S' := S) (fun _ h => h) (fun _ _ h => h) (fun b hs => Nat.lt_of_lt_of_le (hR.Slt b hs) hbel.size)
        simp only [hflat, if_true] at hy
        exact hK _ _ _ hy ⟨S, β, og, hG.put o.dst (flat_free hv hflat), hO.grow hR.Ble hbel⟩
      · simp only [hflat] at hy
        have hG := hFr.grow hbel (S' := fun b => With S og ids b ∨ S' b) (fun _ h => .inl h) (fun b hb h => h.elim id fun h => (hS' b h).elim id fun h => absurd hb (by omega)) (fun b hs => hs.elim (fun h => Nat.lt_of_lt_of_le (hFr.Slt b h) hbel.size) (hlt b))
        have hG2 := hG.put o.dst (v := av) (u := v) (hv.mono (fun _ h => .inr h) (fun _ _ => rfl) (fun _ _ h => by cases h))
        have happ : apply site o.dst { v := av, imm := ids } st = ⟨putTm st.tm o.dst av, setImm ids st.rows, st.used⟩ := by
          simp only [apply, applyRows, List.foldl_nil, List.map_nil, List.nil_append]
          cases ids with
          | nil => rw [setImm_nil]
          | cons i is => rfl
        refine hK _ _ _ hy ⟨_, β, og, by rw [show (if false = true then ([] : List Nat) else ids) = ids from rfl, happ]; exact hG2, ?_⟩
        have hOG := hOF.grow hR.Ble hbel
        exact ⟨hOG.bel, fun b hb => hb.elim (hOG.sin b) fun h => (hS' b h).elim (hOG.sin b) fun h => .inr (fun hB => Nat.lt_irrefl _ (Nat.lt_of_lt_of_le (hR.Ble b hB) h)), fun b hb => .inl (hOG.sub b hb)⟩

end ops
end Go.Ev
