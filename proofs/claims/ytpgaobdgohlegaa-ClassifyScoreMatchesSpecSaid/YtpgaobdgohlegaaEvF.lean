/-
  The operations, one by one: what the evaluator says of each is what the model does.
-/
import Derived.Test.YtpgaobdgohlegaaEvE
import Derived.Laws.StructEq
namespace Go.Ev
open Go.RowKit

section ops
variable {ρ : Type} {P : Program} {w0 w : World} {S0 S : Nat → Prop} {B : Ctx} {β : Bet} {og : Nat → Option Nat} {st : St} {a : Act} {o : Oper} {site : Nat} {y : Eff → Option ρ} {r : ρ}
  {K : Act → World → Prop} {Q : Exit → Act → World → Prop}

def Good (w0 : World) (S0 : Nat → Prop) (B : Ctx) (site : Nat) (o : Oper) (st : St) (y : Eff → Option ρ) (r : ρ) (K : Act → World → Prop) : Prop :=
  ∀ e a' w', y e = some r → RelX w0 S0 B (apply site o.dst e st) a' w' → K a' w'

theorem Out.grow (hO : Out w0 S0 B w S) {w' : World} (hB : ∀ b, B b → b < w.heap.size) (hb : Below w.heap.size w w') : Out w0 S0 B w' S :=
  ⟨hO.bel.trans (Kept.of_below hb hB), hO.sin, hO.sub⟩

theorem op_slot (hR : Rel w S B β og st a) (hO : Out w0 S0 B w S) {v : AV} {u : Value} (hv : VRel w S β v u) (hy : y { v } = some r) (hK : Good w0 S0 B site o st y r K)
    (hrun : (execOp a.eval o).run P w = .ok (.value u) w) : o.wp P a w K Q :=
  wp_value hrun (hK _ _ _ hy ⟨S, β, og, hR.put o.dst hv, hO⟩)

theorem below_alloc (w : World) (x : Obj) : Below w.heap.size w (w.alloc x) := (Below.refl _ _).alloc (Nat.le_refl _) x

theorem op_newBox (hR : Rel w S B β og st a) (hO : Out w0 S0 B w S) (hf : Fresh site st.used) {cs : List AV} {vs : List Value} {t : TypeId} (hv : VRels w S β cs vs) (h1 : ∀ u ∈ vs, u.oneCell' = true)
    (hy : y { v := .ptr site 0, new := some (.box false cs) } = some r) (hK : Good w0 S0 B site o st y r K)
    (hrun : (execOp a.eval o).run P w = .ok (.value (.pointer (some ⟨w.heap.size, 0, none⟩))) (w.alloc (.cells vs.toArray t))) : o.wp P a w K Q := by
  have hb := below_alloc w (.cells vs.toArray t)
  have hlt : ∀ b, S b → b < (w.alloc (.cells vs.toArray t)).heap.size := fun b hs => by have := hR.Slt b hs; simp; omega
  refine wp_value hrun (hK _ _ _ hy ⟨S, _, _, hR.new site hf o.dst hb (fun _ h => h) (fun _ _ h => h) hlt (x := .pointer (some ⟨w.heap.size, 0, none⟩)) (wd := 1) (o := some w.heap.size) rfl
    (fun g hg => by cases hg; simp) ?_ (.ptr _ site 0 w.heap.size 1 (upd_same _ _ _)), hO.grow hR.Ble hb⟩)
  refine ⟨w.heap.size, vs, t, rfl, upd_same _ _ _, heap_alloc_new w _, h1, ?_, fun _ hs => absurd (hR.Slt _ hs) (Nat.lt_irrefl _), (fun h => by cases h), fun hB => Nat.lt_irrefl _ (hR.Ble _ hB)⟩
  refine hv.mono (fun _ h => h) (fun b hs => hb.block b (hR.Slt b hs)) (fun id x hx => ?_)
  have hne : id ≠ site := fun e => hf.1 (by rw [← e]; exact hR.used id x hx)
  rw [upd_other _ _ _ _ hne]; exact hx

/-! What a value of a known kind is. -/
theorem VRel.bool_inv {b : Bool} {v : Value} (h : VRel w S β (.bool b) v) : v = .bool b := by cases h; rfl
theorem VRel.int_inv {k : IntKind} {n : Int} {v : Value} (h : VRel w S β (.int k n) v) : v = .int k n := by cases h; rfl
theorem VRel.str_inv {s : List UInt8} {v : Value} (h : VRel w S β (.str s) v) : v = .string ⟨s.toArray⟩ := by cases h; rfl

theorem op_move (hR : Rel w S B β og st a) (hO : Out w0 S0 B w S) {x : Operand} (ho : o.op = .move x ∨ o.op = .assign x) (hy : y { v := valT P st.tm o.type x } = some r) (hK : Good w0 S0 B site o st y r K) : o.wp P a w K Q :=
  op_slot hR hO (valT_rel hR.tm P o.type x) hy hK (by rcases ho with h | h <;> simp [execOp, h])

theorem op_pick (hR : Rel w S B β og st a) (hO : Out w0 S0 B w S) {c x z : Operand} {t : Bool} (ho : o.op = .pick c x z) (hc : val st.tm c = .bool t)
    (hy : y { v := valT P st.tm o.type (if t then x else z) } = some r) (hK : Good w0 S0 B site o st y r K) : o.wp P a w K Q := by
  have h := val_rel hR.tm c
  rw [hc] at h
  refine op_slot hR hO (valT_rel hR.tm P o.type _) hy hK ?_
  simp only [execOp, ho, h.bool_inv, asBool]
  cases t <;> simp

theorem zeroAV_spec {t : TypeId} {cs : List AV} (h : zeroAV P t = some cs) : ∃ i v, P.info? t = some i ∧ i.zero = some v ∧ (ofVal (shOf P depth t) v).laidB = true ∧ cs = (ofVal (shOf P depth t) v).cells := by
  unfold zeroAV at h
  split at h
  · rename_i i hi
    split at h
    · rename_i v hv
      split at h
      · rename_i hl
        cases h
        exact ⟨i, v, hi, hv, hl, rfl⟩
      · cases h
    · cases h
  · cases h

theorem op_alloc (hR : Rel w S B β og st a) (hO : Out w0 S0 B w S) (hf : Fresh site st.used) {t : TypeId} (ho : o.op = .alloc t) {cs : List AV} (hz : zeroAV P t = some cs)
    (hy : y { v := .ptr site 0, new := some (.box false cs) } = some r) (hK : Good w0 S0 B site o st y r K) : o.wp P a w K Q := by
  obtain ⟨i, v, hi, hv, hl, rfl⟩ := zeroAV_spec hz
  obtain ⟨us, hc, hvs, h1⟩ := (ofVal_rel (w := w) (S := S) (β := β) (shOf P depth t) v).laid hl hR.one
  refine op_newBox hR hO hf (t := t) hvs h1 hy hK ?_
  simp [execOp, ho, Instr.alloc, zeroValue, typeInfo, hi, hv, newVar, newRow, hc]

theorem op_box (hR : Rel w S B β og st a) (hO : Out w0 S0 B w S) (hf : Fresh site st.used) {t : TypeId} {x : Operand} (ho : o.op = .box t x) (hl : (valT P st.tm t x).laidB = true)
    (hy : y { v := .ptr site 0, new := some (.box false (valT P st.tm t x).cells) } = some r) (hK : Good w0 S0 B site o st y r K) : o.wp P a w K Q := by
  obtain ⟨us, hc, hvs, h1⟩ := (valT_rel hR.tm P t x).laid hl hR.one
  refine op_newBox hR hO hf (t := t) hvs h1 hy hK ?_
  simp [execOp, ho, Instr.box, newVar, newRow, hc]

theorem op_extract (hR : Rel w S B β og st a) (hO : Out w0 S0 B w S) {x : Operand} {i : Nat} {vs : List AV} {v : AV} (ho : o.op = .extract x i) (hx : val st.tm x = .tup vs) (hv : vs[i]? = some v)
    (hy : y { v } = some r) (hK : Good w0 S0 B site o st y r K) : o.wp P a w K Q := by
  have h := val_rel hR.tm x
  rw [hx] at h
  generalize hu : a.eval x = u at h
  cases h with
  | tup _ _ us hl hh =>
    obtain ⟨u, hu', hvu⟩ := VRels.at_ (cs := vs) (vs := us) ⟨hl, hh⟩ hv
    refine op_slot hR hO hvu hy hK ?_
    simp [execOp, ho, hu, Instr.extract, hu']

theorem op_nilCheck (hR : Rel w S B β og st a) (hO : Out w0 S0 B w S) {x : Operand} {v : AV} (ho : o.op = .nilCheck x) (hx : val st.tm x = v)
    (hk : (∃ id off, v = .ptr id off) ∨ (∃ id i off, v = .eptr id i off) ∨ (∃ cs, v = .ref cs) ∨ (∃ s es i off, v = .eref s es i off) ∨ (∃ f cs, v = .fn f cs))
    (hy : y { v } = some r) (hK : Good w0 S0 B site o st y r K) : o.wp P a w K Q := by
  have h := val_rel hR.tm x
  rw [hx] at h
  refine op_slot hR hO h hy hK ?_
  have hr : (∃ ad, a.eval x = .pointer (some ad)) ∨ ∃ f cs, a.eval x = .func (.func f) #[] cs := by
    generalize a.eval x = u at h
    rcases hk with ⟨id, off, rfl⟩ | ⟨id, i, off, rfl⟩ | ⟨cs, rfl⟩ | ⟨s, es, i, off, rfl⟩ | ⟨f, cs, rfl⟩
    · cases h; exact .inl ⟨_, rfl⟩
    · cases h; exact .inl ⟨_, rfl⟩
    · cases h; exact .inl ⟨_, rfl⟩
    · cases h; exact .inl ⟨_, rfl⟩
    · cases h; exact .inr ⟨_, _, rfl⟩
  rcases hr with ⟨ad, he⟩ | ⟨f, cs, he⟩ <;> simp [execOp, ho, he]

theorem op_makeFunc (hR : Rel w S B β og st a) (hO : Out w0 S0 B w S) {f : Nat} {first captured : Array Operand} (ho : o.op = .makeFunc (.func f) first captured) (hf : first.size = 0)
    (hy : y { v := .fn f (captured.toList.map (val st.tm)) } = some r) (hK : Good w0 S0 B site o st y r K) : o.wp P a w K Q := by
  have hfe : first = #[] := Array.eq_empty_of_size_eq_zero hf
  subst hfe
  refine op_slot (u := .func (.func f) #[] (captured.toList.map a.eval).toArray) hR hO (.fn _ f _ _ (by simp) fun j c u hc hu => ?_) hy hK ?_
  · simp only [List.getElem?_map] at hc hu
    cases hj : captured.toList[j]? with
    | none => simp [hj] at hc
    | some x => simp [hj] at hc hu; subst hc; subst hu; exact val_rel hR.tm x
  · have hm : captured.map a.eval = (captured.toList.map a.eval).toArray := by apply Array.ext'; simp
    simp [execOp, ho, Instr.makeFunc, hm]

/-! ### Addresses -/
theorem fieldOf_spec {t : TypeId} {f : Nat} {fl : Field} (h : fieldOf P t f = some fl) : ∃ fs, P.underlying t = some (.struct fs) ∧ fs[f]? = some fl := by
  unfold fieldOf at h
  split at h
  · rename_i fs hfs; exact ⟨fs, hfs, h⟩
  · cases h

theorem cellsOf_info {t : TypeId} (h : P.cellsOf t ≠ 0) : ∃ i, P.info? t = some i ∧ i.size = P.cellsOf t := by
  unfold Program.cellsOf at h ⊢
  cases hi : P.info? t with
  | none => simp [hi] at h
  | some i => exact ⟨i, rfl, by simp⟩

theorem op_fieldAddr (hR : Rel w S B β og st a) (hO : Out w0 S0 B w S) {t : TypeId} {x : Operand} {f : Nat} {fl : Field} (ho : o.op = .fieldAddr t x f) (hfl : fieldOf P t f = some fl) (hz : P.cellsOf fl.type ≠ 0) {v v' : AV} (hx : val st.tm x = v)
    (hk : (∃ id off, v = .ptr id off ∧ v' = .ptr id (off + fl.offset)) ∨ (∃ id i off, v = .eptr id i off ∧ v' = .eptr id i (off + fl.offset)) ∨ (∃ cs, v = .ref cs ∧ v' = .ref (cs.drop fl.offset)) ∨
      (∃ s es i off, v = .eref s es i off ∧ v' = .eref s es i (off + fl.offset)))
    (hy : y { v := v' } = some r) (hK : Good w0 S0 B site o st y r K) : o.wp P a w K Q := by
  obtain ⟨fs, hfs, hf⟩ := fieldOf_spec hfl
  obtain ⟨i, hi, hsz⟩ := cellsOf_info hz
  have h := val_rel hR.tm x
  rw [hx] at h
  have hr : ∃ ad, a.eval x = .pointer (some ad) ∧ VRel w S β v' (.pointer (some (ad.add fl.offset))) := by
    generalize a.eval x = u at h
    rcases hk with ⟨id, off, rfl, rfl⟩ | ⟨id, i, off, rfl, rfl⟩ | ⟨cs, rfl, rfl⟩ | ⟨s, es, i, off, rfl, rfl⟩
    · cases h with
      | ptr _ _ _ g wd hb => exact ⟨_, rfl, by rw [add_lit']; exact .ptr _ id _ g wd hb⟩
    · cases h with
      | eptr _ _ _ _ g n c wd hb => exact ⟨_, rfl, by rw [add_lit', Nat.add_assoc]; exact .eptr _ id i _ g n c wd hb⟩
    · cases h with
      | ref _ _ ad xs hSa hl h1 hxs hh =>
        have hd := (VRels.drop (cs := cs) (vs := xs) ⟨hl, hh⟩ fl.offset)
        refine ⟨_, rfl, .ref _ _ _ (xs.drop fl.offset) (by rw [add_block]; exact hSa) hd.1 (fun u hu => h1 u (List.mem_of_mem_drop hu)) (fun j u hu => ?_) hd.2⟩
        rw [add_add]
        exact hxs _ u (by simpa using hu)
    · cases h with
      | eref _ _ _ _ _ ad xs hi hs hSa hl h1 hxs hh =>
        refine ⟨_, rfl, ?_⟩
        rw [add_add, Nat.add_assoc]
        exact .eref _ s es i _ ad xs hi hs hSa hl h1 hxs hh
  obtain ⟨ad, he, hv⟩ := hr
  refine op_slot hR hO hv hy hK ?_
  have hne : i.size ≠ 0 := by rw [hsz]; exact hz
  simp [execOp, ho, he, Instr.fieldAt, run_underlying hfs, hf, Instr.sureAddr, fieldPlace, sizeOf, typeInfo, hi, hne]

theorem run_isAgg {t : TypeId} {d : TypeDesc} (h : P.underlying t = some d) (w : World) : (isAgg t).run P w = .ok (isAggT P t) w := by
  unfold isAgg isAggT
  simp only [Sem.run_bind, run_underlying h, Result.andThen_ok, h]
  cases d <;> rfl

theorem aggT_some {t : TypeId} (h : isAggT P t = true) : ∃ d, P.underlying t = some d := by
  unfold isAggT at h
  cases hd : P.underlying t with
  | none => simp [hd] at h
  | some d => exact ⟨d, rfl⟩
theorem underlying_info {t : TypeId} {d : TypeDesc} (h : P.underlying t = some d) : ∃ i, P.info? t = some i ∧ i.size = P.cellsOf t := by
  unfold Program.underlying at h
  cases hi : P.info? t with
  | none => simp [hi] at h
  | some i => exact ⟨i, rfl, by simp [Program.cellsOf, hi]⟩

theorem run_loadCells_take (w : World) (ad : Addr) (xs : List Value) (n : Nat) (hn : n ≤ xs.length) (hx : ∀ (j : Nat) (u : Value), xs[j]? = some u → w.cell? (ad.add j) = some u) :
    (loadCells ad n).run P w = .ok (xs.take n).toArray w := by
  have hl : (xs.take n).length = n := by simp; omega
  have := run_loadCells_list (P := P) w ad (xs.take n) (fun j v hv => by
    rw [List.getElem?_take] at hv
    split at hv
    · exact hx j v hv
    · cases hv)
  rwa [hl] at this

/-- A load of cells that are known. -/
theorem load_sound {t : TypeId} {cs : List AV} {z : AV → Option ρ} (h : evLoad P t cs z = some r) {ad : Addr} {xs : List Value} (hv : VRels w S β cs xs) (h1 : ∀ u ∈ xs, u.oneCell' = true)
    (hx : ∀ (j : Nat) (u : Value), xs[j]? = some u → w.cell? (ad.add j) = some u) : ∃ v u, z v = some r ∧ VRel w S β v u ∧ (loadVar t ad).run P w = .ok u w := by
  unfold evLoad at h
  split at h
  · rename_i hagg
    split at h
    · rename_i hle
      have hle' : P.cellsOf t ≤ cs.length := Nat.le_of_ble_eq_true hle
      obtain ⟨d, hd⟩ := aggT_some hagg
      obtain ⟨i, hi, hsz⟩ := underlying_info hd
      have ht := hv.take (P.cellsOf t)
      refine ⟨_, _, h, .agg _ _ _ ht.1 (fun u hu => h1 u (List.mem_of_mem_take hu)) ht.2, ?_⟩
      simp [loadVar, run_isAgg hd, hagg, sizeOf, typeInfo, hi, hsz, run_loadCells_take w ad xs _ (by rw [hv.1]; exact hle') hx]
    · cases h
  · rename_i hagg
    split at h
    · rename_i hs
      obtain ⟨d, hd⟩ := Option.isSome_iff_exists.1 hs
      split at h
      · rename_i c _
        obtain ⟨u, xs', rfl, hu, _⟩ := hv.inv
        refine ⟨c, u, h, hu, ?_⟩
        have := hx 0 u rfl
        have h0 : ad.add 0 = ad := by simp [Addr.add]
        rw [h0] at this
        simp [loadVar, run_isAgg hd, hagg, this]
      · cases h
    · cases h

theorem op_load_of (hR : Rel w S B β og st a) (hO : Out w0 S0 B w S) {t : TypeId} {x : Operand} (ho : o.op = .load t x) {cs : List AV} {ad : Addr} {xs : List Value} (hx : a.eval x = .pointer (some ad))
    (hv : VRels w S β cs xs) (h1 : ∀ u ∈ xs, u.oneCell' = true) (hc : ∀ (j : Nat) (u : Value), xs[j]? = some u → w.cell? (ad.add j) = some u)
    (h : evLoad P t cs (fun v => y { v }) = some r) (hK : Good w0 S0 B site o st y r K) : o.wp P a w K Q := by
  obtain ⟨v, u, hy, hvu, hrun⟩ := load_sound (P := P) h hv h1 hc
  refine op_slot hR hO hvu hy hK ?_
  simp [execOp, ho, hx, Instr.loadAt, Instr.sureAddr, hrun]

/-- The cells of an element, brought into the shape's form: nothing has changed. -/
theorem eta1_has {s : Sh} {v : AV} (h : has1 s v = true) (hz : ∀ s', v ≠ .slz s') : eta1 s v = v := by
  cases s <;> cases v <;> simp [has1, eta1, AV.toInt, AV.toBool, AV.toStr, AV.toList] at h ⊢ <;> first | exact h | exact (Sh.beq_eq _ _ h) | (exact absurd rfl (hz _))

/-- A value of a shape, written out by it, stands for the same. -/
theorem eta1_rel {s : Sh} {v : AV} {u : Value} (h : has1 s v = true) (hv : VRel w S β v u) : VRel w S β (eta1 s v) u := by
  cases s with
  | int k => cases v <;> simp [has1] at h; subst h; exact hv
  | bool => cases v <;> simp [has1] at h; exact hv
  | str => cases v <;> simp [has1] at h; exact hv
  | slice s =>
    cases v <;> simp [has1] at h
    · rw [Sh.beq_eq _ _ h]; exact hv
    · cases hv with
      | slz _ _ A => exact .slv _ s [] A 0 default [] (by simp) (by simp) (by decide) (fun h => absurd rfl h) (by simp [flat]) (by simp) (by simp) (by simp [flat])
  | agg l => cases v <;> simp [has1] at h
  | other => cases v <;> simp [has1] at h
theorem etas_rel : ∀ (l : List Sh) (cs : List AV) (us : List Value), hass l cs = true → VRels w S β cs us → VRels w S β (etas l cs) us
  | [], [], us, _, hv => by rw [hv.inv_nil]; exact VRels.nil
  | [], _ :: _, _, h, _ => by simp [hass] at h
  | _ :: _, [], _, h, _ => by simp [hass] at h
  | s :: l, c :: cs, us, h, hv => by
    simp [hass] at h
    obtain ⟨u, us', rfl, hu, hs⟩ := hv.inv
    exact VRels.cons (eta1_rel h.1 hu) (etas_rel l cs us' h.2 hs)

/-- The cells of element i, from 'off' on. -/
theorem elem_cells {s : Sh} {es : List AV} {xs : List Value} {ad : Addr} {i off : Nat} (hs : ∀ e ∈ es, hasSh s e = true) (hi : i < es.length) (hv : VRels w S β (flat es) xs) (h1 : ∀ u ∈ xs, u.oneCell' = true)
    (hx : ∀ (j : Nat) (u : Value), xs[j]? = some u → w.cell? (ad.add j) = some u) : ∃ ys : List Value, VRels w S β ((etaCells s (es.getD i .unk)).drop off) ys ∧ (∀ u ∈ ys, u.oneCell' = true) ∧
      ∀ (j : Nat) (u : Value), ys[j]? = some u → w.cell? ((ad.add (i * s.width + off)).add j) = some u := by
  have he : es[i]? = some es[i] := List.getElem?_eq_getElem hi
  have hgd : es.getD i .unk = es[i] := by simp [List.getD, he]
  have hsh : hasSh s es[i] = true := hs _ (List.getElem_mem hi)
  have hcl := flat_at es i es[i] hs he
  have hvv := (hv.drop (i * s.width)).take s.width
  rw [hcl] at hvv
  have hq := (etas_rel _ _ _ (hasSh_hass s _ hsh) hvv).drop off
  refine ⟨_, by rw [hgd]; exact hq, fun u hu => h1 u (List.mem_of_mem_drop (List.mem_of_mem_take (List.mem_of_mem_drop hu))), fun j u hu => ?_⟩
  rw [add_add]
  rw [List.getElem?_drop, List.getElem?_take] at hu
  split at hu
  · rw [List.getElem?_drop] at hu
    rw [show i * s.width + off + j = i * s.width + (off + j) from by omega]
    exact hx _ u hu
  · cases hu

theorem op_load (hR : Rel w S B β og st a) (hO : Out w0 S0 B w S) {rowsV : List (Nat × Row)} (hsub : ∀ id x, lookup rowsV id = some x → lookup st.rows id = some x) {t : TypeId} {x : Operand} (ho : o.op = .load t x)
    {Γ : Env} (h : evOp P Γ site o st.tm rowsV y = some r) (hK : Good w0 S0 B site o st y r K) : o.wp P a w K Q := by
  have hv := val_rel hR.tm x
  simp only [evOp, ho] at h
  split at h
  · rename_i id off hx
    rw [hx] at hv
    split at h
    · rename_i im cs hl
      obtain ⟨g, vs, t', hog, hb, hh, h1, hvs, _⟩ := hR.row id _ (hsub _ _ hl)
      generalize he : a.eval x = u at hv
      cases hv with
      | ptr _ _ _ g' wd hb' =>
        rw [hb] at hb'
        simp at hb'
        obtain ⟨rfl, _⟩ := hb'
        refine op_load_of hR hO ho he (hvs.drop off) (fun u hu => h1 u (List.mem_of_mem_drop hu)) (fun j u hu => ?_) h hK
        rw [add_lit', row_cell hh]
        simpa using hu
    · cases h
  · rename_i cs hx
    rw [hx] at hv
    generalize he : a.eval x = u at hv
    cases hv with
    | ref _ _ ad xs hSa hl h1 hxs hh => exact op_load_of hR hO ho he (VRels.mono (β := nob) (w := w) (S := S) ⟨hl, hh⟩ (fun _ h => h) (fun _ _ => rfl) (fun _ _ h => by cases h)) h1 hxs h hK
  · rename_i s es i off hx
    rw [hx] at hv
    generalize he : a.eval x = u at hv
    cases hv with
    | eref _ _ _ _ _ ad xs hi hs hSa hl h1 hxs hh =>
      obtain ⟨ys, hys, h1', hc⟩ := elem_cells (off := off) hs hi (VRels.mono (β := nob) (β' := β) (w := w) (S := S) ⟨hl, hh⟩ (fun _ h => h) (fun _ _ => rfl) (fun _ _ h => by cases h)) h1 hxs
      exact op_load_of hR hO ho he hys h1' hc h hK
  · rename_i id i off hx
    rw [hx] at hv
    split at h
    · rename_i im s e es csp hl
      generalize hb : decide (i < es.length) = b at h
      cases b with
      | false => cases h
      | true =>
        have hi : i < es.length := of_decide_eq_true hb
        simp only [cond_true] at h
        obtain ⟨hp, hsh, v, xs, hb, h1, hvs, hor⟩ := (hR.row id _ (hsub _ _ hl)).arr_old
        generalize he : a.eval x = u at hv
        cases hv with
        | eptr _ _ _ _ g n c wd hb' =>
          rw [hb] at hb'
          simp only [Option.some.injEq, Prod.mk.injEq] at hb'
          obtain ⟨rfl, rfl⟩ := hb'
          rcases hor with ⟨he0, _⟩ | ⟨g', cap, cur, hog, hvv, _, hh, _, _, _, htk, _⟩
          · subst he0; simp at hi
          · simp at hvv
            obtain ⟨rfl, _, _⟩ := hvv
            have hcell : ∀ (j : Nat) (u : Value), xs[j]? = some u → w.cell? ((⟨g, 0, none⟩ : Addr).add j) = some u := by
              intro j u hu
              rw [add_lit, row_cell hh]
              rw [← htk, List.getElem?_take] at hu
              split at hu
              · simpa using hu
              · cases hu
            obtain ⟨ys, hys, h1', hc⟩ := elem_cells (off := off) hsh hi (VRels.mono (β := nob) (β' := β) (w := w) (S := S) hvs (fun _ h => h) (fun _ _ => rfl) (fun _ _ h => by cases h)) h1 hcell
            rw [add_lit] at hc
            exact op_load_of hR hO ho he hys h1' hc h hK
    · cases h
  · cases h
end ops
end Go.Ev
