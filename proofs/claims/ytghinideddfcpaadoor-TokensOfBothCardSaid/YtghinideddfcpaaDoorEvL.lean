/-
  The operations, seventh part: literals, calls; all operations together.
-/
import Derived.Test.YtghinideddfcpaaDoorEvH
import Derived.Lib.AppendStr
import Derived.Deep.DeepAppendWide
import Derived.Lib.OthersKept
import Derived.Laws.Tables
/-
  The operations, fourth part: len, min, max, append, literals, stores.
-/
namespace Go.Ev
open Go.RowKit

/-- Cells are written into a row that may bear the mark of a conversion behind its cells. -/
theorem run_storeCells_atM (P : Program) (g o : Nat) (t : TypeId) (fz : Nat × Nat) : ∀ (vs : List Value) (i : Nat) (cur : Array Value) (w : World), w.heap[g]? = some (.cells cur t fz) → (fz = (0, 0) ∨ fz = (cur.size, cur.size + 1)) → o + i + vs.length ≤ cur.size → (∀ v ∈ vs, v.oneCell' = true) →
    (storeCells ⟨g, o, none⟩ vs i).run P w = .ok () (w.setRow g (cur.toList.take (o + i) ++ vs ++ cur.toList.drop (o + i + vs.length)).toArray)
  | [], i, cur, w, hg, _, _, _ => by
    simp only [storeCells, List.append_nil, List.length_nil, Nat.add_zero, List.take_append_drop, Array.toArray_toList]
    rw [setRow_self w g cur t fz hg]
    rfl
  | v :: rest, i, cur, w, hg, hfz, hl, h1 => by
    have hi : o + i < cur.size := by simp at hl; omega
    have hadd : (⟨g, o, none⟩ : Addr).add i = ⟨g, o + i, none⟩ := by unfold Addr.add; split <;> simp_all
    have hcell : w.cell? ⟨g, o + i, none⟩ = some cur[o + i] := by simp [World.cell?, hg, hi]
    have hfro : w.frozen? ⟨g, o + i, none⟩ = false := by
      obtain ⟨lo, hi'⟩ := fz
      simp only [World.frozen?, hg, Bool.and_eq_false_iff, decide_eq_false_iff_not]
      rcases hfz with h | h
      · right; cases h; simp
      · left; cases h; simp; omega
    have hst : (store ((⟨g, o, none⟩ : Addr).add i) v).run P w = .ok () (w.setRow g (cur.setIfInBounds (o + i) v)) := by
      rw [hadd, run_store P w _ v _ (h1 v (by simp)), hcell]
      simp [hfro, setCell_eq_setRow w g (o + i) cur t fz v hg]
    have ih := run_storeCells_atM P g o t fz rest (i + 1) (cur.setIfInBounds (o + i) v) (w.setRow g (cur.setIfInBounds (o + i) v)) (setRow_heap w g cur _ t _ hg) (by simpa using hfz) (by simp at hl ⊢; omega) (fun x hx => h1 x (by simp [hx]))
    simp only [storeCells, Sem.run_bind, hst, Result.andThen_ok, ih, setRow_setRow]
    congr 3
    have e := list_seg_step cur.toList (o + i) v rest (by simp at hl ⊢; omega)
    simpa [Array.toList_setIfInBounds, Nat.add_assoc] using e
theorem Lies.stores {P : Program} {w : World} {g : Nat} {cur : Array Value} {e : TypeId} {m : Bool} (h : Lies w g cur e m) (o : Nat) (vs : List Value) (i : Nat) (hl : o + i + vs.length ≤ cur.size) (h1 : ∀ v ∈ vs, v.oneCell' = true) :
    (storeCells ⟨g, o, none⟩ vs i).run P w = .ok () (w.setRow g (cur.toList.take (o + i) ++ vs ++ cur.toList.drop (o + i + vs.length)).toArray) := by
  obtain ⟨fz, hfz, hg⟩ := h
  exact run_storeCells_atM P g o e fz vs i cur w hg (hfz.imp id And.right) hl h1
theorem run_append_roomM {P : Program} (w : World) (t ty e : TypeId) (i : TypeInfo) (ht : P.underlying t = some (.slice e)) (hi : P.info? e = some i)
    (g sLen sCap : Nat) (cur : Array Value) {mk : Bool} (hg : Lies w g cur e mk)
    (a : Addr) (m c : Nat) (news : List Value) (hl : news.length = m * i.size) (hnews : ∀ j u, news[j]? = some u → w.cell? (a.add j) = some u) (h1 : ∀ u ∈ news, u.oneCell' = true)
    (hroom : sLen + m ≤ sCap) (hfit : sLen * i.size + news.length ≤ cur.size) :
    (Builtin.append_ #[t, t] ty #[.slice (some ⟨g, 0, none⟩) sLen sCap, .slice (some a) m c]).run P w =
      .ok (.slice (some ⟨g, 0, none⟩) (sLen + m) sCap) (w.setRow g (cur.toList.take (sLen * i.size) ++ news ++ cur.toList.drop (sLen * i.size + news.length)).toArray) := by
  obtain ⟨fz, hfz, hg⟩ := hg
  have hf := run_firstCells_some (P := P) w i.size m a m c news hl hnews
  have hst := run_storeCells_atM P g (sLen * i.size) e fz news 0 cur w hg (hfz.imp id And.right) (by simpa using hfit) h1
  simp only [Nat.add_zero] at hst
  simp [Builtin.append_, run_underlying ht, sizeOf, typeInfo, hi, Builtin.lenOf, hroom, hf, Addr.add_lit, hst]
theorem Lies.setRow {w : World} {g : Nat} {cur cs : Array Value} {e : TypeId} {m : Bool} (h : Lies w g cur e m) (hs : cs.size = cur.size) : Lies (w.setRow g cs) g cs e m := by
  obtain ⟨fz, hfz, h⟩ := h
  exact ⟨fz, by rw [hs]; exact hfz, setRow_heap w g cur _ e _ h⟩

section ops
variable {R : Option Nat} {ρ : Type} {P : Program} {w0 w : World} {S0 S : Nat → Prop} {B : Ctx} {β : Bet} {og : Nat → Option Nat} {st : St} {a : Act} {o : Oper} {site : Nat} {y : Eff → Option ρ} {r : ρ}
  {K : Act → World → Prop} {Q : Exit → Act → World → Prop}

theorem size_mk (s : List UInt8) : (ByteArray.mk s.toArray).size = s.length := by simp [ByteArray.size]

theorem map_eval (args : Array Operand) (us : List Value) (h : args.toList.map a.eval = us) : args.map a.eval = us.toArray := by
  apply Array.ext'
  simpa using h

theorem minInt_sound {k : IntKind} : ∀ (rest : List AV) (us : List Value) (x n : Int), minInt k x rest = some n → VRels w S β rest us → (us.foldlM Builtin.min2 (.int k x)).run P w = .ok (.int k n) w
  | [], us, x, n, h, hv => by simp [minInt] at h; rw [hv.inv_nil]; simp [h]
  | c :: rest, us, x, n, h, hv => by
    obtain ⟨u, us', rfl, hu, hs⟩ := hv.inv
    cases c <;> simp only [minInt] at h <;> try (cases h)
    rename_i k' m
    split at h
    · rename_i hk
      subst hk
      rw [hu.int_inv]
      have ih := minInt_sound rest us' _ n h hs
      simp only [List.foldlM_cons, Builtin.min2, pure_bind]
      exact ih
    · cases h
theorem maxInt_sound {k : IntKind} : ∀ (rest : List AV) (us : List Value) (x n : Int), maxInt k x rest = some n → VRels w S β rest us → (us.foldlM Builtin.max2 (.int k x)).run P w = .ok (.int k n) w
  | [], us, x, n, h, hv => by simp [maxInt] at h; rw [hv.inv_nil]; simp [h]
  | c :: rest, us, x, n, h, hv => by
    obtain ⟨u, us', rfl, hu, hs⟩ := hv.inv
    cases c <;> simp only [maxInt] at h <;> try (cases h)
    rename_i k' m
    split at h
    · rename_i hk
      subst hk
      rw [hu.int_inv]
      have ih := maxInt_sound rest us' _ n h hs
      simp only [List.foldlM_cons, Builtin.max2, pure_bind]
      exact ih
    · cases h

/-- What an argument of len or append holds. -/
theorem elems_sound (hR : Rel w S B β og st a) {rowsV : List (Nat × Row)} (hsub : ∀ id x, lookup rowsV id = some x → lookup st.rows id = some x) {z : AV} {s : Sh} {es : List AV} (h : elemsOf rowsV z = some (s, es)) {u : Value} (hv : VRel w S β z u) :
    ∃ (A : Option Addr) (c : Nat) (ad : Addr) (xs : List Value), u = .slice A es.length c ∧ (∀ e ∈ es, hasSh s e = true) ∧ (es ≠ [] → A = some ad) ∧ VRels w S nob (flat es) xs ∧ (∀ u ∈ xs, u.oneCell' = true) ∧
      (∀ (j : Nat) (u : Value), xs[j]? = some u → w.cell? (ad.add j) = some u) ∧ es.length ≤ maxLen := by
  cases z <;> simp only [elemsOf] at h <;> try (cases h)
  · obtain ⟨A, c, ad, xs, rfl, hs, hc, hm, hA, hvs, h1, hx⟩ := hv.slv_inv
    exact ⟨A, c, ad, xs, rfl, hs, fun hne => (hA hne).1, hvs, h1, hx, by omega⟩
  · cases hv with
    | slz _ _ A => exact ⟨A, 0, default, [], rfl, by simp, fun h => absurd rfl h, VRels.nil, by simp, by simp, by simp⟩
  · rename_i id
    split at h
    · rename_i im s' e es' csp hl
      cases h
      obtain ⟨hp, hsh, v, xs, hbt, h1, hvs, hor⟩ := (hR.row id _ (hsub _ _ hl)).arr_old
      cases hv with
      | own _ _ v' wd hb' =>
        rw [hbt] at hb'
        simp only [Option.some.injEq, Prod.mk.injEq] at hb'
        obtain ⟨rfl, rfl⟩ := hb'
        rcases hor with ⟨he0, _, A, rfl⟩ | ⟨g, cap, cur, hog, rfl, _, hh, hc, hm, _, htk, _⟩
        · subst he0
          exact ⟨A, 0, default, xs, rfl, by simp, fun h => absurd rfl h, hvs, h1, fun j u hu => by
            have : xs = [] := by have := hvs.1; simpa [flat] using this
            subst this
            simp at hu, by simp⟩
        · refine ⟨_, cap, ⟨g, 0, none⟩, xs, rfl, hsh, fun _ => rfl, hvs, h1, fun j u hu => ?_, by omega⟩
          rw [add_lit, row_cell hh]
          rw [← htk, List.getElem?_take] at hu
          split at hu
          · simpa using hu
          · cases hu
    · cases h
  · rename_i id lo n
    split at h
    · rename_i im s' e es' csp hl
      split at h
      · rename_i hle
        cases h
        obtain ⟨hp, hsh, v, xs, hbt, h1, hvs, hor⟩ := (hR.row id _ (hsub _ _ hl)).arr_old
        have hlen : ((es'.drop lo).take n).length = n := by simp; omega
        have hfl : flat ((es'.drop lo).take n) = ((flat es').drop (lo * s.width)).take (n * s.width) := by
          rw [flat_take (s := s) _ _ (fun x hx => hsh x (List.mem_of_mem_drop hx)), flat_drop es' lo hsh]
        have hvv := (hvs.drop (lo * s.width)).take (n * s.width)
        rw [← hfl] at hvv
        have hs' : ∀ e ∈ (es'.drop lo).take n, hasSh s e = true := fun e he => hsh e (List.mem_of_mem_drop (List.mem_of_mem_take he))
        have h1' : ∀ u ∈ (xs.drop (lo * s.width)).take (n * s.width), u.oneCell' = true := fun u hu => h1 u (List.mem_of_mem_drop (List.mem_of_mem_take hu))
        cases hv with
        | sub _ _ _ _ A m c wd hb' =>
          rw [hbt] at hb'
          simp only [Option.some.injEq, Prod.mk.injEq] at hb'
          obtain ⟨rfl, rfl⟩ := hb'
          rcases hor with ⟨he0, _, A', hA'⟩ | ⟨g, cap, cur, hog, hvv', _, hh, hc, hm, _, htk, _⟩
          · subst he0
            simp at hle
            obtain ⟨rfl, rfl⟩ := hle
            refine ⟨_, _, default, _, by rw [hlen], hs', fun h => absurd (by simp) h, hvv, h1', fun j u hu => ?_, by simp⟩
            simp at hu
          · cases hvv'
            refine ⟨_, _, ⟨g, lo * s.width, none⟩, _, by rw [hlen], hs', fun hne => ?_, hvv, h1', fun j u hu => ?_, by rw [hlen]; omega⟩
            · have hn : n ≠ 0 := by rintro rfl; simp at hne
              rw [if_neg (by omega)]
              simp [add_lit']
            · rw [List.getElem?_take] at hu
              split at hu
              · rw [List.getElem?_drop] at hu
                rw [add_lit', row_cell hh]
                rw [← htk, List.getElem?_take] at hu
                split at hu
                · simpa using hu
                · cases hu
              · cases hu
      · cases h
    · cases h

theorem op_len (hR : Rel w S B β og st a) (hO : Out w0 S0 B w S) {rowsV : List (Nat × Row)} (hsub : ∀ id x, lookup rowsV id = some x → lookup st.rows id = some x) {args : Array Operand} {ts : Array TypeId} {t : TypeId} {tr : List TypeId} {x : AV}
    (ho : o.op = .call { callee := .builtin .len, args := args, argTypes := ts }) (hts : ts.toList = t :: tr) (hx : valsT P st.tm ts.toList args.toList = [x])
    (h : evLen P rowsV t x y = some r) (hK : Good w0 S0 B site o st y r K) : o.wpR R P a w K Q := by
  have hv := valsT_rel hR.tm P ts.toList args.toList
  rw [hx] at hv
  obtain ⟨u, us, he, hu, hn⟩ := hv.inv
  rw [hn.inv_nil] at he
  have hm := map_eval args _ he
  have ht0 : ts[0]? = some t := by rw [← Array.getElem?_toList, hts]; rfl
  unfold evLen at h
  split at h
  · rename_i ht
    split at h
    · refine op_slot hR hO (.int _ _ _) h hK ?_
      simp [execOp, ho, resolve, invoke, builtin, hm, Builtin.len_, ht0, run_underlying ht, hu.str_inv, goInt, size_mk]
    · cases h
  · rename_i e ht
    split at h
    · rename_i n hfl
      cases x with
      | own id =>
        simp only [focLen] at hfl
        cases hl : lookup rowsV id with
        | none => rw [hl] at hfl; cases hfl
        | some r0 =>
          cases r0 with
          | box _ _ => rw [hl] at hfl; cases hfl
          | arr _ _ _ _ _ => rw [hl] at hfl; cases hfl
          | foc im s e' pre cs post =>
            simp only [hl, Option.some.injEq] at hfl
            subst hfl
            obtain ⟨hpos, hcl, g, sp, xs, us', ys, _, _, _, hbt, _⟩ := hR.row id _ (hsub _ _ hl)
            generalize pre.length + (post.length + 1) = m at hbt h
            cases hu with
            | own _ _ v' wd hb' =>
              rw [hbt] at hb'
              simp only [Option.some.injEq, Prod.mk.injEq] at hb'
              obtain ⟨rfl, rfl⟩ := hb'
              refine op_slot hR hO (.int _ _ _) h hK ?_
              simp [execOp, ho, resolve, invoke, builtin, hm, Builtin.len_, ht0, run_underlying ht, goInt]
      | _ => simp [focLen] at hfl
    split at h
    · rename_i s es hel
      obtain ⟨A, c, ad, xs, rfl, _⟩ := elems_sound hR hsub hel hu
      refine op_slot hR hO (.int _ _ _) h hK ?_
      simp [execOp, ho, resolve, invoke, builtin, hm, Builtin.len_, ht0, run_underlying ht, goInt]
    · cases h
  · cases h

theorem op_min (hR : Rel w S B β og st a) (hO : Out w0 S0 B w S) {args : Array Operand} {ts : Array TypeId} {k : IntKind} {x n : Int} {rest : List AV}
    (ho : o.op = .call { callee := .builtin .min, args := args, argTypes := ts }) (hx : valsT P st.tm ts.toList args.toList = .int k x :: rest) (hn : minInt k x rest = some n)
    (hy : y { v := .int k n } = some r) (hK : Good w0 S0 B site o st y r K) : o.wpR R P a w K Q := by
  have hv := valsT_rel hR.tm P ts.toList args.toList
  rw [hx] at hv
  obtain ⟨u, us, he, hu, hs⟩ := hv.inv
  have hm := map_eval args _ he
  refine op_slot hR hO (.int _ _ _) hy hK ?_
  have := minInt_sound (P := P) rest us x n hn hs
  simp [execOp, ho, resolve, invoke, builtin, hm, Builtin.min_, hu.int_inv, this]
theorem op_max (hR : Rel w S B β og st a) (hO : Out w0 S0 B w S) {args : Array Operand} {ts : Array TypeId} {k : IntKind} {x n : Int} {rest : List AV}
    (ho : o.op = .call { callee := .builtin .max, args := args, argTypes := ts }) (hx : valsT P st.tm ts.toList args.toList = .int k x :: rest) (hn : maxInt k x rest = some n)
    (hy : y { v := .int k n } = some r) (hK : Good w0 S0 B site o st y r K) : o.wpR R P a w K Q := by
  have hv := valsT_rel hR.tm P ts.toList args.toList
  rw [hx] at hv
  obtain ⟨u, us, he, hu, hs⟩ := hv.inv
  have hm := map_eval args _ he
  refine op_slot hR hO (.int _ _ _) hy hK ?_
  have := maxInt_sound (P := P) rest us x n hn hs
  simp [execOp, ho, resolve, invoke, builtin, hm, Builtin.max_, hu.int_inv, this]

/-! ### append -/
theorem elemOK_spec {e : TypeId} (h : elemOK P e = true) : ∃ i z, P.info? e = some i ∧ i.zero = some z ∧ i.size = (shOf P depth e).width ∧ 0 < i.size ∧ z.cells.size = i.size ∧ i.bytes = P.bytesOf e ∧
    ∃ zc, zeroAV P e = some zc ∧ hass (shOf P depth e).cells zc = true := by
  unfold elemOK at h
  cases hi : P.info? e with
  | none => simp [hi] at h
  | some i =>
    simp only [hi, Bool.and_eq_true, beq_iff_eq] at h
    obtain ⟨h1, h2, h3, h4⟩ := h
    cases hz : i.zero with
    | none => simp [hz] at h3
    | some z =>
      simp only [hz, beq_iff_eq] at h3
      cases hza : zeroAV P e with
      | none => simp [hza] at h4
      | some zc =>
        simp only [hza] at h4
        exact ⟨i, z, rfl, hz, h1, Nat.blt_eq ▸ h2, h3, by simp [Program.bytesOf, hi], zc, rfl, h4⟩

theorem range_rep {α : Type} (zs : List α) (d : α) (n : Nat) (hn : zs.length = n) (hpos : 0 < n) : ∀ len : Nat, (List.range (len * n)).map (fun j => zs.getD (j % n) d) = (List.replicate len zs).flatten
  | 0 => by simp
  | len + 1 => by
    have ih := range_rep zs d n hn hpos len
    rw [Nat.add_mul, Nat.one_mul, Nat.add_comm, List.range_add, List.map_append, List.replicate_succ, List.flatten_cons]
    congr 1
    · apply List.ext_getElem?
      intro j
      simp only [List.getElem?_map]
      by_cases hj : j < n
      · simp [List.getElem?_range hj, Nat.mod_eq_of_lt hj, List.getD, List.getElem?_eq_getElem (show j < zs.length by omega)]
      · simp [List.getElem?_eq_none (show (List.range n).length ≤ j by simp; omega), List.getElem?_eq_none (show zs.length ≤ j by omega)]
    · rw [← ih, List.map_map]
      apply List.map_congr_left
      intro j _
      simp

theorem VRels.rep {cs : List AV} {vs : List Value} (h : VRels w S β cs vs) : ∀ len : Nat, VRels w S β (List.replicate len cs).flatten (List.replicate len vs).flatten
  | 0 => by simpa using VRels.nil
  | len + 1 => by
    rw [List.replicate_succ, List.replicate_succ, List.flatten_cons, List.flatten_cons]
    exact h.append (VRels.rep h len)

theorem ofCell_cells (s : Sh) (v : Value) : (ofCell s v).cells = [ofCell s v] := by
  unfold ofCell
  split <;> first | rfl | (split <;> rfl)
theorem ofCells_cells : ∀ (l : List Sh) (vs : List Value), ∀ c ∈ ofCells l vs, c.cells = [c]
  | _, [], c, hc => by simp [ofCells] at hc
  | l, v :: vs, c, hc => by
    simp only [ofCells, List.mem_cons] at hc
    rcases hc with rfl | hc
    · exact ofCell_cells _ _
    · exact ofCells_cells _ vs c hc
theorem ofVal_cells (s : Sh) (v : Value) : ∀ c ∈ (ofVal s v).cells, c.cells = [c] := by
  intro c hc
  unfold ofVal at hc
  split at hc
  · split at hc
    · exact ofCells_cells _ _ c hc
    · simp [AV.cells] at hc; subst hc; rfl
  · split at hc
    · simp [AV.cells] at hc; subst hc; rfl
    · simp [AV.cells] at hc; subst hc; rfl
  · rw [ofCell_cells] at hc
    simp at hc
    subst hc
    exact ofCell_cells _ _

theorem mkAV_zero {s : Sh} {z : List AV} (hl : z.length = s.width) (h1 : ∀ c ∈ z, c.cells = [c]) : (mkAV s z).cells = z := by
  cases s with
  | agg l => rfl
  | _ =>
    match z, hl with
    | [c], _ => exact h1 c (by simp)


theorem mkAV_of {s : Sh} {avs : List AV} (h : hass s.cells avs = true) : (mkAV s avs).cells = avs ∧ hasSh s (mkAV s avs) = true := by
  have one : ∀ s : Sh, s.cells = [s] → (∀ c, hasSh s c = has1 s c) → (mkAV s avs = avs.headD .unk) → hass s.cells avs = true → (mkAV s avs).cells = avs ∧ hasSh s (mkAV s avs) = true := by
    intro s e1 e2 e3 h
    rw [e1] at h
    cases avs with
    | nil => simp [hass] at h
    | cons c cs =>
      cases cs with
      | cons => simp [hass] at h
      | nil =>
        simp only [hass, Bool.and_true] at h
        rw [e3, e2]
        exact ⟨(has1_cells s c h).1, h⟩
  cases s with
  | agg l => exact ⟨rfl, h⟩
  | int k => exact one (.int k) rfl (fun _ => rfl) rfl h
  | bool => exact one .bool rfl (fun _ => rfl) rfl h
  | str => exact one .str rfl (fun _ => rfl) rfl h
  | slice s => exact one (.slice s) rfl (fun _ => rfl) rfl h
  | other => exact one .other rfl (fun _ => rfl) rfl h
theorem zeros_rel {e : TypeId} {i : TypeInfo} {zz : Value} {zc : List AV} (hi : P.info? e = some i) (hzz : i.zero = some zz) (hzs : zz.cells.size = i.size) (hpos : 0 < i.size) (hza : zeroAV P e = some zc) (hh : hass (shOf P depth e).cells zc = true) (w : World) (S : Nat → Prop) (β : Bet) (k : Nat) :
    hasSh (shOf P depth e) (zeroE P e) = true ∧ VRels w S β (flat (List.replicate k (zeroE P e))) (Builtin.zeroCells zz.cells k).toList ∧ ∀ u ∈ (Builtin.zeroCells zz.cells k).toList, u.oneCell' = true := by
  obtain ⟨i', v, hi', hv, hl, hzc⟩ := zeroAV_spec hza
  rw [hi] at hi'
  cases hi'
  rw [hzz] at hv
  cases hv
  obtain ⟨zs, hcz, hzvs, hz1⟩ := (ofVal_rel (w := w) (S := S) (β := nob) (shOf P depth e) zz).laid hl (fun _ _ h => by cases h)
  obtain ⟨m1, m2⟩ := mkAV_of hh
  have hzl : zs.length = i.size := by rw [← hzs, hcz]; simp
  have hzl2 : (Builtin.zeroCells zz.cells k).toList = (List.replicate k zs).flatten := by
    have hr := range_rep zs (default : Value) i.size hzl hpos k
    rw [← hr]
    unfold Builtin.zeroCells
    rw [hcz]
    simp only [List.size_toArray, hzl, Array.toList_map, Array.toList_range]
    apply List.map_congr_left
    intro j _
    have hlt : j % i.size < zs.length := by rw [hzl]; exact Nat.mod_lt _ hpos
    simp [List.getD, List.getElem?_eq_getElem hlt, getElem!_pos zs.toArray (j % i.size) (by simpa using hlt)]
  have hfl : flat (List.replicate k (zeroE P e)) = (List.replicate k zc).flatten := by
    simp [flat, List.flatMap_replicate, zeroE, hza, m1]
  refine ⟨by simpa [zeroE, hza] using m2, ?_, ?_⟩
  · rw [hfl, hzl2, hzc]
    exact (hzvs.mono (fun _ h => h) (fun _ _ => rfl) (fun _ _ h => by cases h)).rep k
  · intro u hu
    rw [hzl2] at hu
    obtain ⟨l, hl, hul⟩ := List.mem_flatten.1 hu
    rw [(List.mem_replicate.1 hl).2] at hul
    exact hz1 u hul

/-- A slice's new array, with zero values behind its elements. -/
theorem rowrel_new (hSlt : ∀ b, S b → b < w.heap.size) (hBlt : ∀ b, B b → b < w.heap.size) {e : TypeId} {i : TypeInfo} {zz : Value} {zc : List AV} (hi : P.info? e = some i) (hzz : i.zero = some zz) (hzs : zz.cells.size = i.size) (hpos : 0 < i.size) (hiw : i.size = (shOf P depth e).width)
    (hza : zeroAV P e = some zc) (hh : hass (shOf P depth e).cells zc = true) {s : Sh} (hse : s = shOf P depth e) {es : List AV} {xs : List Value} (hsh : ∀ x ∈ es, hasSh s x = true) (hvs : VRels w S nob (flat es) xs) (h1 : ∀ u ∈ xs, u.oneCell' = true) {cap : Nat} (hc : es.length ≤ cap) (hm : cap ≤ maxLen)
    {w1 : World} (hw1 : w1.heap = w.heap) {β' : Bet} {id : Nat} (hβ : β' id = some (.slice (some ⟨w.heap.size, 0, none⟩) es.length cap, s.width)) :
    RowRel (w1.alloc (.cells (xs.toArray ++ Builtin.zeroCells zz.cells (cap - es.length)) e)) S B β' id (some w.heap.size) (.arr false s e es none) := by
  have hb := below_alloc w1 (.cells (xs.toArray ++ Builtin.zeroCells zz.cells (cap - es.length)) e)
  rw [hw1] at hb
  obtain ⟨z1, z2, z3⟩ := zeros_rel (P := P) hi hzz hzs hpos hza hh (w1.alloc (.cells (xs.toArray ++ Builtin.zeroCells zz.cells (cap - es.length)) e)) S nob (cap - es.length)
  have hx : (xs.toArray ++ Builtin.zeroCells zz.cells (cap - es.length)) = (xs ++ (Builtin.zeroCells zz.cells (cap - es.length)).toList).toArray := by apply Array.ext'; simp
  refine ⟨by rw [hse, ← hiw]; exact hpos, _, List.replicate (cap - es.length) (zeroE P e), xs ++ (Builtin.zeroCells zz.cells (cap - es.length)).toList, ?_, (fun c h => by cases h), hβ, ?_, ?_, .inr ⟨w.heap.size, rfl, ?_, fun h => Nat.lt_irrefl _ (hBlt _ h), ?_, ?_, fun _ hs => absurd (hSlt _ hs) (Nat.lt_irrefl _), (fun h => by cases h)⟩⟩
  · intro x hx
    rcases List.mem_append.1 hx with h | h
    · exact hsh x h
    · rw [(List.mem_replicate.1 h).2, hse]; exact z1
  · intro u hu
    rcases List.mem_append.1 hu with h | h
    · exact h1 u h
    · exact z3 u h
  · rw [flat_append]
    exact (hvs.mono (fun _ h => h) (fun b hs => by rw [hb.block b (hSlt b hs), hw1]) (fun _ _ h => h)).append z2
  · simp only [List.length_replicate]; congr 1; omega
  · have := heap_alloc_new w1 (.cells (xs.toArray ++ Builtin.zeroCells zz.cells (cap - es.length)) e)
    rw [hw1] at this
    refine Lies.plain ?_
    rw [this, hx]
  · simp only [List.length_replicate]; omega

theorem roomB_spec {n b : Nat} (h : roomB n b = true) : n * b ≤ 150000000000000 ∧ n ≤ 4611686018427387904 := by
  simp only [roomB, Bool.and_eq_true, Bool.or_eq_true, decide_eq_true_eq] at h
  refine ⟨?_, h.2⟩
  rcases h.1 with h | ⟨rfl, h⟩ <;> omega
theorem roomB_fits {n b old : Nat} (h : roomB n b = true) (hlt : old < n) : Builtin.nextslicecap n old * b ≤ 281474976710656 := by
  simp only [roomB, Bool.and_eq_true, Bool.or_eq_true, decide_eq_true_eq] at h
  rcases h.1 with h | ⟨rfl, h⟩
  · exact growslice_fits hlt h
  · have := nextslicecap_le_wide (need := n) hlt
    omega

/-- The model's append onto a slice without room. -/
theorem run_append_cap0 (t ty e : TypeId) (i : TypeInfo) (z : Value) (ht : P.underlying t = some (.slice e)) (hi : P.info? e = some i) (hz : i.zero = some z) (A : Option Addr)
    (ad : Addr) (n c : Nat) (news : List Value) (hl : news.length = n * i.size) (hnews : ∀ (j : Nat) (v : Value), news[j]? = some v → w.cell? (ad.add j) = some v)
    (h0 : 0 < n) (h63 : (n : Int) ≤ 9223372036854775807) (h48 : n * i.bytes ≤ 150000000000000) :
    (Builtin.append_ #[t, t] ty #[.slice A 0 0, .slice (some ad) n c]).run P w =
      .ok (.slice (some ⟨w.heap.size, 0, none⟩) n (grownCap w n 0 e)) (w.drew.alloc (.cells (news.toArray ++ Builtin.zeroCells z.cells (grownCap w n 0 e - n)) e)) := by
  cases A with
  | none => exact run_append_nil w t ty e i z ht hi hz ad n c news hl hnews h0 h63 (by omega)
  | some b =>
    have := run_append_grow (P := P) w t ty e i z ht hi hz b 0 0 [] (by simp) (by simp) ad n c news hl hnews (by omega) (by simpa using h63) (by
      rw [Nat.zero_add, nextslicecap_zero h0]; omega)
    simpa using this

theorem below_drew_alloc (w : World) (x : Obj) : Below w.heap.size w (w.drew.alloc x) := ((Below.refl _ _).drew).alloc (Nat.le_refl _) x

theorem run_append_zero (t ty e : TypeId) (i : TypeInfo) (ht : P.underlying t = some (.slice e)) (hi : P.info? e = some i) (g n cap : Nat) (A2 : Option Addr) (c2 : Nat) (hc : n ≤ cap) :
    (Builtin.append_ #[t, t] ty #[.slice (some ⟨g, 0, none⟩) n cap, .slice A2 0 c2]).run P w = .ok (.slice (some ⟨g, 0, none⟩) n cap) w := by
  cases A2 <;> simp [Builtin.append_, run_underlying ht, sizeOf, typeInfo, hi, Builtin.lenOf, Builtin.firstCells, loadCells, loadCellsFrom, storeCells, hc]

/-- What is appended, as the model sees it: a slice's cells, or a string's bytes. -/
structure AppSrc (P : Program) (w : World) (t t' e : TypeId) (i : TypeInfo) (z : Value) (u : Value) (n : Nat) (xs : List Value) : Prop where
  zero0 : n = 0 → ∀ (A : Option Addr) (ty : TypeId), (Builtin.append_ #[t, t'] ty #[.slice A 0 0, u]).run P w = .ok (.slice A 0 0) w
  zero : n = 0 → ∀ (g m cap : Nat) (ty : TypeId), m ≤ cap → (Builtin.append_ #[t, t'] ty #[.slice (some ⟨g, 0, none⟩) m cap, u]).run P w = .ok (.slice (some ⟨g, 0, none⟩) m cap) w
  cap0 : 0 < n → ∀ (A : Option Addr) (ty : TypeId), (n : Int) ≤ 9223372036854775807 → n * i.bytes ≤ 150000000000000 → (Builtin.append_ #[t, t'] ty #[.slice A 0 0, u]).run P w =
      .ok (.slice (some ⟨w.heap.size, 0, none⟩) n (grownCap w n 0 e)) (w.drew.alloc (.cells (xs.toArray ++ Builtin.zeroCells z.cells (grownCap w n 0 e - n)) e))
  room : 0 < n → ∀ (g sLen sCap : Nat) (cur : Array Value) (mk : Bool) (ty : TypeId), Lies w g cur e mk → sLen + n ≤ sCap → sLen * i.size + xs.length ≤ cur.size → (Builtin.append_ #[t, t'] ty #[.slice (some ⟨g, 0, none⟩) sLen sCap, u]).run P w =
      .ok (.slice (some ⟨g, 0, none⟩) (sLen + n) sCap) (w.setRow g (cur.toList.take (sLen * i.size) ++ xs ++ cur.toList.drop (sLen * i.size + xs.length)).toArray)
  grow : 0 < n → ∀ (b : Addr) (sLen sCap : Nat) (olds : List Value) (ty : TypeId), olds.length = sLen * i.size → (∀ (j : Nat) (v : Value), olds[j]? = some v → w.cell? (b.add j) = some v) → sCap < sLen + n → ((sLen + n : Nat) : Int) ≤ 9223372036854775807 → Builtin.nextslicecap (sLen + n) sCap * i.bytes ≤ 281474976710656 →
      (Builtin.append_ #[t, t'] ty #[.slice (some b) sLen sCap, u]).run P w =
      .ok (.slice (some ⟨w.heap.size, 0, none⟩) (sLen + n) (grownCap w (sLen + n) sCap e)) (w.drew.alloc (.cells (olds.toArray ++ xs.toArray ++ Builtin.zeroCells z.cells (grownCap w (sLen + n) sCap e - (sLen + n))) e))

theorem bytesAV_length (b : List UInt8) : (bytesAV b).length = b.length := by unfold bytesAV; simp
theorem bytesAV_rel (w : World) (S : Nat → Prop) : ∀ b : List UInt8, VRels w S nob (flat (bytesAV b)) (Lib.strCells ⟨b.toArray⟩)
  | [] => VRels.nil
  | _ :: b => VRels.cons (.int _ _ _) (bytesAV_rel w S b)

theorem src_sound (hR : Rel w S B β og st a) {rowsV : List (Nat × Row)} (hsub : ∀ id x, lookup rowsV id = some x → lookup st.rows id = some x) {z : AV} {s : Sh} {es : List AV} {t t' e : TypeId} {i : TypeInfo} {zz : Value} (h : srcOf P t t' rowsV z = some (s, es)) {u : Value} (hv : VRel w S β z u)
    (ht : P.underlying t = some (.slice e)) (hi : P.info? e = some i) (hzz : i.zero = some zz) (hiw : i.size = s.width) (hmx : es.length ≤ maxLen) :
    ∃ xs : List Value, (∀ e ∈ es, hasSh s e = true) ∧ VRels w S nob (flat es) xs ∧ (∀ u ∈ xs, u.oneCell' = true) ∧ es.length ≤ maxLen ∧ xs.length = es.length * i.size ∧ AppSrc P w t t' e i zz u es.length xs := by
  unfold srcOf at h
  split at h
  · rename_i htt
    have htt' : t' = t := by simpa using htt
    subst htt'
    obtain ⟨A2, c2, ad, xs, rfl, hsh, hA2, hvs, h1, hcell, hlm⟩ := elems_sound hR hsub h hv
    have hlen : xs.length = es.length * i.size := by rw [hvs.1, flat_length es hsh, hiw]
    have hne : 0 < es.length → A2 = some ad := fun h0 => hA2 (fun e => by rw [e] at h0; exact Nat.lt_irrefl _ h0)
    refine ⟨xs, hsh, hvs, h1, hlm, hlen, ⟨fun h0 A ty => ?_, fun h0 g m cap ty hm => ?_, fun h0 A ty h63 h48 => ?_, fun h0 g sLen sCap cur mk ty hl hr hf => ?_, fun h0 b sLen sCap olds ty hlo ho hg h63 hfit => ?_⟩⟩
    · rw [h0]
      cases A <;> cases A2 <;> simp [Builtin.append_, run_underlying ht, sizeOf, typeInfo, hi, Builtin.lenOf, Builtin.firstCells, loadCells, loadCellsFrom, storeCells]
    · rw [h0]
      exact run_append_zero (P := P) (w := w) _ ty e i ht hi g m cap A2 c2 hm
    · rw [hne h0]
      exact run_append_cap0 (P := P) (w := w) _ ty e i zz ht hi hzz A ad es.length c2 xs hlen hcell h0 h63 h48
    · rw [hne h0]
      exact run_append_roomM (P := P) w _ ty e i ht hi g sLen sCap cur hl ad es.length c2 xs hlen hcell h1 hr hf
    · rw [hne h0]
      exact run_append_grow (P := P) w _ ty e i zz ht hi hzz b sLen sCap olds hlo ho ad es.length c2 xs hlen hcell hg h63 hfit
  · split at h
    · rename_i hu
      split at h
      · rename_i b
        simp only [Option.some.injEq, Prod.mk.injEq] at h
        obtain ⟨rfl, rfl⟩ := h
        rw [hv.str_inv]
        have hsz : (ByteArray.mk b.toArray).size = b.length := by simp [ByteArray.size]
        have hw1 : i.size = 1 := hiw
        have hl1 : (Lib.strCells ⟨b.toArray⟩).length = b.length := by rw [Lib.strCells_length, hsz]
        refine ⟨Lib.strCells ⟨b.toArray⟩, fun e he => ?_, bytesAV_rel w S b, Lib.strCells_oneCell _, hmx, by rw [hl1, hw1, bytesAV_length, Nat.mul_one], ?_⟩
        · obtain ⟨x, _, rfl⟩ := List.mem_map.1 he; rfl
        · rw [bytesAV_length]
          refine ⟨fun h0 A ty => ?_, fun h0 g m cap ty hm => ?_, fun h0 A ty h63 h48 => ?_, fun h0 g sLen sCap cur mk ty hl hr hf => ?_, fun h0 b2 sLen sCap olds ty hlo ho hg h63 hfit => ?_⟩
          · have hb : b = [] := List.eq_nil_of_length_eq_zero h0
            subst hb
            have hz0 : ByteArray.size { data := #[] } = 0 := rfl
            cases A <;> simp [Builtin.append_, run_underlying ht, run_underlying hu, sizeOf, typeInfo, hi, Builtin.lenOf, Builtin.firstCells, storeCells, hz0]
          · have hb : b = [] := List.eq_nil_of_length_eq_zero h0
            subst hb
            have hz0 : ByteArray.size { data := #[] } = 0 := rfl
            simp [Builtin.append_, run_underlying ht, run_underlying hu, sizeOf, typeInfo, hi, Builtin.lenOf, Builtin.firstCells, storeCells, hm, hz0]
          · have hb1 : Builtin.nextslicecap b.length 0 * i.bytes ≤ 281474976710656 := by rw [nextslicecap_zero h0]; omega
            cases A with
            | none =>
              have := run_append_nil_string (P := P) w t t' ty e i zz ht hu hi hzz ⟨b.toArray⟩ (by rw [hsz]; exact h0) (by rw [hsz]; exact h63) (by rw [hsz]; omega)
              rw [hsz] at this
              rw [this]
              have e1 : ((ByteArray.mk b.toArray).data.map fun b => Value.int .u8 b.toNat) = (Lib.strCells ⟨b.toArray⟩).toArray := by
                apply Array.ext'
                simp [Lib.strCells]
              rw [e1]
            | some b2 =>
              have := Lib.run_append_grow_string (P := P) w t t' ty e i zz ht hu hi hzz b2 0 0 [] (by simp) (by simp) ⟨b.toArray⟩ (by rw [hsz]; omega) (by rw [hsz]; simpa using h63) (by rw [hsz]; simpa using hb1)
              rw [hsz] at this
              simpa using this
          · obtain ⟨fz, hfz, hgl⟩ := hl
            have hf1 := Lib.run_firstCells_string (P := P) w 1 ⟨b.toArray⟩
            have hst := run_storeCells_atM P g sLen e fz (Lib.strCells ⟨b.toArray⟩) 0 cur w hgl (hfz.imp id And.right) (by rw [hw1] at hf; omega) (Lib.strCells_oneCell _)
            simp only [Nat.add_zero] at hst
            rw [hsz] at hf1
            rw [hw1, Nat.mul_one]
            simp [Builtin.append_, run_underlying ht, run_underlying hu, sizeOf, typeInfo, hi, hw1, Builtin.lenOf, hsz, hr, hf1, Addr.add_lit, hst]
          · have := Lib.run_append_grow_string (P := P) w t t' ty e i zz ht hu hi hzz b2 sLen sCap olds hlo ho ⟨b.toArray⟩ (by rw [hsz]; exact hg) (by rw [hsz]; exact h63) (by rw [hsz]; exact hfit)
            rw [hsz] at this
            exact this
      · cases h
    · cases h

/-- append onto a slice without room. -/
theorem op_append_new (hR : Rel w S B β og st a) (hO : Out w0 S0 B w S) {rowsV : List (Nat × Row)} (hsub : ∀ id x, lookup rowsV id = some x → lookup st.rows id = some x) (hf : Fresh site st.used) {args : Array Operand} {ts : Array TypeId} {t t' e : TypeId} {s : Sh} {z : AV} {es2 : List AV}
    (ho : o.op = .call { callee := .builtin .append, args := args, argTypes := ts }) (hts : ts.toList = [t, t']) (hx : valsT P st.tm ts.toList args.toList = [.slz s, z]) (ht : P.underlying t = some (.slice e)) (hz : srcOf P t t' rowsV z = some (s, es2))
    (hse : s = shOf P depth e) (hel : elemOK P e = true) (hroom : roomB es2.length (P.bytesOf e) = true)
    (hy : y { v := .own site, new := some (.arr false s e es2 none) } = some r) (hK : Good w0 S0 B site o st y r K) : o.wpR R P a w K Q := by
  have hv := valsT_rel hR.tm P ts.toList args.toList
  rw [hx] at hv
  obtain ⟨u, us, he, hu, hs1⟩ := hv.inv
  obtain ⟨u2, us2, rfl, hu2, hn⟩ := hs1.inv
  rw [hn.inv_nil] at he
  have hm := map_eval args _ he
  have htt : ts = #[t, t'] := by apply Array.ext'; simpa using hts
  obtain ⟨i, zz, hi, hzz, hiw, hpos, hzs, hby, zc, hza, hhz⟩ := elemOK_spec hel
  obtain ⟨hb1, hb2⟩ := roomB_spec hroom
  obtain ⟨xs, hsh, hvs, h1, hlm, hlen, hsrc⟩ := src_sound hR hsub hz hu2 ht hi hzz (hiw.trans (by rw [hse])) (by simp only [maxLen]; omega)
  cases hu with
  | slz _ _ A =>
    rcases es2 with _ | ⟨e0, es2'⟩
    · have hrun := hsrc.zero0 rfl A o.type
      refine wp_value (u := .slice A 0 0) (w' := w) (by have hrun' := hrun; simp only [execOp, ho, resolve, invoke, builtin, hm, htt, Sem.run_bind, Sem.run_pure, Result.andThen_ok, hrun']) (hK _ _ _ hy ⟨S, _, _, hR.new site hf o.dst (Below.refl _ _) (fun _ h => h) (fun _ _ h => h) hR.Slt
        (x := .slice A 0 0) (wd := s.width) (o := none) rfl (fun g hg => by cases hg) ⟨by rw [hse, ← hiw]; exact hpos, .slice A 0 0, [], [], by simp, (fun c h => by cases h), upd_same _ _ _, by simp, VRels.nil, .inl ⟨rfl, rfl, rfl, A, rfl⟩⟩ (.own _ site _ _ (upd_same _ _ _)), hO⟩)
    · have hrun := hsrc.cap0 (by simp) A o.type (by omega) (by rw [hby]; exact hb1)
      have hb := below_drew_alloc w (.cells (xs.toArray ++ Builtin.zeroCells zz.cells (grownCap w (e0 :: es2').length 0 e - (e0 :: es2').length)) e)
      refine wp_value (u := .slice (some ⟨w.heap.size, 0, none⟩) (e0 :: es2').length (grownCap w (e0 :: es2').length 0 e)) (by simp only [execOp, ho, resolve, invoke, builtin, hm, htt, Sem.run_bind, Sem.run_pure, Result.andThen_ok, hrun]) (hK _ _ _ hy ⟨S, _, _, hR.new site hf o.dst hb (fun _ h => h) (fun _ _ h => h)
        (fun b hs => by have := hR.Slt b hs; simp; omega) (x := .slice (some ⟨w.heap.size, 0, none⟩) (e0 :: es2').length (grownCap w (e0 :: es2').length 0 e)) (wd := s.width) (o := some w.heap.size) rfl (fun g hg => by cases hg; simp) ?_ (.own _ site _ _ (upd_same _ _ _)), hO.grow hR.Ble hb⟩)
      exact rowrel_new (w := w) hR.Slt hR.Ble hi hzz hzs hpos hiw hza hhz hse hsh hvs h1 (grownCap_ge _ _ _ _) (grownCap_le_maxLen _ _ _ _ hlm) (w1 := w.drew) rfl (upd_same _ _ _)

/-- A row is used up: its block, or a new one, is another row's from now on. -/
theorem Rel.moved (h : Rel w S B β og st a) {id : Nat} (hf : Fresh site st.used) (dst : Option Tmp) {w' : World} {r1 : Row} {v : AV} {u x : Value} {wd : Nat} {o' : Option Nat}
    (hg : w.grownBy w' (og id)) (hnS : ∀ g, og id = some g → ¬ S g) (hx : x.oneCell' = true) (ho : ∀ g, o' = some g → (og id = some g ∨ w.heap.size ≤ g) ∧ g < w'.heap.size)
    (hrow : RowRel w' S B (upd β site (some (x, wd))) site o' r1) (hv : VRel w' S (upd β site (some (x, wd))) v u) :
    Rel w' S B (upd β site (some (x, wd))) (upd (upd og id none) site o') ⟨putTm st.tm dst v, setRow (delRow st.rows id) site r1, site :: st.used⟩ (a.put dst u) := by
  have hβ : ∀ id y, β id = some y → upd β site (some (x, wd)) id = some y := fun id y hy => by
    have hne : id ≠ site := fun e => hf.1 (by rw [← e]; exact h.used id y hy)
    rw [upd_other _ _ _ _ hne]; exact hy
  have hw : ∀ b, S b → w'.heap[b]? = w.heap[b]? := fun b hs => hg.block b (h.Slt b hs) (fun e => hnS b e.symm hs)
  refine ⟨tm_put (h.tm.mono (fun _ h => h) hw hβ) dst hv, by rw [Act.put_defers]; exact h.df, fun i y hy => ?_, fun i i' g hgi hgi' => ?_, fun i g hgi => ?_, fun i y hy => ?_, fun i y hy => ?_, fun b hs => Nat.lt_of_lt_of_le (h.Slt b hs) hg.size, fun b hb => Nat.lt_of_lt_of_le (h.Ble b hb) hg.size, pid_upd h.pid hf.2⟩
  · rw [lookup_setRow] at hy
    by_cases e : i = site
    · subst e
      simp only [if_pos] at hy
      cases hy
      rw [upd_same]
      exact hrow
    · rw [if_neg e, lookup_delRow] at hy
      by_cases e' : i = id
      · rw [if_pos e'] at hy; cases hy
      · rw [if_neg e'] at hy
        rw [upd_other _ _ _ _ e, upd_other _ _ _ _ e']
        refine (h.row i y hy).keep hβ (fun _ h => h) (fun _ _ h => h) hw (fun g hgi => hg.block g (h.lt i g hgi) (fun e2 => e' (h.inj i id g hgi e2.symm)))
  · have aux : ∀ i, i ≠ site → upd (upd og id none) site o' i = some g → og i = some g ∧ i ≠ id := fun i hi hgi => by
      rw [upd_other _ _ _ _ hi] at hgi
      by_cases e' : i = id
      · rw [e', upd_same] at hgi; cases hgi
      · rw [upd_other _ _ _ _ e'] at hgi; exact ⟨hgi, e'⟩
    have fin : ∀ i, i ≠ site → upd (upd og id none) site o' i = some g → o' = some g → False := fun i hi hgi ho' => by
      obtain ⟨h1, h2⟩ := aux i hi hgi
      rcases (ho g ho').1 with h3 | h3
      · exact h2 (h.inj i id g h1 h3)
      · have := h.lt i g h1; omega
    by_cases e : i = site <;> by_cases e' : i' = site
    · rw [e, e']
    · subst e; rw [upd_same] at hgi; exact (fin i' e' hgi' hgi).elim
    · subst e'; rw [upd_same] at hgi'; exact (fin i e hgi hgi').elim
    · exact h.inj i i' g (aux i e hgi).1 (aux i' e' hgi').1
  · by_cases e : i = site
    · subst e; rw [upd_same] at hgi; exact (ho g hgi).2
    · rw [upd_other _ _ _ _ e] at hgi
      by_cases e' : i = id
      · rw [e', upd_same] at hgi; cases hgi
      · rw [upd_other _ _ _ _ e'] at hgi; exact Nat.lt_of_lt_of_le (h.lt i g hgi) hg.size
  · by_cases e : i = site
    · subst e; simp
    · rw [upd_other _ _ _ _ e] at hy; exact List.mem_cons_of_mem _ (h.used i y hy)
  · by_cases e : i = site
    · subst e; rw [upd_same] at hy; cases hy; exact hx
    · rw [upd_other _ _ _ _ e] at hy; exact h.one i y hy

end ops
end Go.Ev

/-
  The operations, fifth part: append onto a slice of the call's own; stores.
-/
namespace Go.Ev
open Go.RowKit

section ops
variable {R : Option Nat} {ρ : Type} {P : Program} {w0 w : World} {S0 S : Nat → Prop} {B : Ctx} {β : Bet} {og : Nat → Option Nat} {st : St} {a : Act} {o : Oper} {site : Nat} {y : Eff → Option ρ} {r : ρ}
  {K : Act → World → Prop} {Q : Exit → Act → World → Prop}

theorem Out.grownBy (hO : Out w0 S0 B w S) {w' : World} {row : Option Nat} (hB : ∀ b, B b → b < w.heap.size) (hg : w.grownBy w' row) (hr : ∀ k, row = some k → ¬ B k) : Out w0 S0 B w' S :=
  ⟨hO.bel.trans (Kept.of_grown hg hB hr), hO.sin, hO.sub⟩

theorem grownBy_setRow (w : World) (g : Nat) (cs : Array Value) : w.grownBy (w.setRow g cs) (some g) :=
  ⟨rfl, rfl, rfl, by simp [World.setRow], fun k _ hk => setRow_other w g k cs (fun e => hk (by rw [e]))⟩

theorem op_append_own (hR : Rel w S B β og st a) (hO : Out w0 S0 B w S) {rowsV : List (Nat × Row)} (hsub : ∀ id x, lookup rowsV id = some x → lookup st.rows id = some x) (hf : Fresh site st.used) {args : Array Operand} {ts : Array TypeId} {t t' e : TypeId} {s : Sh} {z : AV} {es es2 : List AV} {id : Nat}
    (ho : o.op = .call { callee := .builtin .append, args := args, argTypes := ts }) (hts : ts.toList = [t, t']) (hx : valsT P st.tm ts.toList args.toList = [.own id, z]) (ht : P.underlying t = some (.slice e)) (hz : srcOf P t t' rowsV z = some (s, es2))
    {csp : Option (List AV)} (hl : lookup rowsV id = some (.arr false s e es csp)) (hse : s = shOf P depth e) (hel : elemOK P e = true) (hroom : roomB (es.length + es2.length) (P.bytesOf e) = true)
    (hy : y { v := .own site, new := some (.arr false s e (es ++ es2) none), del := some id } = some r) (hK : Good w0 S0 B site o st y r K) : o.wpR R P a w K Q := by
  have hv := valsT_rel hR.tm P ts.toList args.toList
  rw [hx] at hv
  obtain ⟨u, us, he, hu, hs1⟩ := hv.inv
  obtain ⟨u2, us2, rfl, hu2, hn⟩ := hs1.inv
  rw [hn.inv_nil] at he
  have hm := map_eval args _ he
  have htt : ts = #[t, t'] := by apply Array.ext'; simpa using hts
  obtain ⟨i, zz, hi, hzz, hiw, hpos, hzs, hby, zc, hza, hhz⟩ := elemOK_spec hel
  obtain ⟨hb1, hb2⟩ := roomB_spec hroom
  obtain ⟨xs2, hsh2, hvs2, h12, hlm, hlen2, hsrc⟩ := src_sound hR hsub hz hu2 ht hi hzz (hiw.trans (by rw [hse])) (by simp only [maxLen]; omega)
  obtain ⟨hp, v, sp, xs, hshS, hcs, hbt, h1, hvs, hor⟩ := hR.row id _ (hsub _ _ hl)
  have hsh : ∀ x ∈ es, hasSh s x = true := fun x hx => hshS x (List.mem_append_left _ hx)
  have hlen : xs.length = (es.length + sp.length) * i.size := by rw [hvs.1, flat_length _ hshS, hiw, hse, List.length_append]
  have hshA : ∀ x ∈ es ++ es2, hasSh s x = true := fun x hx => by
    rcases List.mem_append.1 hx with h | h
    · exact hsh x h
    · exact hsh2 x h
  have hxl : (xs.take (es.length * i.size)).length = es.length * i.size := by rw [List.length_take, hlen, Nat.add_mul]; omega
  have hvsE : VRels w S nob (flat es) (xs.take (es.length * i.size)) := by
    have := hvs.take (es.length * i.size)
    rw [flat_append, List.take_append_of_le_length (by rw [flat_length es hsh, hiw, hse]; exact Nat.le_refl _), List.take_of_length_le (by rw [flat_length es hsh, hiw, hse]; exact Nat.le_refl _)] at this
    exact this
  have h1A : ∀ u ∈ xs.take (es.length * i.size) ++ xs2, u.oneCell' = true := fun x hx => by
    rcases List.mem_append.1 hx with h | h
    · exact h1 x (List.mem_of_mem_take h)
    · exact h12 x h
  have hvsA : VRels w S nob (flat (es ++ es2)) (xs.take (es.length * i.size) ++ xs2) := by rw [flat_append]; exact hvsE.append hvs2
  cases hu with
  | own _ _ v' wd hb' =>
    rw [hbt] at hb'
    simp only [Option.some.injEq, Prod.mk.injEq] at hb'
    obtain ⟨rfl, rfl⟩ := hb'
    have hexec : ∀ (x : Value) (w' : World), (Builtin.append_ #[t, t'] o.type #[v, u2]).run P w = .ok x w' → (execOp a.eval o).run P w = .ok (.value x) w' := fun x w' hrun => by
      simp only [execOp, ho, resolve, invoke, builtin, hm, htt, Sem.run_bind, Sem.run_pure, Result.andThen_ok, hrun]
    rcases hor with ⟨he0, hsp0, hogn, A, rfl⟩ | ⟨g, hog, rfl, hBg, hh, hmx, hi1, _⟩
    · subst he0
      subst hsp0
      rcases es2 with _ | ⟨e0, es2'⟩
      · have hrun := hsrc.zero0 rfl A o.type
        refine wp_value (hexec _ _ hrun) (hK _ _ _ hy ⟨S, _, _, hR.moved (id := id) hf o.dst (World.grownBy.refl w _) (fun g hg => by rw [hogn] at hg; cases hg) (x := .slice A 0 0) (wd := s.width) (o' := none) rfl (fun g hg => by cases hg)
          ⟨hp, .slice A 0 0, [], [], by simp, (fun c h => by cases h), upd_same _ _ _, by simp, VRels.nil, .inl ⟨rfl, rfl, rfl, A, rfl⟩⟩ (.own _ site _ _ (upd_same _ _ _)), hO⟩)
      · have hrun := hsrc.cap0 (by simp) A o.type (by simp at hb2 ⊢; omega) (by rw [hby]; simpa using hb1)
        have hb := below_drew_alloc w (.cells (xs2.toArray ++ Builtin.zeroCells zz.cells (grownCap w (e0 :: es2').length 0 e - (e0 :: es2').length)) e)
        have hg : w.grownBy _ (og id) := ⟨hb.os, hb.tape, hb.output, hb.size, fun k hk _ => hb.block k hk⟩
        refine wp_value (hexec _ _ hrun) (hK _ _ _ hy ⟨S, _, _, hR.moved (id := id) hf o.dst hg (fun g hg => by rw [hogn] at hg; cases hg) (x := .slice (some ⟨w.heap.size, 0, none⟩) (e0 :: es2').length (grownCap w (e0 :: es2').length 0 e)) (wd := s.width) (o' := some w.heap.size) rfl (fun g hg => by cases hg; simp) ?_ (.own _ site _ _ (upd_same _ _ _)),
          hO.grow hR.Ble hb⟩)
        exact rowrel_new (w := w) hR.Slt hR.Ble hi hzz hzs hpos hiw hza hhz hse hsh2 hvs2 h12 (grownCap_ge _ _ _ _) (grownCap_le_maxLen _ _ _ _ hlm) (w1 := w.drew) rfl (upd_same _ _ _)
    · have hnS : ∀ g', og id = some g' → ¬ S g' := fun g' hg' => by rw [hog] at hg'; cases hg'; exact hi1 rfl
      have hes2n : es2.length = 0 → es2 = [] := List.eq_nil_of_length_eq_zero
      by_cases h0 : es2 = []
      · subst h0
        have hrun := hsrc.zero rfl g es.length (es.length + sp.length) o.type (by omega)
        refine wp_value (hexec _ _ hrun) (hK _ _ _ hy ⟨S, _, _, hR.moved (id := id) hf o.dst (World.grownBy.refl w _) hnS (x := .slice (some ⟨g, 0, none⟩) es.length (es.length + sp.length)) (wd := s.width) (o' := some g) rfl
          (fun x hx => by cases hx; exact ⟨.inl hog, hR.lt id g hog⟩) ?_ (.own _ site _ _ (upd_same _ _ _)), hO⟩)
        rw [List.append_nil]
        exact ⟨hp, _, sp, xs, hshS, (fun c h => by cases h), upd_same _ _ _, h1, hvs, .inr ⟨g, rfl, rfl, hBg, hh, hmx, hi1, (fun h => by cases h)⟩⟩
      · have hpos2 : 0 < es2.length := Nat.pos_of_ne_zero (fun e => h0 (hes2n e))
        by_cases hroom2 : es.length + es2.length ≤ es.length + sp.length
        · have hfit : es.length * i.size + xs2.length ≤ xs.toArray.size := by rw [hlen2, List.size_toArray, hlen, ← Nat.add_mul]; exact Nat.mul_le_mul_right _ hroom2
          have hrun := hsrc.room hpos2 g es.length (es.length + sp.length) xs.toArray _ o.type hh hroom2 hfit
          have hgr := grownBy_setRow w g (xs.toArray.toList.take (es.length * i.size) ++ xs2 ++ xs.toArray.toList.drop (es.length * i.size + xs2.length)).toArray
          have hw : ∀ b, S b → (w.setRow g (xs.toArray.toList.take (es.length * i.size) ++ xs2 ++ xs.toArray.toList.drop (es.length * i.size + xs2.length)).toArray).heap[b]? = w.heap[b]? := fun b hs => hgr.block b (hR.Slt b hs) (fun e => by cases e; exact hi1 rfl hs)
          refine wp_value (hexec _ _ hrun) (hK _ _ _ hy ⟨S, _, _, hR.moved (id := id) hf o.dst (by rw [hog]; exact hgr) hnS (x := .slice (some ⟨g, 0, none⟩) (es.length + es2.length) (es.length + sp.length)) (wd := s.width) (o' := some g) rfl
            (fun x hx => by cases hx; exact ⟨.inl hog, by simpa [World.setRow] using hR.lt id g hog⟩) ?_ (.own _ site _ _ (upd_same _ _ _)), hO.grownBy hR.Ble hgr (fun k hk => by cases hk; exact hBg)⟩)
          have hsp2 : ∀ x ∈ (es ++ es2) ++ sp.drop es2.length, hasSh s x = true := fun x hx => by
            rcases List.mem_append.1 hx with h | h
            · exact hshA x h
            · exact hshS x (List.mem_append_right _ (List.mem_of_mem_drop h))
          have hdrop : flat (sp.drop es2.length) = (flat (es ++ sp)).drop (es.length * i.size + xs2.length) := by
            have hle : (flat es).length ≤ es.length * i.size + xs2.length := by rw [flat_length es hsh, hiw, hse]; omega
            rw [flat_drop sp _ (fun x hx => hshS x (List.mem_append_right _ hx)), flat_append, List.drop_append, List.drop_of_length_le hle, List.nil_append]
            congr 1
            rw [flat_length es hsh, hlen2, hiw, hse]
            omega
          refine ⟨hp, _, sp.drop es2.length, _, hsp2, (fun c h => by cases h), upd_same _ _ _, ?_, ?_, .inr ⟨g, rfl, ?_, hBg, hh.setRow (by simp only [List.size_toArray, List.length_append, List.length_take, List.length_drop]; simp only [List.size_toArray] at hfit; omega), ?_, hi1, (fun h => by cases h)⟩⟩
          · intro u hu
            simp only [List.mem_append] at hu
            rcases hu with (hu | hu) | hu
            · exact h1 u (by simpa using List.mem_of_mem_take hu)
            · exact h12 u hu
            · exact h1 u (by simpa using List.mem_of_mem_drop hu)
          · refine VRels.mono (w := w) (S := S) (β := nob) ?_ (fun _ h => h) hw (fun _ _ h => h)
            rw [flat_append, hdrop]
            exact hvsA.append (hvs.drop _)
          · simp only [List.length_append, List.length_drop]; congr 1; omega
          · simp only [List.length_append, List.length_drop]; omega
        · have holds : ∀ (j : Nat) (u : Value), (xs.take (es.length * i.size))[j]? = some u → w.cell? ((⟨g, 0, none⟩ : Addr).add j) = some u := by
            intro j u hu
            rw [add_lit, row_cell hh]
            rw [List.getElem?_take] at hu
            split at hu
            · simpa using hu
            · cases hu
          have hmx' : es.length + es2.length ≤ maxLen := by simp only [maxLen]; omega
          have hrun := hsrc.grow hpos2 ⟨g, 0, none⟩ es.length (es.length + sp.length) _ o.type hxl holds (by omega) (by omega) (by rw [hby]; exact roomB_fits hroom (by omega))
          rw [show (xs.take (es.length * i.size)).toArray ++ xs2.toArray = (xs.take (es.length * i.size) ++ xs2).toArray by simp] at hrun
          have hb := below_drew_alloc w (.cells ((xs.take (es.length * i.size) ++ xs2).toArray ++ Builtin.zeroCells zz.cells (grownCap w (es.length + es2.length) (es.length + sp.length) e - (es.length + es2.length))) e)
          have hg : w.grownBy _ (og id) := ⟨hb.os, hb.tape, hb.output, hb.size, fun k hk _ => hb.block k hk⟩
          refine wp_value (hexec _ _ hrun) (hK _ _ _ hy ⟨S, _, _, hR.moved (id := id) hf o.dst hg hnS (x := .slice (some ⟨w.heap.size, 0, none⟩) (es.length + es2.length) (grownCap w (es.length + es2.length) (es.length + sp.length) e)) (wd := s.width) (o' := some w.heap.size) rfl (fun g hg => by cases hg; simp) ?_ (.own _ site _ _ (upd_same _ _ _)),
            hO.grow hR.Ble hb⟩)
          rw [← List.length_append]
          exact rowrel_new (w := w) hR.Slt hR.Ble hi hzz hzs hpos hiw hza hhz hse hshA hvsA h1A (grownCap_ge _ _ _ _) (grownCap_le_maxLen _ _ _ _ (by rw [List.length_append]; exact hmx')) (w1 := w.drew) rfl (upd_same _ _ _)

/-! ### Stores -/
theorem Rel.congr (h : Rel w S B β og st a) {rows' : List (Nat × Row)} (he : ∀ i, lookup rows' i = lookup st.rows i) : Rel w S B β og ⟨st.tm, rows', st.used⟩ a :=
  ⟨h.tm, h.df, fun id r hr => h.row id r ((he id).symm.trans hr), h.inj, h.lt, h.used, h.one, h.Slt, h.Ble, h.pid⟩

/-- A row is written: its block alone has changed. -/
theorem Rel.modify (h : Rel w S B β og st a) {id : Nat} {w' : World} {r1 : Row} (hg : w.grownBy w' (og id)) (hsz : w'.heap.size = w.heap.size) (hnS : ∀ g, og id = some g → ¬ S g) (hrow : RowRel w' S B β id (og id) r1) :
    Rel w' S B β og ⟨st.tm, setRow st.rows id r1, st.used⟩ a := by
  have hw : ∀ b, S b → w'.heap[b]? = w.heap[b]? := fun b hs => hg.block b (h.Slt b hs) (fun e => hnS b e.symm hs)
  refine ⟨h.tm.mono (fun _ h => h) hw (fun _ _ h => h), h.df, fun i y hy => ?_, h.inj, fun i g hgi => by rw [hsz]; exact h.lt i g hgi, h.used, h.one, fun b hs => by rw [hsz]; exact h.Slt b hs, fun b hs => by rw [hsz]; exact h.Ble b hs, h.pid⟩
  rw [lookup_setRow] at hy
  by_cases e : i = id
  · subst e
    simp only [if_pos] at hy
    cases hy
    exact hrow
  · rw [if_neg e] at hy
    exact (h.row i y hy).keep (fun _ _ h => h) (fun _ h => h) (fun _ _ h => h) hw (fun g hgi => hg.block g (h.lt i g hgi) (fun e2 => e (h.inj i id g hgi e2.symm)))

theorem VRels.splice {cs ds : List AV} {vs us : List Value} (h : VRels w S β cs vs) (h' : VRels w S β ds us) (off : Nat) : VRels w S β (splice cs off ds) (vs.take off ++ us ++ vs.drop (off + us.length)) := by
  unfold Go.Ev.splice
  rw [h'.1]
  exact ((h.take off).append h').append (h.drop _)

theorem op_store_ptr (hR : Rel w S B β og st a) (hO : Out w0 S0 B w S) {t : TypeId} {x z : Operand} {id off : Nat} {cs : List AV} (ho : o.op = .store t x z) (hlaid : (valT P st.tm t z).laidB = true) (hn : (valT P st.tm t z).cells.length = P.cellsOf t) (hn0 : P.cellsOf t ≠ 0)
    (hx : val st.tm x = .ptr id off) (hl : lookup st.rows id = some (.box false cs)) (hle : off + (valT P st.tm t z).cells.length ≤ cs.length)
    (hy : y { v := .undef, mod := some (id, .box false (splice cs off (valT P st.tm t z).cells)) } = some r) (hK : Good w0 S0 B site o st y r K) : o.wpR R P a w K Q := by
  obtain ⟨us, huc, hus, hu1⟩ := (valT_rel hR.tm P t z).laid hlaid hR.one
  have hp := val_rel hR.tm x
  rw [hx] at hp
  obtain ⟨g, vs, v0, hog, hbt, hH, hvs, him, _, hBg⟩ := hR.row id _ hl
  obtain ⟨i, hi, hisz⟩ := cellsOf_info hn0
  generalize he : a.eval x = u at hp
  cases hp with
  | ptr _ _ _ g' wd hb' =>
    rw [hbt] at hb'
    simp only [Option.some.injEq, Prod.mk.injEq] at hb'
    obtain ⟨e0, hb2⟩ := hb'
    obtain ⟨hgg, ⟨tt, hh⟩, h1⟩ := hH.ptr e0
    subst hgg
    subst e0
    have hul : us.length = P.cellsOf t := by rw [hus.1]; exact hn
    have hst := run_storeCells_at P g off tt us 0 vs.toArray w hh (by simp; rw [hvs.1, hus.1]; exact hle) hu1
    simp only [Nat.add_zero] at hst
    have hnS : ∀ g', og id = some g' → ¬ S g' := fun g' hg' => by rw [hog] at hg'; cases hg'; exact him rfl
    have hgr := grownBy_setRow w g (vs.take off ++ us ++ vs.drop (off + us.length)).toArray
    have hw : ∀ b, S b → (w.setRow g (vs.take off ++ us ++ vs.drop (off + us.length)).toArray).heap[b]? = w.heap[b]? := fun b hs => hgr.block b (hR.Slt b hs) (fun e => by cases e; exact him rfl hs)
    have hrow : RowRel (w.setRow g (vs.take off ++ us ++ vs.drop (off + us.length)).toArray) S B β id (og id) (.box false (splice cs off (valT P st.tm t z).cells)) := by
      refine ⟨g, _, _, hog, hbt, .inl ⟨⟨tt, setRow_heap w g _ _ tt _ hh⟩, rfl, ?_⟩, (hvs.splice hus off).mono (fun _ h => h) hw (fun _ _ h => h), fun _ => him rfl, (fun h => by cases h), hBg⟩
      intro u hu
      simp only [List.mem_append] at hu
      rcases hu with (hu | hu) | hu
      · exact h1 u (List.mem_of_mem_take hu)
      · exact hu1 u hu
      · exact h1 u (List.mem_of_mem_drop hu)
    refine wp_skip' (w' := w.setRow g (vs.take off ++ us ++ vs.drop (off + us.length)).toArray) ?_ (hK _ _ _ hy ⟨S, β, og, (hR.modify (id := id) (by rw [hog]; exact hgr) (by simp [World.setRow]) hnS hrow).put o.dst (.undef _), hO.grownBy hR.Ble hgr (fun k hk => by cases hk; exact hBg)⟩)
    have hsz : (a.eval z).cells.size = i.size := by rw [huc, hisz, ← hul]; simp
    simp only [execOp, ho, he, Instr.storeAt, Instr.sureAddr, pure_bind, storeVar, sizeOf, typeInfo, Sem.run_bind, run_program, Result.andThen_ok, hi, Sem.run_pure, hsz]
    simp [huc, hst]

theorem tup2_inv {c d : AV} {u v : Value} (h : VRel w S β (.tup [c, d]) (.tuple #[u, v])) : VRel w S β c u ∧ VRel w S β d v := by
  generalize hq : (Value.tuple #[u, v]) = q at h
  cases h with
  | tup _ _ us hl hh =>
    have hus : us = [u, v] := by
      have := congrArg (fun z => match z with | Value.tuple b => b.toList | _ => []) hq
      simpa using this.symm
    subst hus
    exact ⟨hh 0 _ _ rfl rfl, hh 1 _ _ rfl rfl⟩
/-- A loop over a text's runes: the next one. -/
theorem op_next (hR : Rel w S B β og st a) (hO : Out w0 S0 B w S) {x : Operand} {id : Nat} {s : List UInt8} {p : Int} (ho : o.op = .next x true) (hx : val st.tm x = .eptr id 0 0) (hl : lookup st.rows id = some (.box false [.tup [.str s, .int .i64 p]]))
    (h : (bif decide (p < (s.length : Int)) then y { v := .tup [.bool true, .int .i64 p, .int .i32 (decA s p.toNat).1], mod := some (id, .box false [.tup [.str s, .int .i64 (p + (decA s p.toNat).2)]]) } else y { v := .tup [.bool false] }) = some r) (hK : Good w0 S0 B site o st y r K) : o.wpR R P a w K Q := by
  have hp := val_rel hR.tm x
  rw [hx] at hp
  obtain ⟨g, vs, v0, hog, hbt, hH, hvs, him, _, hBg⟩ := hR.row id _ hl
  generalize he : a.eval x = u at hp
  cases hp with
  | eptr _ _ _ _ g' n c wd hb' =>
    rw [hbt] at hb'
    simp only [Option.some.injEq, Prod.mk.injEq] at hb'
    obtain ⟨e0, e1⟩ := hb'
    subst e1
    rcases hH with ⟨_, h1, _⟩ | ⟨_, _, _, _, _, _, _, _, _, h1⟩ | ⟨sb, pos, hh, hv, h1⟩
    · rw [h1] at e0; cases e0
    · rw [h1] at e0; cases e0
    · rw [h1] at e0
      cases e0
      obtain ⟨hps, hsb⟩ : p = (pos : Int) ∧ sb = ⟨s.toArray⟩ := by
        rw [hv] at hvs
        have h0 := hvs.2 0 _ _ rfl rfl
        obtain ⟨c0, c1⟩ := tup2_inv h0
        cases c0
        cases c1
        exact ⟨rfl, rfl⟩
      subst hps hsb
      have hsz : (ByteArray.mk s.toArray).size = s.length := by simp [ByteArray.size]
      simp only [Int.toNat_natCast] at h
      by_cases hlt : pos < s.length
      · rw [decide_eq_true (by omega), cond_true] at h
        have hrun := Go.Lib.run_next_any_at (P := P) w g ⟨s.toArray⟩ pos o.type hh (by rw [hsz]; exact hlt)
        have hgr : w.grownBy (w.iterAt g ⟨s.toArray⟩ (pos + (Utf8.decode ⟨s.toArray⟩ pos).2)) (some g) :=
          ⟨rfl, rfl, rfl, by simp [World.iterAt], fun k _ hk => Go.Lib.iterAt_other w g k _ _ (fun e => hk (by rw [e]))⟩
        have hw : ∀ b, S b → (w.iterAt g ⟨s.toArray⟩ (pos + (Utf8.decode ⟨s.toArray⟩ pos).2)).heap[b]? = w.heap[b]? := fun b hs => hgr.block b (hR.Slt b hs) (fun e => by cases e; exact him rfl hs)
        have hnS : ∀ g', og id = some g' → ¬ S g' := fun g' hg' => by rw [hog] at hg'; cases hg'; exact him rfl
        have hrow : RowRel (w.iterAt g ⟨s.toArray⟩ (pos + (Utf8.decode ⟨s.toArray⟩ pos).2)) S B β id (og id) (.box false [.tup [.str s, .int .i64 ((pos : Int) + ((decA s pos).2 : Nat))]]) := by
          refine ⟨g, [.tuple #[.string ⟨s.toArray⟩, .int .i64 ((pos + (decA s pos).2 : Nat) : Int)]], _, hog, hbt, .inr (.inr ⟨_, _, Go.Lib.iterAt_heap w g _ pos _ hh, rfl, h1⟩), ?_, fun _ => him rfl, (fun h => by cases h), hBg⟩
          have := iter_rel (w := w.iterAt g ⟨s.toArray⟩ (pos + (Utf8.decode ⟨s.toArray⟩ pos).2)) (S := S) (β := β) s (pos + (decA s pos).2)
          rw [show ((pos : Int) + ((decA s pos).2 : Nat)) = ((pos + (decA s pos).2 : Nat) : Int) by omega]
          exact this
        refine wp_value (u := .tuple #[.bool true, .int .i64 pos, .int .i32 (Utf8.decode ⟨s.toArray⟩ pos).1]) ?_ (hK _ _ _ h ⟨S, β, og, (hR.modify (id := id) (by rw [hog]; exact hgr) (by simp [World.iterAt]) hnS hrow).put o.dst ?_, hO.grownBy hR.Ble hgr (fun k hk => by cases hk; exact hBg)⟩)
        · simp [execOp, ho, he, hrun]
        · refine .tup _ [.bool true, .int .i64 (pos : Int), .int .i32 ((decA s pos).1 : Nat)] [.bool true, .int .i64 pos, .int .i32 (Utf8.decode ⟨s.toArray⟩ pos).1] rfl fun j c u hc hu => ?_
          match j with
          | 0 => simp at hc hu; subst hc hu; exact .bool _ _
          | 1 => simp at hc hu; subst hc hu; exact .int _ _ _
          | 2 => simp at hc hu; subst hc hu; exact .int _ _ _
          | j + 3 => simp at hc
      · rw [decide_eq_false (by omega), cond_false] at h
        have hrun := Go.Lib.run_next_end_at (P := P) w g ⟨s.toArray⟩ pos o.type hh (by rw [hsz]; exact hlt)
        refine op_slot (u := .tuple #[.bool false]) hR hO (.tup _ [.bool false] [.bool false] rfl fun j c u hc hu => ?_) h hK ?_
        · match j with
          | 0 => simp at hc hu; subst hc hu; exact .bool _ _
          | j + 1 => simp at hc
        · simp [execOp, ho, he, hrun]

end ops
end Go.Ev

/-
  The operations, sixth part: stores into elements, literals, calls.
-/
namespace Go.Ev
open Go.RowKit

section ops
variable {R : Option Nat} {ρ : Type} {P : Program} {w0 w : World} {S0 S : Nat → Prop} {B : Ctx} {β : Bet} {og : Nat → Option Nat} {st : St} {a : Act} {o : Oper} {site : Nat} {y : Eff → Option ρ} {r : ρ}
  {K : Act → World → Prop} {Q : Exit → Act → World → Prop}

theorem mkAV_cells {s : Sh} {cs : List AV} (h : hasSh s (mkAV s cs) = true) (hl : cs.length = s.width) : (mkAV s cs).cells = cs := by
  cases s with
  | agg l => rfl
  | other => cases cs <;> simp [hasSh, has1] at h
  | int k => 
    have h1 : has1 (.int k) (mkAV (.int k) cs) = true := h
    obtain ⟨e1, _⟩ := has1_cells _ _ h1
    rw [e1]
    match cs, hl with
    | [c], _ => rfl
  | bool =>
    have h1 : has1 .bool (mkAV .bool cs) = true := h
    obtain ⟨e1, _⟩ := has1_cells _ _ h1
    rw [e1]
    match cs, hl with
    | [c], _ => rfl
  | str =>
    have h1 : has1 .str (mkAV .str cs) = true := h
    obtain ⟨e1, _⟩ := has1_cells _ _ h1
    rw [e1]
    match cs, hl with
    | [c], _ => rfl
  | slice s =>
    have h1 : has1 (.slice s) (mkAV (.slice s) cs) = true := h
    obtain ⟨e1, _⟩ := has1_cells _ _ h1
    rw [e1]
    match cs, hl with
    | [c], _ => rfl

/-- One element is set: its cells are. -/
theorem flat_set {s : Sh} : ∀ (es : List AV) (i : Nat) (x : AV), (∀ e ∈ es, hasSh s e = true) → hasSh s x = true → i < es.length → flat (es.set i x) = (flat es).take (i * s.width) ++ x.cells ++ (flat es).drop (i * s.width + s.width)
  | [], i, x, _, _, h => by simp at h
  | e :: es, 0, x, hs, hx, _ => by
    have hw := hasSh_width s e (hs e (by simp))
    simp only [List.set_cons_zero, flat, List.flatMap_cons, Nat.zero_mul, List.take_zero, List.nil_append, Nat.zero_add, ← hw]
    simp
  | e :: es, i + 1, x, hs, hx, h => by
    have hw := hasSh_width s e (hs e (by simp))
    have ih := flat_set es i x (fun y hy => hs y (by simp [hy])) hx (by simpa using h)
    simp only [List.set_cons_succ]
    simp only [flat, List.flatMap_cons] at ih ⊢
    have e1 : (i + 1) * s.width = e.cells.length + i * s.width := by rw [hw, Nat.add_mul, Nat.one_mul, Nat.add_comm]
    have e2 : e.cells.length + i * s.width + s.width = e.cells.length + (i * s.width + s.width) := by omega
    rw [ih, e1, e2, List.take_length_add_append, List.drop_length_add_append]
    simp

theorem etas_length : ∀ (l : List Sh) (cs : List AV), (etas l cs).length = l.length
  | [], _ => rfl
  | s :: l, cs => by simp [etas, etas_length l]

/-- Splicing into one element's cells, seen from the whole row. -/
theorem take_drop_mid {α : Type} (xs ys : List α) (p q n : Nat) (hq : q + ys.length ≤ n) (hn : p + n ≤ xs.length) :
    xs.take p ++ (((xs.drop p).take n).take q ++ ys ++ ((xs.drop p).take n).drop (q + ys.length)) ++ xs.drop (p + n) = xs.take (p + q) ++ ys ++ xs.drop (p + q + ys.length) := by
  have hl : n ≤ (xs.drop p).length := by simp; omega
  have e1 : ((xs.drop p).take n).take q = (xs.drop p).take q := by rw [List.take_take]; congr 1; omega
  have e2 : ((xs.drop p).take n).drop (q + ys.length) ++ xs.drop (p + n) = xs.drop (p + q + ys.length) := by
    have : xs.drop (p + q + ys.length) = (xs.drop p).drop (q + ys.length) := by rw [List.drop_drop]; congr 1; omega
    rw [this]
    have h2 : xs.drop (p + n) = (xs.drop p).drop n := by rw [List.drop_drop]
    rw [h2]
    generalize xs.drop p = zs at hl
    conv => rhs; rw [← List.take_append_drop n zs]
    rw [List.drop_append_of_le_length (by simp; omega)]
  rw [e1]
  simp only [List.append_assoc]
  rw [e2, ← List.append_assoc, ← List.take_add]
theorem take_mid {α : Type} (cur ys : List α) (p m : Nat) (h : p + ys.length ≤ m) (hm : m ≤ cur.length) :
    (cur.take p ++ ys ++ cur.drop (p + ys.length)).take m = (cur.take m).take p ++ ys ++ (cur.take m).drop (p + ys.length) := by
  have e1 : (cur.take m).take p = cur.take p := by rw [List.take_take]; congr 1; omega
  rw [e1, List.take_append, List.take_append]
  have l1 : (cur.take p).length = p := by simp; omega
  rw [List.take_of_length_le (by omega), l1]
  have l2 : List.take (m - p) ys = ys := List.take_of_length_le (by omega)
  rw [l2]
  congr 1
  rw [List.length_append, l1, List.drop_take]

theorem op_store_elem (hR : Rel w S B β og st a) (hO : Out w0 S0 B w S) {rowsV : List (Nat × Row)} (hsub : ∀ id x, lookup rowsV id = some x → lookup st.rows id = some x) {t e : TypeId} {x z : Operand} {id i off : Nat} {s : Sh} {es : List AV} {v' : AV} {ids : List Nat} (ho : o.op = .store t x z)
    (hx : val st.tm x = .eptr id i off) (hpur : pur1 rowsV depth (valT P st.tm t z) = some (v', ids)) {csp : Option (List AV)} (hl : lookup rowsV id = some (.arr false s e es csp)) (hnid : ids.contains id = false) (hlaid : v'.laidB = true) (hn : v'.cells.length = P.cellsOf t) (hn0 : P.cellsOf t ≠ 0)
    (hle : off + P.cellsOf t ≤ s.width) (hnew : hasSh s (mkAV s (splice (etaCells s (es.getD i .unk)) off v'.cells)) = true) (hi : i < es.length)
    (hy : y { v := .undef, mod := some (id, .arr false s e (es.set i (mkAV s (splice (etaCells s (es.getD i .unk)) off v'.cells))) csp), imm := ids } = some r) (hK : Good w0 S0 B site o st y r K) : o.wpR R P a w K Q := by
  have hin : ∀ id ∈ ids, ∃ r, lookup st.rows id = some r := fun id hid => by obtain ⟨r, hr⟩ := pur1_in _ _ _ hpur id hid; exact ⟨r, hsub _ _ hr⟩
  have hpv := pur1_sound (w := w) (S := S) (B := B) (β := β) (og := og) (rows := rowsV) (fun id x hx => hR.row id x (hsub _ _ hx)) depth _ _ _ _ hpur (valT_rel hR.tm P t z)
  obtain ⟨us, huc, hus, hu1⟩ := hpv.laid hlaid (fun _ _ h => by cases h)
  have hF := hR.freeze ids
  have hOF := hO.freeze hR ids hin
  have hnot : id ∉ ids := by simpa using hnid
  have hlF : lookup (setImm ids st.rows) id = some (.arr false s e es csp) := by rw [lookup_setImm, hsub _ _ hl]; simp [hnot]
  obtain ⟨hp, v, sp, xs, hshS, hcs, hbt, h1, hvs, hor⟩ := hF.row id _ hlF
  have hsh : ∀ x ∈ es, hasSh s x = true := fun x hx => hshS x (List.mem_append_left _ hx)
  have hpx := val_rel hR.tm x
  rw [hx] at hpx
  obtain ⟨ii, hii, hisz⟩ := cellsOf_info hn0
  have hul : us.length = P.cellsOf t := by rw [hus.1]; exact hn
  generalize he : a.eval x = u at hpx
  cases hpx with
  | eptr _ _ _ _ g n c wd hb' =>
    rw [hbt] at hb'
    simp only [Option.some.injEq, Prod.mk.injEq] at hb'
    obtain ⟨rfl, rfl⟩ := hb'
    rcases hor with ⟨he0, _⟩ | ⟨g', hog, hvv, hBg, hh, hmx, him, _⟩
    · subst he0; simp at hi
    · simp at hvv
      obtain ⟨rfl, rfl, rfl⟩ := hvv
      have hw : s.width ≤ s.width * es.length - s.width * i := by
        have : s.width * (i + 1) ≤ s.width * es.length := Nat.mul_le_mul_left _ hi
        rw [Nat.mul_add, Nat.mul_one] at this
        omega
      have hbound : i * s.width + s.width ≤ es.length * s.width := by
        have : (i + 1) * s.width ≤ es.length * s.width := Nat.mul_le_mul_right _ hi
        rwa [Nat.add_mul, Nat.one_mul] at this
      have hxl : xs.length = es.length * s.width + sp.length * s.width := by rw [hvs.1, flat_length _ hshS, List.length_append, Nat.add_mul]
      have hiE : i < (es ++ sp).length := by rw [List.length_append]; omega
      have hst := hh.stores (P := P) (i * s.width + off) us 0 (by simp; omega) hu1
      simp only [Nat.add_zero] at hst
      have hnS : ∀ g', og id = some g' → ¬ With S og ids g' := fun g' hg' => by rw [hog] at hg'; cases hg'; exact him rfl
      have hgr := grownBy_setRow w g (xs.take (i * s.width + off) ++ us ++ xs.drop (i * s.width + off + us.length)).toArray
      have hwk : ∀ b, With S og ids b → (w.setRow g (xs.take (i * s.width + off) ++ us ++ xs.drop (i * s.width + off + us.length)).toArray).heap[b]? = w.heap[b]? := fun b hs => hgr.block b (hF.Slt b hs) (fun e => by cases e; exact him rfl hs)
      have hgd : es[i]? = some es[i] := List.getElem?_eq_getElem hi
      have hgD : es.getD i .unk = es[i] := by simp [List.getD, hgd]
      have hsi : hasSh s es[i] = true := hsh _ (List.getElem_mem hi)
      have hel : VRels w (With S og ids) nob (etaCells s (es.getD i .unk)) ((xs.drop (i * s.width)).take s.width) := by
        have hvv := (hvs.drop (i * s.width)).take s.width
        rw [flat_at (es ++ sp) i es[i] hshS (by rw [List.getElem?_append_left hi]; exact hgd)] at hvv
        rw [hgD]
        exact etas_rel _ _ _ (hasSh_hass s _ hsi) hvv
      have hetl : (etaCells s (es.getD i .unk)).length = s.width := etas_length _ _
      have hspl : (splice (etaCells s (es.getD i .unk)) off v'.cells).length = s.width := by
        simp only [splice, List.length_append, List.length_take, List.length_drop, hetl]
        omega
      have hnc := mkAV_cells hnew hspl
      have hrow : RowRel (w.setRow g (xs.take (i * s.width + off) ++ us ++ xs.drop (i * s.width + off + us.length)).toArray) (With S og ids) B β id (og id) (.arr false s e (es.set i (mkAV s (splice (etaCells s (es.getD i .unk)) off v'.cells))) csp) := by
        have hset : es.set i (mkAV s (splice (etaCells s (es.getD i .unk)) off v'.cells)) ++ sp = (es ++ sp).set i (mkAV s (splice (etaCells s (es.getD i .unk)) off v'.cells)) := by
          rw [List.set_append_left _ _ hi]
        refine ⟨hp, _, sp, xs.take (i * s.width + off) ++ us ++ xs.drop (i * s.width + off + us.length), fun y hy => ?_, hcs, hbt, fun u hu => ?_, ?_, .inr ⟨g, hog, by rw [List.length_set], hBg, hh.setRow (by simp only [List.size_toArray, List.length_append, List.length_take, List.length_drop]; omega), by rw [List.length_set]; exact hmx, fun _ => him rfl, (fun h => by cases h)⟩⟩
        · rw [hset] at hy
          rcases List.mem_or_eq_of_mem_set hy with h | h
          · exact hshS y h
          · rw [h]; exact hnew
        · simp only [List.mem_append] at hu
          rcases hu with (hu | hu) | hu
          · exact h1 u (List.mem_of_mem_take hu)
          · exact hu1 u hu
          · exact h1 u (List.mem_of_mem_drop hu)
        · refine VRels.mono (w := w) (S := With S og ids) (β := nob) ?_ (fun _ h => h) hwk (fun _ _ h => h)
          rw [hset, flat_set (es ++ sp) i _ hshS hnew hiE, hnc, ← take_drop_mid xs us (i * s.width) off s.width (by omega) (by omega)]
          exact ((hvs.take (i * s.width)).append (hel.splice hus off)).append (hvs.drop (i * s.width + s.width))
      have hM := hF.modify (id := id) (by rw [hog]; exact hgr) (by simp [World.setRow]) hnS hrow
      have hM' := hM.congr (rows' := applyRows site { v := .undef, mod := some (id, .arr false s e (es.set i (mkAV s (splice (etaCells s (es.getD i .unk)) off v'.cells))) csp), imm := ids } st.rows) (fun k => by
        have : applyRows site { v := .undef, mod := some (id, .arr false s e (es.set i (mkAV s (splice (etaCells s (es.getD i .unk)) off v'.cells))) csp), imm := ids } st.rows = setImm ids (setRow st.rows id (.arr false s e (es.set i (mkAV s (splice (etaCells s (es.getD i .unk)) off v'.cells))) csp)) := by
          simp only [applyRows, List.foldl_nil]
          cases ids with
          | nil => rw [setImm_nil]
          | cons i is => rfl
        rw [this, lookup_setImm, lookup_setRow, lookup_setRow, lookup_setImm]
        by_cases e : k = id
        · subst e; simp [hnot]
        · simp [e])
      refine wp_skip' (w' := w.setRow g (xs.take (i * s.width + off) ++ us ++ xs.drop (i * s.width + off + us.length)).toArray) ?_ (hK _ _ _ hy ⟨_, β, og, hM'.put o.dst (.undef _), hOF.grownBy hF.Ble hgr (fun k hk => by cases hk; exact hBg)⟩)
      have hsz' : (a.eval z).cells.size = ii.size := by rw [huc, hisz, ← hul]; simp
      simp only [execOp, ho, he, Instr.storeAt, Instr.sureAddr, pure_bind, storeVar, sizeOf, typeInfo, Sem.run_bind, run_program, Result.andThen_ok, hii, Sem.run_pure, hsz']
      simp [huc, hst]

theorem take_right {α : Type} (A B u : List α) (k n : Nat) : (A ++ B).take (A.length + k) ++ u ++ (A ++ B).drop (A.length + k + n) = A ++ (B.take k ++ u ++ B.drop (k + n)) := by
  rw [List.take_length_add_append, Nat.add_assoc, List.drop_length_add_append]
  simp [List.append_assoc]
theorem take_left_of {α : Type} (A B u : List α) (k n : Nat) (h : k + n ≤ A.length) : (A ++ B).take k ++ u ++ (A ++ B).drop (k + n) = (A.take k ++ u ++ A.drop (k + n)) ++ B := by
  rw [List.take_append_of_le_length (by omega), List.drop_append_of_le_length h]
  simp [List.append_assoc]
theorem splice_one {vs us : List Value} {m n : Nat} (h1 : ∀ u ∈ vs, u.oneCell' = true) (h2 : ∀ u ∈ us, u.oneCell' = true) : ∀ u ∈ vs.take m ++ us ++ vs.drop n, u.oneCell' = true := fun u hu => by
  simp only [List.mem_append] at hu
  rcases hu with (hu | hu) | hu
  · exact h1 u (List.mem_of_mem_take hu)
  · exact h2 u hu
  · exact h1 u (List.mem_of_mem_drop hu)
/-- One element of a list is set: its cells are spliced. -/
theorem set_rels {w : World} {S : Nat → Prop} {s : Sh} {es : List AV} {xs us : List Value} {i off : Nat} {ns : List AV} (hsh : ∀ x ∈ es, hasSh s x = true) (hvs : VRels w S nob (flat es) xs) (hus : VRels w S nob ns us) (hi : i < es.length)
    (hle : off + us.length ≤ s.width) (hnew : hasSh s (mkAV s (splice (etaCells s (es.getD i .unk)) off ns)) = true) :
    VRels w S nob (flat (es.set i (mkAV s (splice (etaCells s (es.getD i .unk)) off ns)))) (xs.take (i * s.width + off) ++ us ++ xs.drop (i * s.width + off + us.length)) := by
  have hgd : es[i]? = some es[i] := List.getElem?_eq_getElem hi
  have hgD : es.getD i .unk = es[i] := by simp [List.getD, hgd]
  have hsi : hasSh s es[i] = true := hsh _ (List.getElem_mem hi)
  have hbound : i * s.width + s.width ≤ es.length * s.width := by
    have : (i + 1) * s.width ≤ es.length * s.width := Nat.mul_le_mul_right _ hi
    rwa [Nat.add_mul, Nat.one_mul] at this
  have hxl : xs.length = es.length * s.width := by rw [hvs.1, flat_length _ hsh]
  have hel : VRels w S nob (etaCells s (es.getD i .unk)) ((xs.drop (i * s.width)).take s.width) := by
    have hvv := (hvs.drop (i * s.width)).take s.width
    rw [flat_at es i es[i] hsh hgd] at hvv
    rw [hgD]
    exact etas_rel _ _ _ (hasSh_hass s _ hsi) hvv
  have hetl : (etaCells s (es.getD i .unk)).length = s.width := etas_length _ _
  have hspl : (splice (etaCells s (es.getD i .unk)) off ns).length = s.width := by
    have := hus.1
    simp only [splice, List.length_append, List.length_take, List.length_drop, hetl]
    omega
  rw [flat_set es i _ hsh hnew hi, mkAV_cells hnew hspl, ← take_drop_mid xs us (i * s.width) off s.width (by omega) (by omega)]
  exact ((hvs.take (i * s.width)).append (hel.splice hus off)).append (hvs.drop (i * s.width + s.width))

/-- Some cells of a row of the call's own are written. -/
theorem op_store_row (hR : Rel w S B β og st a) (hO : Out w0 S0 B w S) {ids : List Nat} (hin : ∀ id ∈ ids, ∃ r, lookup st.rows id = some r) {t : TypeId} {x z : Operand} {id g k : Nat} {L : List Value} {e : TypeId} {m : Bool} {us : List Value} {r0 r1 : Row} (ho : o.op = .store t x z)
    (he : a.eval x = .pointer (some ⟨g, k, none⟩)) (hl : lookup st.rows id = some r0) (hnot : id ∉ ids) (hog : og id = some g) (him : ¬ With S og ids g) (hBg : ¬ B g) (hh : Lies w g L.toArray e m) (huc : (a.eval z).cells = us.toArray) (hu1 : ∀ u ∈ us, u.oneCell' = true)
    (hul : us.length = P.cellsOf t) (hn0 : P.cellsOf t ≠ 0) (hb : k + us.length ≤ L.length)
    (hrow : (∀ b, With S og ids b → (w.setRow g (L.take k ++ us ++ L.drop (k + us.length)).toArray).heap[b]? = w.heap[b]?) → Lies (w.setRow g (L.take k ++ us ++ L.drop (k + us.length)).toArray) g (L.take k ++ us ++ L.drop (k + us.length)).toArray e m →
      RowRel (w.setRow g (L.take k ++ us ++ L.drop (k + us.length)).toArray) (With S og ids) B β id (og id) r1)
    (hy : y { v := .undef, mod := some (id, r1), imm := ids } = some r) (hK : Good w0 S0 B site o st y r K) : o.wpR R P a w K Q := by
  have hF := hR.freeze ids
  have hOF := hO.freeze hR ids hin
  obtain ⟨ii, hii, hisz⟩ := cellsOf_info hn0
  have hst := hh.stores (P := P) k us 0 (by simpa using hb) hu1
  simp only [Nat.add_zero] at hst
  have hnS : ∀ g', og id = some g' → ¬ With S og ids g' := fun g' hg' => by rw [hog] at hg'; cases hg'; exact him
  have hgr := grownBy_setRow w g (L.take k ++ us ++ L.drop (k + us.length)).toArray
  have hwk : ∀ b, With S og ids b → (w.setRow g (L.take k ++ us ++ L.drop (k + us.length)).toArray).heap[b]? = w.heap[b]? := fun b hs => hgr.block b (hF.Slt b hs) (fun e => by cases e; exact him hs)
  have hrow' := hrow hwk (hh.setRow (by simp only [List.size_toArray, List.length_append, List.length_take, List.length_drop]; omega))
  have hM := hF.modify (id := id) (by rw [hog]; exact hgr) (by simp [World.setRow]) hnS hrow'
  have hM' := hM.congr (rows' := applyRows site { v := .undef, mod := some (id, r1), imm := ids } st.rows) (fun k => by
    have : applyRows site { v := .undef, mod := some (id, r1), imm := ids } st.rows = setImm ids (setRow st.rows id r1) := by
      simp only [applyRows, List.foldl_nil]
      cases ids with
      | nil => rw [setImm_nil]
      | cons i is => rfl
    rw [this, lookup_setImm, lookup_setRow, lookup_setRow, lookup_setImm]
    by_cases e : k = id
    · subst e; simp [hnot]
    · simp [e])
  refine wp_skip' (w' := w.setRow g (L.take k ++ us ++ L.drop (k + us.length)).toArray) ?_ (hK _ _ _ hy ⟨_, β, og, hM'.put o.dst (.undef _), hOF.grownBy hF.Ble hgr (fun k hk => by cases hk; exact hBg)⟩)
  have hsz' : (a.eval z).cells.size = ii.size := by rw [huc, hisz, ← hul]; simp
  simp only [execOp, ho, he, Instr.storeAt, Instr.sureAddr, pure_bind, storeVar, sizeOf, typeInfo, Sem.run_bind, run_program, Result.andThen_ok, hii, Sem.run_pure, hsz']
  simp [huc, hst]

theorem focOf_spec {rows : List (Nat × Row)} {id : Nat} {x : Sh × TypeId × List AV × List AV × List AV} (h : focOf rows id = some x) : lookup rows id = some (.foc false x.1 x.2.1 x.2.2.1 x.2.2.2.1 x.2.2.2.2) := by
  unfold focOf at h
  split at h
  · rename_i hl
    cases h
    exact hl
  · cases h

/-- The element that is held apart is written. -/
theorem op_store_hole (hR : Rel w S B β og st a) (hO : Out w0 S0 B w S) {t e : TypeId} {x z : Operand} {id off : Nat} {s : Sh} {pre cs post : List AV} (ho : o.op = .store t x z)
    (hx : val st.tm x = .eptr id pre.length off) (hl : lookup st.rows id = some (.foc false s e pre cs post)) (hlaid : (valT P st.tm t z).laidB = true) (hn : (valT P st.tm t z).cells.length = P.cellsOf t) (hn0 : P.cellsOf t ≠ 0)
    (hle : off + (valT P st.tm t z).cells.length ≤ cs.length)
    (hy : y { v := .undef, mod := some (id, .foc false s e pre (splice cs off (valT P st.tm t z).cells) post) } = some r) (hK : Good w0 S0 B site o st y r K) : o.wpR R P a w K Q := by
  obtain ⟨us, huc, hus, hu1⟩ := (valT_rel hR.tm P t z).laid hlaid hR.one
  have hpx := val_rel hR.tm x
  rw [hx] at hpx
  obtain ⟨hpos, hcl, g, sp, xs, vs, ys, hpre, hpost, hog, hbt, h1, vx, vu, vy, hBg, hh, hm, hi, _⟩ := hR.row id _ hl
  have lx : xs.length = pre.length * s.width := vx.1.trans (flat_length pre hpre)
  have hul : us.length = P.cellsOf t := by rw [hus.1]; exact hn
  generalize he : a.eval x = u at hpx
  cases hpx with
  | eptr _ _ _ _ g' n c wd hb' =>
    rw [hbt] at hb'
    simp only [Option.some.injEq, Prod.mk.injEq, Value.slice.injEq, Addr.mk.injEq] at hb'
    obtain ⟨⟨⟨rfl, _⟩, _⟩, rfl⟩ := hb'
    have lv : vs.length = cs.length := vu.1
    have hb : xs.length + off + us.length ≤ (xs ++ (vs ++ ys)).length := by
      have := hus.1
      simp only [List.length_append]
      omega
    have hL : (xs ++ (vs ++ ys)).take (xs.length + off) ++ us ++ (xs ++ (vs ++ ys)).drop (xs.length + off + us.length) = xs ++ ((vs.take off ++ us ++ vs.drop (off + us.length)) ++ ys) := by
      rw [take_right, take_left_of vs ys us off us.length (by have := hus.1; omega)]
    refine op_store_row hR hO (ids := []) (fun _ h => by cases h) ho (k := xs.length + off) (by rw [he, lx]) hl (by simp) hog (fun h => ?_) hBg hh huc hu1 hul hn0 hb (fun hwk hlies => ?_) hy hK
    · rcases h with h | ⟨i, hi', _⟩
      · exact hi rfl h
      · cases hi'
    · rw [hL] at hwk hlies ⊢
      have mv : ∀ {β' : Bet} {c : List AV} {v : List Value}, VRels w S β' c v → VRels (w.setRow g (xs ++ ((vs.take off ++ us ++ vs.drop (off + us.length)) ++ ys)).toArray) (With S og []) β' c v := fun h => (h.keepS (S' := With S og []) fun b => With.left).mono (fun _ h => h) hwk (fun _ _ h => h)
      refine ⟨hpos, ?_, g, sp, xs, vs.take off ++ us ++ vs.drop (off + us.length), ys, hpre, hpost, hog, hbt, fun u hu => ?_, mv vx, mv (vu.splice hus off), mv vy, hBg, hlies, hm, fun _ h => ?_, (fun h => by cases h)⟩
      · have := hus.1
        simp only [splice, List.length_append, List.length_take, List.length_drop]
        omega
      · rcases List.mem_append.1 hu with hu | hu
        · exact h1 u (List.mem_append_left _ hu)
        · rcases List.mem_append.1 hu with hu | hu
          · exact splice_one (fun u hu => h1 u (by simp [hu])) hu1 u hu
          · exact h1 u (by simp [hu])
      · rcases h with h | ⟨i, hi', _⟩
        · exact hi rfl h
        · cases hi'

/-- An element ahead of the one that is held apart is written. -/
theorem op_store_pre (hR : Rel w S B β og st a) (hO : Out w0 S0 B w S) {rowsV : List (Nat × Row)} (hsub : ∀ id x, lookup rowsV id = some x → lookup st.rows id = some x) {t e : TypeId} {x z : Operand} {id i off : Nat} {s : Sh} {pre cs post : List AV} {v' : AV} {ids : List Nat} (ho : o.op = .store t x z)
    (hx : val st.tm x = .eptr id i off) (hpur : pur1 rowsV depth (valT P st.tm t z) = some (v', ids)) (hl : lookup rowsV id = some (.foc false s e pre cs post)) (hnid : ids.contains id = false) (hlaid : v'.laidB = true) (hn : v'.cells.length = P.cellsOf t) (hn0 : P.cellsOf t ≠ 0)
    (hle : off + P.cellsOf t ≤ s.width) (hnew : hasSh s (mkAV s (splice (etaCells s (pre.getD i .unk)) off v'.cells)) = true) (hi : i < pre.length)
    (hy : y { v := .undef, mod := some (id, .foc false s e (pre.set i (mkAV s (splice (etaCells s (pre.getD i .unk)) off v'.cells))) cs post), imm := ids } = some r) (hK : Good w0 S0 B site o st y r K) : o.wpR R P a w K Q := by
  have hin : ∀ id ∈ ids, ∃ r, lookup st.rows id = some r := fun id hid => by obtain ⟨r, hr⟩ := pur1_in _ _ _ hpur id hid; exact ⟨r, hsub _ _ hr⟩
  have hpv := pur1_sound (w := w) (S := S) (B := B) (β := β) (og := og) (rows := rowsV) (fun id x hx => hR.row id x (hsub _ _ hx)) depth _ _ _ _ hpur (valT_rel hR.tm P t z)
  obtain ⟨us, huc, hus, hu1⟩ := hpv.laid hlaid (fun _ _ h => by cases h)
  have hnot : id ∉ ids := by simpa using hnid
  have hpx := val_rel hR.tm x
  rw [hx] at hpx
  obtain ⟨hpos, hcl, g, sp, xs, vs, ys, hpre, hpost, hog, hbt, h1, vx, vu, vy, hBg, hh, hm, him, _⟩ := hR.row id _ (hsub _ _ hl)
  have lx : xs.length = pre.length * s.width := vx.1.trans (flat_length pre hpre)
  have hul : us.length = P.cellsOf t := by rw [hus.1]; exact hn
  generalize he : a.eval x = u at hpx
  cases hpx with
  | eptr _ _ _ _ g' n c wd hb' =>
    rw [hbt] at hb'
    simp only [Option.some.injEq, Prod.mk.injEq, Value.slice.injEq, Addr.mk.injEq] at hb'
    obtain ⟨⟨⟨rfl, _⟩, _⟩, rfl⟩ := hb'
    have hbound : i * s.width + s.width ≤ pre.length * s.width := by
      have : (i + 1) * s.width ≤ pre.length * s.width := Nat.mul_le_mul_right _ hi
      rwa [Nat.add_mul, Nat.one_mul] at this
    have hnS : ¬ With S og ids g := fun h => by
      rcases h with h | ⟨i', hi', hg'⟩
      · exact him rfl h
      · exact hnot (hR.inj id i' g hog hg' ▸ hi')
    have hL : (xs ++ (vs ++ ys)).take (i * s.width + off) ++ us ++ (xs ++ (vs ++ ys)).drop (i * s.width + off + us.length) = (xs.take (i * s.width + off) ++ us ++ xs.drop (i * s.width + off + us.length)) ++ (vs ++ ys) := take_left_of _ _ _ _ _ (by omega)
    refine op_store_row hR hO hin ho (k := i * s.width + off) he (hsub _ _ hl) hnot hog hnS hBg hh huc hu1 hul hn0 (by simp only [List.length_append]; omega) (fun hwk hlies => ?_) hy hK
    rw [hL] at hwk hlies ⊢
    have mv : ∀ {β' : Bet} {c : List AV} {v : List Value}, VRels w S β' c v → VRels (w.setRow g ((xs.take (i * s.width + off) ++ us ++ xs.drop (i * s.width + off + us.length)) ++ (vs ++ ys)).toArray) (With S og ids) β' c v := fun h => (h.keepS (S' := With S og ids) fun b => With.left).mono (fun _ h => h) hwk (fun _ _ h => h)
    have hset := (set_rels hpre (vx.keepS (S' := With S og ids) fun b => With.left) hus hi (by omega) hnew).mono (fun _ h => h) hwk (fun _ _ h => h) (β' := nob)
    refine ⟨hpos, hcl, g, sp, _, vs, ys, fun y hy => ?_, hpost, hog, by rw [List.length_set]; exact hbt, fun u hu => ?_, hset, mv vu, mv vy, hBg, hlies, by rw [List.length_set]; exact hm, fun _ => hnS, (fun h => by cases h)⟩
    · rcases List.mem_or_eq_of_mem_set hy with h | h
      · exact hpre y h
      · rw [h]; exact hnew
    · rcases List.mem_append.1 hu with hu | hu
      · exact splice_one (fun u hu => h1 u (by simp [hu])) hu1 u hu
      · exact h1 u (List.mem_append_right _ hu)

/-- An element behind the one that is held apart is written. -/
theorem op_store_post (hR : Rel w S B β og st a) (hO : Out w0 S0 B w S) {rowsV : List (Nat × Row)} (hsub : ∀ id x, lookup rowsV id = some x → lookup st.rows id = some x) {t e : TypeId} {x z : Operand} {id i off : Nat} {s : Sh} {pre cs post : List AV} {v' : AV} {ids : List Nat} (ho : o.op = .store t x z)
    (hx : val st.tm x = .eptr id (pre.length + 1 + i) off) (hpur : pur1 rowsV depth (valT P st.tm t z) = some (v', ids)) (hl : lookup rowsV id = some (.foc false s e pre cs post)) (hnid : ids.contains id = false) (hlaid : v'.laidB = true) (hn : v'.cells.length = P.cellsOf t) (hn0 : P.cellsOf t ≠ 0)
    (hle : off + P.cellsOf t ≤ s.width) (hnew : hasSh s (mkAV s (splice (etaCells s (post.getD i .unk)) off v'.cells)) = true) (hi : i < post.length)
    (hy : y { v := .undef, mod := some (id, .foc false s e pre cs (post.set i (mkAV s (splice (etaCells s (post.getD i .unk)) off v'.cells)))), imm := ids } = some r) (hK : Good w0 S0 B site o st y r K) : o.wpR R P a w K Q := by
  have hin : ∀ id ∈ ids, ∃ r, lookup st.rows id = some r := fun id hid => by obtain ⟨r, hr⟩ := pur1_in _ _ _ hpur id hid; exact ⟨r, hsub _ _ hr⟩
  have hpv := pur1_sound (w := w) (S := S) (B := B) (β := β) (og := og) (rows := rowsV) (fun id x hx => hR.row id x (hsub _ _ hx)) depth _ _ _ _ hpur (valT_rel hR.tm P t z)
  obtain ⟨us, huc, hus, hu1⟩ := hpv.laid hlaid (fun _ _ h => by cases h)
  have hnot : id ∉ ids := by simpa using hnid
  have hpx := val_rel hR.tm x
  rw [hx] at hpx
  obtain ⟨hpos, hcl, g, sp, xs, vs, ys, hpre, hpost, hog, hbt, h1, vx, vu, vy, hBg, hh, hm, him, _⟩ := hR.row id _ (hsub _ _ hl)
  have lx : xs.length = pre.length * s.width := vx.1.trans (flat_length pre hpre)
  have lv : vs.length = s.width := vu.1.trans hcl
  have ly : ys.length = (post ++ sp).length * s.width := vy.1.trans (flat_length _ hpost)
  have hul : us.length = P.cellsOf t := by rw [hus.1]; exact hn
  generalize he : a.eval x = u at hpx
  cases hpx with
  | eptr _ _ _ _ g' n c wd hb' =>
    rw [hbt] at hb'
    simp only [Option.some.injEq, Prod.mk.injEq, Value.slice.injEq, Addr.mk.injEq] at hb'
    obtain ⟨⟨⟨rfl, _⟩, _⟩, rfl⟩ := hb'
    have hi' : i < (post ++ sp).length := by rw [List.length_append]; omega
    have hgd : (post ++ sp).getD i .unk = post.getD i .unk := by rw [List.getD, List.getD, List.getElem?_append_left hi]
    have hbound : i * s.width + s.width ≤ (post ++ sp).length * s.width := by
      have : (i + 1) * s.width ≤ (post ++ sp).length * s.width := Nat.mul_le_mul_right _ hi'
      rwa [Nat.add_mul, Nat.one_mul] at this
    have hnS : ¬ With S og ids g := fun h => by
      rcases h with h | ⟨i', hi', hg'⟩
      · exact him rfl h
      · exact hnot (hR.inj id i' g hog hg' ▸ hi')
    have hk : (pre.length + 1 + i) * s.width + off = xs.length + (vs.length + (i * s.width + off)) := by
      rw [Nat.add_mul, Nat.add_mul, lx, lv]; omega
    have hL : (xs ++ (vs ++ ys)).take (xs.length + (vs.length + (i * s.width + off))) ++ us ++ (xs ++ (vs ++ ys)).drop (xs.length + (vs.length + (i * s.width + off)) + us.length) = xs ++ (vs ++ (ys.take (i * s.width + off) ++ us ++ ys.drop (i * s.width + off + us.length))) := by
      rw [take_right, take_right]
    have hbb : xs.length + (vs.length + (i * s.width + off)) + us.length ≤ (xs ++ (vs ++ ys)).length := by
      rw [List.length_append, List.length_append]
      omega
    refine op_store_row hR hO hin ho (L := xs ++ (vs ++ ys)) (k := xs.length + (vs.length + (i * s.width + off))) (by rw [he, hk]) (hsub _ _ hl) hnot hog hnS hBg hh huc hu1 hul hn0 hbb (fun hwk hlies => ?_) hy hK
    rw [hL] at hwk hlies ⊢
    have mv : ∀ {β' : Bet} {c : List AV} {v : List Value}, VRels w S β' c v → VRels (w.setRow g (xs ++ (vs ++ (ys.take (i * s.width + off) ++ us ++ ys.drop (i * s.width + off + us.length)))).toArray) (With S og ids) β' c v := fun h => (h.keepS (S' := With S og ids) fun b => With.left).mono (fun _ h => h) hwk (fun _ _ h => h)
    have hset := (set_rels (off := off) hpost (vy.keepS (S' := With S og ids) fun b => With.left) hus hi' (by omega) (by rw [hgd]; exact hnew)).mono (fun _ h => h) hwk (fun _ _ h => h) (β' := nob)
    rw [hgd, List.set_append_left _ _ hi] at hset
    refine ⟨hpos, hcl, g, sp, xs, vs, _, hpre, fun y hy => ?_, hog, by rw [List.length_set]; exact hbt, fun u hu => ?_, mv vx, mv vu, hset, hBg, hlies, by rw [List.length_set]; exact hm, fun _ => hnS, (fun h => by cases h)⟩
    · rw [← List.set_append_left _ _ hi] at hy
      rcases List.mem_or_eq_of_mem_set hy with h | h
      · exact hpost y h
      · rw [h]; exact hnew
    · rcases List.mem_append.1 hu with hu | hu
      · exact h1 u (List.mem_append_left _ hu)
      · rcases List.mem_append.1 hu with hu | hu
        · exact h1 u (by simp [hu])
        · exact splice_one (fun u hu => h1 u (by simp [hu])) hu1 u hu

end ops
end Go.Ev

namespace Go.Ev
open Go.RowKit

section ops
variable {R : Option Nat} {ρ : Type} {P : Program} {w0 w : World} {S0 S : Nat → Prop} {B : Ctx} {β : Bet} {og : Nat → Option Nat} {st : St} {a : Act} {o : Oper} {site : Nat} {y : Eff → Option ρ} {r : ρ}
  {K : Act → World → Prop} {Q : Exit → Act → World → Prop}

theorem foldl_set (off : Nat) : ∀ (us : List Value) (k : Nat) (arr : Array Value), off + k + us.length ≤ arr.size →
    (us.zipIdx k).foldl (fun cs p => cs.setIfInBounds (off + p.2) p.1) arr = (arr.toList.take (off + k) ++ us ++ arr.toList.drop (off + k + us.length)).toArray
  | [], k, arr, _ => by
    apply Array.ext'
    simp
  | u :: us, k, arr, h => by
    simp only [List.length_cons] at h
    simp only [List.zipIdx_cons, List.foldl_cons]
    rw [foldl_set off us (k + 1) (arr.setIfInBounds (off + k) u) (by simp; omega)]
    congr 1
    simp only [Array.toList_setIfInBounds]
    have hl : off + k < arr.toList.length := by simp; omega
    rw [show off + (k + 1) = off + k + 1 from by omega, List.take_add_one, List.getElem?_set_self hl, List.take_set_of_le (by omega), List.drop_set_of_lt (by omega)]
    simp only [Option.toList_some, List.append_assoc, List.length_cons, List.cons_append, List.nil_append]
    congr 3
    congr 1
    omega

theorem fill_sound {place place' : Nat → Option (Nat × Nat)} (hpl : ∀ i p, place i = some p → place' i = some p) :
    ∀ (parts : List (Nat × AV)) (parts' : List (Nat × Value)) (cs cs' : List AV) (vs : List Value), fillA place cs parts = some cs' → parts.map (·.1) = parts'.map (·.1) → VRels w S β (parts.map (·.2)) (parts'.map (·.2)) →
      (∀ id x, β id = some x → x.1.oneCell' = true) → VRels w S β cs vs → (∀ u ∈ vs, u.oneCell' = true) → ∃ vs', Instr.fill place' vs.toArray parts' = some vs'.toArray ∧ VRels w S β cs' vs' ∧ ∀ u ∈ vs', u.oneCell' = true
  | [], [], cs, cs', vs, h, _, _, _, hv, h1 => by simp [fillA] at h; subst h; exact ⟨vs, rfl, hv, h1⟩
  | [], _ :: _, _, _, _, _, hm, _, _, _, _ => by simp at hm
  | _ :: _, [], _, _, _, _, hm, _, _, _, _ => by simp at hm
  | (i, v) :: parts, (i', u) :: parts', cs, cs', vs, h, hm, hp, hone, hv, h1 => by
    simp only [List.map_cons, List.cons.injEq] at hm
    obtain ⟨hii, hm'⟩ := hm
    subst hii
    simp only [List.map_cons] at hp
    obtain ⟨u', us', he, hvu, hps⟩ := hp.inv
    simp only [List.cons.injEq] at he
    obtain ⟨rfl, rfl⟩ := he
    simp only [fillA] at h
    cases hpi : place i with
    | none => simp [hpi] at h
    | some p =>
      simp only [hpi] at h
      split at h
      · rename_i hc
        simp only [Bool.and_eq_true, beq_iff_eq] at hc
        obtain ⟨hlaid, hlen, hle⟩ := hc
        have hle' : p.1 + v.cells.length ≤ cs.length := Nat.le_of_ble_eq_true hle
        obtain ⟨us, huc, hus, hu1⟩ := hvu.laid hlaid hone
        have hul : us.length = p.2 := by rw [hus.1]; exact hlen
        have hsp := hv.splice hus p.1
        have h1' : ∀ x ∈ vs.take p.1 ++ us ++ vs.drop (p.1 + us.length), x.oneCell' = true := by
          intro x hx
          simp only [List.mem_append] at hx
          rcases hx with (hx | hx) | hx
          · exact h1 x (List.mem_of_mem_take hx)
          · exact hu1 x hx
          · exact h1 x (List.mem_of_mem_drop hx)
        obtain ⟨vs', hf, hv', h1''⟩ := fill_sound hpl parts parts' _ cs' _ h hm' hps hone hsp h1'
        refine ⟨vs', ?_, hv', h1''⟩
        have hfold := foldl_set p.1 us 0 vs.toArray (by simp; rw [hv.1, hus.1]; exact hle')
        simp only [Nat.add_zero] at hfold
        obtain ⟨p1, p2⟩ := p
        simp only [Instr.fill, hpl i _ hpi, huc]
        have hsz : us.toArray.size = p2 := by simpa using hul
        have hgt : ¬ (p1 + us.toArray.size > vs.toArray.size) := by simp; rw [hv.1, hus.1]; exact hle'
        simp only [hsz, ne_eq, not_true_eq_false, decide_false, Bool.false_or, decide_eq_true_eq]
        rw [hsz] at hgt
        rw [if_neg hgt]
        have hz : us.toArray.zipIdx.foldl (fun cs x => match x with | (c, j) => cs.setIfInBounds (p1 + j) c) vs.toArray = (vs.take p1 ++ us ++ vs.drop (p1 + us.length)).toArray := by
          rw [← hfold, ← Array.foldl_toList, Array.toList_zipIdx]
        rw [hz]
        exact hf
      · cases h

theorem places_some (fs : List Field) (h : fs.all (fun f => (P.info? f.type).isSome) = true) : fs.mapM (fun f => (P.info? f.type).map fun i => (f.offset, i.size)) = some (fs.map fun f => (f.offset, P.cellsOf f.type)) := by
  induction fs with
  | nil => rfl
  | cons f fs ih =>
    simp only [List.all_cons, Bool.and_eq_true] at h
    obtain ⟨i, hi⟩ := Option.isSome_iff_exists.1 h.1
    simp [List.mapM_cons, hi, ih h.2, Program.cellsOf]

theorem op_build (hR : Rel w S B β og st a) (hO : Out w0 S0 B w S) {t : TypeId} {parts : Array (Nat × Operand)} {cs cs' : List AV} (ho : o.op = .build t parts) (hz : zeroAV P t = some cs) (hk : partsKnown P t = true)
    (hf : fillA (placeOf P t) cs (parts.toList.map fun p => (p.1, valT P st.tm (partTypes P t p.1) p.2)) = some cs') (hy : y { v := .agg cs' } = some r) (hK : Good w0 S0 B site o st y r K) : o.wpR R P a w K Q := by
  obtain ⟨i, v, hi, hv, hl, rfl⟩ := zeroAV_spec hz
  obtain ⟨us, hc, hvs, h1⟩ := (ofVal_rel (w := w) (S := S) (β := β) (shOf P depth t) v).laid hl hR.one
  have hparts : VRels w S β ((parts.toList.map fun p => (p.1, valT P st.tm (partTypes P t p.1) p.2)).map (·.2)) ((parts.toList.map fun p => (p.1, a.eval p.2)).map (·.2)) := by
    refine ⟨by simp, fun j c u hc hu => ?_⟩
    simp only [List.map_map, List.getElem?_map] at hc hu
    cases hj : parts.toList[j]? with
    | none => simp [hj] at hc
    | some p => simp [hj] at hc hu; subst hc; subst hu; exact valT_rel hR.tm P _ _
  have hmap : (parts.map fun p => (p.1, a.eval p.2)) = (parts.toList.map fun p => (p.1, a.eval p.2)).toArray := by apply Array.ext'; simp
  unfold partsKnown at hk
  split at hk
  · rename_i fs hfs
    obtain ⟨vs', hfill, hvr, h1'⟩ := fill_sound (place := placeOf P t) (place' := fun x => Option.map (fun f => (f.offset, P.cellsOf f.type)) fs[x]?) (fun i p hp => by
      simp only [placeOf, hfs] at hp
      exact hp) _ _ _ cs' us hf (by simp) hparts hR.one hvs h1
    refine op_slot hR hO (.agg _ _ _ hvr.1 h1' hvr.2) hy hK ?_
    have hpl := run_places (P := P) w fs.toList _ (places_some fs.toList hk)
    simp only [execOp, ho, Instr.build, zeroValue, typeInfo, Sem.run_bind, run_program, Result.andThen_ok, hi, Sem.run_pure, hv, run_underlying hfs]
    simp only [Array.mapM_eq_mapM_toList, bind_pure_comp, hmap]
    simp [hpl, hc, hfill]
  · rename_i n e hfs
    obtain ⟨ie, hie⟩ := Option.isSome_iff_exists.1 hk
    obtain ⟨vs', hfill, hvr, h1'⟩ := fill_sound (place := placeOf P t) (place' := fun i => some (i * ie.size, ie.size)) (fun i p hp => by
      simp only [placeOf, hfs, Program.cellsOf, hie, Option.map_some, Option.getD_some] at hp
      exact hp) _ _ _ cs' us hf (by simp) hparts hR.one hvs h1
    refine op_slot hR hO (.agg _ _ _ hvr.1 h1' hvr.2) hy hK ?_
    simp only [execOp, ho, Instr.build, zeroValue, typeInfo, Sem.run_bind, run_program, Result.andThen_ok, hi, Sem.run_pure, hv, run_underlying hfs, sizeOf, hie, hmap]
    simp [hc, hfill]
  · cases hk

theorem nz_rel {w : World} {S : Nat → Prop} {β : Bet} {v : AV} {u : Value} (h : VRel w S β v u) : VRel w S β v.nz u := by
  have hL : ∀ (cs : List AV) (j : Nat) (c : AV), (AV.nzs cs)[j]? = some c → ∃ c', cs[j]? = some c' ∧ c = c'.nz := by
    intro cs
    induction cs with
    | nil => intro j c hc; simp [AV.nzs] at hc
    | cons x cs ih =>
      intro j c hc
      cases j with
      | zero => simp [AV.nzs] at hc; exact ⟨x, rfl, hc.symm⟩
      | succ j => simp only [AV.nzs, List.getElem?_cons_succ] at hc; obtain ⟨c', h1, h2⟩ := ih j c hc; exact ⟨c', by simpa using h1, h2⟩
  have hlen : ∀ cs : List AV, (AV.nzs cs).length = cs.length := by
    intro cs
    induction cs with
    | nil => rfl
    | cons x cs ih => simp [AV.nzs, ih]
  induction h with
  | agg β cs vs hl h1 _ ih =>
    refine .agg _ _ vs (by rw [hlen]; exact hl) h1 fun j c u hc hu => ?_
    obtain ⟨c', hc', rfl⟩ := hL cs j c hc
    exact ih j c' u hc' hu
  | tup β cs vs hl _ ih =>
    refine .tup _ _ vs (by rw [hlen]; exact hl) fun j c u hc hu => ?_
    obtain ⟨c', hc', rfl⟩ := hL cs j c hc
    exact ih j c' u hc' hu
  | slz β s A => exact .slv _ s [] A 0 default [] (by simp) (by simp) (by decide) (fun h => absurd rfl h) (by simp [flat]) (by simp) (by simp) (by simp [flat])
  | unk β v => exact .unk _ v
  | undef => exact .undef _
  | int β k n => exact .int _ k n
  | bool β b => exact .bool _ b
  | ubool β b => exact .ubool _ b
  | str β s => exact .str _ s
  | slv β s es A c a xs hs hc hm hA hl h1 hx hh _ => exact .slv _ s es A c a xs hs hc hm hA hl h1 hx hh
  | eref β s es i off a xs hi hs hSa hl h1 hx hh _ => exact .eref _ s es i off a xs hi hs hSa hl h1 hx hh
  | ref β cs a xs hSa hl h1 hx hh _ => exact .ref _ cs a xs hSa hl h1 hx hh
  | ptr β id off g wd hbt => exact .ptr _ id off g wd hbt
  | eptr β id i off g n c wd hbt => exact .eptr _ id i off g n c wd hbt
  | own β id v wd hbt => exact .own _ id v wd hbt
  | sub β id lo len A n c wd hbt => exact .sub _ id lo len A n c wd hbt
  | fn β f cs vs hl hh _ => exact .fn _ f cs vs hl hh
theorem nzs_rel {w : World} {S : Nat → Prop} {β : Bet} : ∀ {cs : List AV} {vs : List Value}, VRels w S β cs vs → VRels w S β (AV.nzs cs) vs
  | [], vs, h => by rw [h.inv_nil]; exact VRels.nil
  | c :: cs, vs, h => by
    obtain ⟨u, us, rfl, hu, hs⟩ := h.inv
    exact VRels.cons (nz_rel hu) (nzs_rel hs)

/-! ### Calls -/
/-- A call: of the program's text, or one that the model answers itself. -/
def Goes (P : Program) (f : FuncId) (args : Array Value) (w : World) (R : Ending → World → Prop) : Prop :=
  (hasBody P f = true ∧ Calls P f args w R) ∨ (hasBody P f = false ∧ ∃ u w', (callFunc f args).run P w = .ok (.value u) w' ∧ R (.returned u) w')
theorem Goes.calls {P : Program} {f : FuncId} {args : Array Value} {w : World} {R : Ending → World → Prop} (h : Goes P f args w R) (hb : hasBody P f = true) : Calls P f args w R := by
  rcases h with h | h
  · exact h.2
  · rw [hb] at h; cases h.1
theorem Goes.of {P : Program} {f : FuncId} {fn : Func} {c : Code} {args : Array Value} {w : World} {R : Ending → World → Prop} (hfn : P.funcs[f]? = some fn) (hb : fn.body = some c) (h : Calls P f args w R) : Goes P f args w R :=
  .inl ⟨by simp [hasBody, hfn, hb], h⟩
theorem CallsIn.at {R0 : Option Nat} {n : Nat} {P : Program} {f : FuncId} {args : Array Value} {w : World} {R : Ending → World → Prop} (h : CallsIn Fence.wide n P f args w R) : CallsIn (fen R0) n P f args w R := h
/-- How an operation that calls goes on. -/
theorem Goes.wp {R0 : Option Nat} {P : Program} {a : Act} {o : Oper} {w : World} {K : Act → World → Prop} {Q : Exit → Act → World → Prop} {f : FuncId} {args : Array Value} {R : Ending → World → Prop} (hen : entersB P f = true) (h : Goes P f args w R)
    (he : ∀ s, (callFunc f args).run P w = s → (execOp a.eval o).run P w = s) (hR : ∀ e w', R e w' → ∃ u, e = .returned u ∧ K (a.put o.dst u) w') : o.wpR R0 P a w K Q := by
  refine ⟨fun _ _ => trivial, ?_⟩
  rcases h with ⟨hb, h⟩ | ⟨hb, u, w', hrun, hq⟩
  · unfold hasBody at hb
    unfold entersB at hen
    cases hfn : P.funcs[f]? with
    | none => rw [hfn] at hb; cases hb
    | some fn =>
      simp only [hfn, Bool.not_eq_true'] at hen hb
      have hnone : fn.body.isNone = false := by cases hbb : fn.body <;> simp_all
      rw [semAt_of (he (.ok (.enter f args) w) (by
        simp only [callFunc, Sem.run_bind, run_program, Result.andThen_ok, hfn]
        simp [hen, hnone])) (fun _ _ h => by cases h) (fun _ _ h => by cases h), Oper.uponIn_enter]
      refine ⟨fun h => (by cases h), CallsIn.mono (CallsIn.at (callsIn_wide.2 h)) fun e w' hq => ?_⟩
      obtain ⟨u, rfl, hk⟩ := hR e w' hq
      exact hk
  · rw [semAt_of (he _ hrun) (fun _ _ h => by cases h) (fun _ _ h => by cases h), Oper.uponIn_value]
    obtain ⟨u', hu, hk⟩ := hR _ _ hq
    cases hu
    exact hk
def SumOK (P : Program) (f : FuncId) (F : Summ) : Prop :=
  ∀ (ρ : Type) (w : World) (S : Nat → Prop) (avs : List AV) (args : List Value) (k : AV → Option ρ) (r : ρ), (∀ b, S b → b < w.heap.size) ∧ Glb (fun b => b < w.heap.size) w → VRels w S nob avs args → F ρ avs k = some r →
    Goes P f args.toArray w fun e w' => ∃ u v S', e = .returned u ∧ k v = some r ∧ Below w.heap.size w w' ∧ (∀ b, S' b → S b ∨ w.heap.size ≤ b) ∧ (∀ b, S' b → b < w'.heap.size) ∧ VRel w' S' nob v u
def SNat (F : Summ) : Prop := ∀ (ρ : Type) (avs : List AV) (k : AV → Option ρ), F ρ avs k = (F AV avs some).bind k

theorem flat_free {w w' : World} {S S' : Nat → Prop} {β β' : Bet} {v : AV} {u : Value} (h : VRel w S β v u) : v.flat = true → VRel w' S' β' v u := by
  induction h with
  | unk => intro h; simp [AV.flat] at h
  | undef => intro _; exact .undef _
  | int _ k n => intro _; exact .int _ k n
  | bool _ b => intro _; exact .bool _ b
  | ubool => intro h; simp [AV.flat] at h
  | str _ s => intro _; exact .str _ s
  | agg _ cs vs hl h1 _ ih =>
    intro h
    have hf : ∀ (l : List AV), AV.flats l = true → ∀ c ∈ l, c.flat = true := by
      intro l
      induction l with
      | nil => simp
      | cons c l ih => intro h c' hc'; simp [AV.flats] at h; rcases List.mem_cons.1 hc' with rfl | h'; exact h.1; exact ih h.2 c' h'
    have hfl : AV.flats cs = true := h
    exact .agg _ cs vs hl h1 fun j c u hc hu => ih j c u hc hu (hf cs hfl c (List.mem_of_getElem? hc))
  | tup _ cs vs hl _ ih =>
    intro h
    have hf : ∀ (l : List AV), AV.flats l = true → ∀ c ∈ l, c.flat = true := by
      intro l
      induction l with
      | nil => simp
      | cons c l ih => intro h c' hc'; simp [AV.flats] at h; rcases List.mem_cons.1 hc' with rfl | h'; exact h.1; exact ih h.2 c' h'
    have hfl : AV.flats cs = true := h
    exact .tup _ cs vs hl fun j c u hc hu => ih j c u hc hu (hf cs hfl c (List.mem_of_getElem? hc))
  | slv => intro h; simp [AV.flat] at h
  | slz => intro h; simp [AV.flat] at h
  | eref => intro h; simp [AV.flat] at h
  | ref => intro h; simp [AV.flat] at h
  | ptr => intro h; simp [AV.flat] at h
  | eptr => intro h; simp [AV.flat] at h
  | own => intro h; simp [AV.flat] at h
  | sub => intro h; simp [AV.flat] at h
  | fn => intro h; simp [AV.flat] at h

theorem op_call (hR : Rel w S B β og st a) (hO : Out w0 S0 B w S) {rowsV : List (Nat × Row)} (hsub : ∀ id x, lookup rowsV id = some x → lookup st.rows id = some x) {f : Operand} {args : Array Operand} {ts : Array TypeId} {g : Nat} {caps pargs : List AV} {ids : List Nat} {F : Summ}
    (ho : o.op = .call { callee := .value f, args := args, argTypes := ts }) (hf : val st.tm f = .fn g caps) (hp : purL (pur1 rowsV depth) (valsT P st.tm ts.toList args.toList ++ caps) = some (pargs, ids)) (hF : SumOK P g F) (hen : entersB P g = true)
    (hy : F ρ (AV.nzs pargs) (fun v => y { v, imm := if v.flat then [] else ids }) = some r) (hK : Good w0 S0 B site o st y r K) : o.wpR R P a w K Q := by
  have hrow : ∀ id x, lookup rowsV id = some x → RowRel w S B β id (og id) x := fun id x hx => hR.row id x (hsub _ _ hx)
  have hfv := val_rel hR.tm f
  rw [hf] at hfv
  generalize hfe : a.eval f = fv at hfv
  cases hfv with
  | fn _ _ _ cvs hcl hch =>
    have hargs := (valsT_rel hR.tm P ts.toList args.toList).append (VRels.mono (w' := w) (S' := S) (β' := β) ⟨hcl, hch⟩ (fun _ h => h) (fun _ _ => rfl) (fun _ _ h => h))
    have hpa := purL_sound (w := w) (S := S) (β := β) (og := og) (f := pur1 rowsV depth) (pur1_sound hrow depth) _ _ _ hp hargs
    have hin : ∀ id ∈ ids, ∃ r, lookup st.rows id = some r := fun id hid => by obtain ⟨r, hr⟩ := purL_in (rows := rowsV) (pur1_in depth) _ _ hp id hid; exact ⟨r, hsub _ _ hr⟩
    have hFr := hR.freeze ids
    have hOF := hO.freeze hR ids hin
    have hC := hF ρ w (With S og ids) (AV.nzs pargs) _ _ r ⟨hFr.Slt, hO.bel.here.mono hR.Ble⟩ (nzs_rel hpa) hy
    have hmap : (args.map a.eval) ++ cvs.toArray = (args.toList.map a.eval ++ cvs).toArray := by apply Array.ext'; simp
    have hrun : ∀ s, (callFunc g (args.toList.map a.eval ++ cvs).toArray).run P w = s → (execOp a.eval o).run P w = s := fun s hcf => by
      simp only [execOp, ho, resolve, hfe, Deferred.ofValue]
      simp only [pure_bind, invoke, Array.empty_append, hmap]
      exact hcf
    refine hC.wp hen hrun fun e w' hpost => ?_
    obtain ⟨v, av, S', rfl, hy, hbel, hS', hlt, hv⟩ := hpost
    refine ⟨v, rfl, ?_⟩
    · by_cases hflat : av.flat = true
      · have hG := hR.grow hbel (S' := S) (fun _ h => h) (fun _ _ h => h) (fun b hs => Nat.lt_of_lt_of_le (hR.Slt b hs) hbel.size)
        simp only [hflat, if_true] at hy
        exact hK _ _ _ hy ⟨S, β, og, hG.put o.dst (flat_free hv hflat), hO.grow hR.Ble hbel⟩
      · simp only [hflat] at hy
        have hG := hFr.grow hbel (S' := fun b => With S og ids b ∨ S' b) (fun _ h => .inl h) (fun b hb h => h.elim id fun h => (hS' b h).elim id fun h => absurd hb (by omega)) (fun b hs => hs.elim (fun h => Nat.lt_of_lt_of_le (hFr.Slt b h) hbel.size) (hlt b))
        have hG2 := hG.put o.dst (v := av) (u := v) (hv.mono (fun _ h => .inr h) (fun _ _ => rfl) (fun _ _ h => by cases h))
        have happ : apply site o.dst { v := av, imm := ids } st = ⟨putTm st.tm o.dst av, setImm ids st.rows, st.used⟩ := by
          simp only [apply, applyRows, List.foldl_nil, List.map_nil, List.nil_append]
          cases ids with
          | nil => rw [setImm_nil]
          | cons i is => rfl
        refine hK _ _ _ hy ⟨_, β, og, by rw [show (if false = true then ([] : List Nat) else ids) = ids from rfl, happ]; exact hG2, ?_⟩
        have hOG := hOF.grow hR.Ble hbel
        exact ⟨hOG.bel, fun b hb => hb.elim (hOG.sin b) fun h => (hS' b h).elim (hOG.sin b) fun h => .inr (fun hB => Nat.lt_irrefl _ (Nat.lt_of_lt_of_le (hR.Ble b hB) h)), fun b hb => .inl (hOG.sub b hb)⟩

end ops
end Go.Ev
