/-
  The operations, fourth part: len, min, max, append, literals, stores.
-/
import Derived.Test.YtpgaobdgohlegaaEvH
namespace Go.Ev
open Go.RowKit

section ops
variable {ρ : Type} {P : Program} {w0 w : World} {S0 S : Nat → Prop} {B : Ctx} {β : Bet} {og : Nat → Option Nat} {st : St} {a : Act} {o : Oper} {site : Nat} {y : Eff → Option ρ} {r : ρ}
  {K : Act → World → Prop} {Q : Exit → Act → World → Prop}

theorem size_mk (s : List UInt8) : (ByteArray.mk s.toArray).size = s.length := by simp [ByteArray.size]

theorem map_eval (args : Array Operand) (us : List Value) (h : args.toList.map a.eval = us) : args.map a.eval = us.toArray := by
  apply Array.ext'
  simpa using h

theorem minInt_sound {k : IntKind} : ∀ (rest : List AV) (us : List Value) (x n : Int), minInt k x rest = some n → VRels w S β rest us → (us.foldlM Builtin.min2 (.int k x)).run P w = .ok (.int k n) w
  | [], us, x, n, h, hv => by simp [minInt] at h; rw [hv.inv_nil]; simp [h]
  | c :: rest, us, x, n, h, hv => by
    obtain ⟨u, us', rfl, hu, hs⟩ := hv.inv
    cases c <;> simp only [minInt] at h <;> try (cases h)
    rename_i k' m
    split at h
    · rename_i hk
      subst hk
      rw [hu.int_inv]
      have ih := minInt_sound rest us' _ n h hs
      simp only [List.foldlM_cons, Builtin.min2, pure_bind]
      exact ih
    · cases h
theorem maxInt_sound {k : IntKind} : ∀ (rest : List AV) (us : List Value) (x n : Int), maxInt k x rest = some n → VRels w S β rest us → (us.foldlM Builtin.max2 (.int k x)).run P w = .ok (.int k n) w
  | [], us, x, n, h, hv => by simp [maxInt] at h; rw [hv.inv_nil]; simp [h]
  | c :: rest, us, x, n, h, hv => by
    obtain ⟨u, us', rfl, hu, hs⟩ := hv.inv
    cases c <;> simp only [maxInt] at h <;> try (cases h)
    rename_i k' m
    split at h
    · rename_i hk
      subst hk
      rw [hu.int_inv]
      have ih := maxInt_sound rest us' _ n h hs
      simp only [List.foldlM_cons, Builtin.max2, pure_bind]
      exact ih
    · cases h

/-- What an argument of len or append holds. -/
theorem elems_sound (hR : Rel w S B β og st a) {rowsV : List (Nat × Row)} (hsub : ∀ id x, lookup rowsV id = some x → lookup st.rows id = some x) {z : AV} {s : Sh} {es : List AV} (h : elemsOf rowsV z = some (s, es)) {u : Value} (hv : VRel w S β z u) :
    ∃ (A : Option Addr) (c : Nat) (ad : Addr) (xs : List Value), u = .slice A es.length c ∧ (∀ e ∈ es, hasSh s e = true) ∧ (es ≠ [] → A = some ad) ∧ VRels w S nob (flat es) xs ∧ (∀ u ∈ xs, u.oneCell' = true) ∧
      (∀ (j : Nat) (u : Value), xs[j]? = some u → w.cell? (ad.add j) = some u) ∧ es.length ≤ maxLen := by
  cases z <;> simp only [elemsOf] at h <;> try (cases h)
  · obtain ⟨A, c, ad, xs, rfl, hs, hc, hm, hA, hvs, h1, hx⟩ := hv.slv_inv
    exact ⟨A, c, ad, xs, rfl, hs, fun hne => (hA hne).1, hvs, h1, hx, by omega⟩
  · cases hv with
    | slz _ _ A => exact ⟨A, 0, default, [], rfl, by simp, fun h => absurd rfl h, VRels.nil, by simp, by simp, by simp⟩
  · rename_i id
    split at h
    · rename_i im s' e es' csp hl
      cases h
      obtain ⟨hp, hsh, v, xs, hbt, h1, hvs, hor⟩ := (hR.row id _ (hsub _ _ hl)).arr_old
      cases hv with
      | own _ _ v' wd hb' =>
        rw [hbt] at hb'
        simp only [Option.some.injEq, Prod.mk.injEq] at hb'
        obtain ⟨rfl, rfl⟩ := hb'
        rcases hor with ⟨he0, _, A, rfl⟩ | ⟨g, cap, cur, hog, rfl, _, hh, hc, hm, _, htk, _⟩
        · subst he0
          exact ⟨A, 0, default, xs, rfl, by simp, fun h => absurd rfl h, hvs, h1, fun j u hu => by
            have : xs = [] := by have := hvs.1; simpa [flat] using this
            subst this
            simp at hu, by simp⟩
        · refine ⟨_, cap, ⟨g, 0, none⟩, xs, rfl, hsh, fun _ => rfl, hvs, h1, fun j u hu => ?_, by omega⟩
          rw [add_lit, row_cell hh]
          rw [← htk, List.getElem?_take] at hu
          split at hu
          · simpa using hu
          · cases hu
    · cases h
  · rename_i id lo n
    split at h
    · rename_i im s' e es' csp hl
      split at h
      · rename_i hle
        cases h
        obtain ⟨hp, hsh, v, xs, hbt, h1, hvs, hor⟩ := (hR.row id _ (hsub _ _ hl)).arr_old
        have hlen : ((es'.drop lo).take n).length = n := by simp; omega
        have hfl : flat ((es'.drop lo).take n) = ((flat es').drop (lo * s.width)).take (n * s.width) := by
          rw [flat_take (s := s) _ _ (fun x hx => hsh x (List.mem_of_mem_drop hx)), flat_drop es' lo hsh]
        have hvv := (hvs.drop (lo * s.width)).take (n * s.width)
        rw [← hfl] at hvv
        have hs' : ∀ e ∈ (es'.drop lo).take n, hasSh s e = true := fun e he => hsh e (List.mem_of_mem_drop (List.mem_of_mem_take he))
        have h1' : ∀ u ∈ (xs.drop (lo * s.width)).take (n * s.width), u.oneCell' = true := fun u hu => h1 u (List.mem_of_mem_drop (List.mem_of_mem_take hu))
        cases hv with
        | sub _ _ _ _ A m c wd hb' =>
          rw [hbt] at hb'
          simp only [Option.some.injEq, Prod.mk.injEq] at hb'
          obtain ⟨rfl, rfl⟩ := hb'
          rcases hor with ⟨he0, _, A', hA'⟩ | ⟨g, cap, cur, hog, hvv', _, hh, hc, hm, _, htk, _⟩
          · subst he0
            simp at hle
            obtain ⟨rfl, rfl⟩ := hle
            refine ⟨_, _, default, _, by rw [hlen], hs', fun h => absurd (by simp) h, hvv, h1', fun j u hu => ?_, by simp⟩
            simp at hu
          · cases hvv'
            refine ⟨_, _, ⟨g, lo * s.width, none⟩, _, by rw [hlen], hs', fun hne => ?_, hvv, h1', fun j u hu => ?_, by rw [hlen]; omega⟩
            · have hn : n ≠ 0 := by rintro rfl; simp at hne
              rw [if_neg (by omega)]
              simp [add_lit']
            · rw [List.getElem?_take] at hu
              split at hu
              · rw [List.getElem?_drop] at hu
                rw [add_lit', row_cell hh]
                rw [← htk, List.getElem?_take] at hu
                split at hu
                · simpa using hu
                · cases hu
              · cases hu
      · cases h
    · cases h

theorem op_len (hR : Rel w S B β og st a) (hO : Out w0 S0 B w S) {rowsV : List (Nat × Row)} (hsub : ∀ id x, lookup rowsV id = some x → lookup st.rows id = some x) {args : Array Operand} {ts : Array TypeId} {t : TypeId} {tr : List TypeId} {x : AV}
    (ho : o.op = .call { callee := .builtin .len, args := args, argTypes := ts }) (hts : ts.toList = t :: tr) (hx : valsT P st.tm ts.toList args.toList = [x])
    (h : evLen P rowsV t x y = some r) (hK : Good w0 S0 B site o st y r K) : o.wp P a w K Q := by
  have hv := valsT_rel hR.tm P ts.toList args.toList
  rw [hx] at hv
  obtain ⟨u, us, he, hu, hn⟩ := hv.inv
  rw [hn.inv_nil] at he
  have hm := map_eval args _ he
  have ht0 : ts[0]? = some t := by rw [← Array.getElem?_toList, hts]; rfl
  unfold evLen at h
  split at h
  · rename_i ht
    split at h
    · refine op_slot hR hO (.int _ _ _) h hK ?_
      simp [execOp, ho, resolve, invoke, builtin, hm, Builtin.len_, ht0, run_underlying ht, hu.str_inv, goInt, size_mk]
    · cases h
  · rename_i e ht
    split at h
    · rename_i s es hel
      obtain ⟨A, c, ad, xs, rfl, _⟩ := elems_sound hR hsub hel hu
      refine op_slot hR hO (.int _ _ _) h hK ?_
      simp [execOp, ho, resolve, invoke, builtin, hm, Builtin.len_, ht0, run_underlying ht, goInt]
    · cases h
  · cases h

theorem op_min (hR : Rel w S B β og st a) (hO : Out w0 S0 B w S) {args : Array Operand} {ts : Array TypeId} {k : IntKind} {x n : Int} {rest : List AV}
    (ho : o.op = .call { callee := .builtin .min, args := args, argTypes := ts }) (hx : valsT P st.tm ts.toList args.toList = .int k x :: rest) (hn : minInt k x rest = some n)
    (hy : y { v := .int k n } = some r) (hK : Good w0 S0 B site o st y r K) : o.wp P a w K Q := by
  have hv := valsT_rel hR.tm P ts.toList args.toList
  rw [hx] at hv
  obtain ⟨u, us, he, hu, hs⟩ := hv.inv
  have hm := map_eval args _ he
  refine op_slot hR hO (.int _ _ _) hy hK ?_
  have := minInt_sound (P := P) rest us x n hn hs
  simp [execOp, ho, resolve, invoke, builtin, hm, Builtin.min_, hu.int_inv, this]
theorem op_max (hR : Rel w S B β og st a) (hO : Out w0 S0 B w S) {args : Array Operand} {ts : Array TypeId} {k : IntKind} {x n : Int} {rest : List AV}
    (ho : o.op = .call { callee := .builtin .max, args := args, argTypes := ts }) (hx : valsT P st.tm ts.toList args.toList = .int k x :: rest) (hn : maxInt k x rest = some n)
    (hy : y { v := .int k n } = some r) (hK : Good w0 S0 B site o st y r K) : o.wp P a w K Q := by
  have hv := valsT_rel hR.tm P ts.toList args.toList
  rw [hx] at hv
  obtain ⟨u, us, he, hu, hs⟩ := hv.inv
  have hm := map_eval args _ he
  refine op_slot hR hO (.int _ _ _) hy hK ?_
  have := maxInt_sound (P := P) rest us x n hn hs
  simp [execOp, ho, resolve, invoke, builtin, hm, Builtin.max_, hu.int_inv, this]

/-! ### append -/
theorem elemOK_spec {e : TypeId} (h : elemOK P e = true) : ∃ i z, P.info? e = some i ∧ i.zero = some z ∧ i.size = (shOf P depth e).width ∧ 0 < i.size ∧ z.cells.size = i.size ∧ i.bytes = P.bytesOf e ∧
    ∃ zc, zeroAV P e = some zc ∧ hass (shOf P depth e).cells zc = true := by
  unfold elemOK at h
  cases hi : P.info? e with
  | none => simp [hi] at h
  | some i =>
    simp only [hi, Bool.and_eq_true, beq_iff_eq] at h
    obtain ⟨h1, h2, h3, h4⟩ := h
    cases hz : i.zero with
    | none => simp [hz] at h3
    | some z =>
      simp only [hz, beq_iff_eq] at h3
      cases hza : zeroAV P e with
      | none => simp [hza] at h4
      | some zc =>
        simp only [hza] at h4
        exact ⟨i, z, rfl, hz, h1, Nat.blt_eq ▸ h2, h3, by simp [Program.bytesOf, hi], zc, rfl, h4⟩

theorem range_rep {α : Type} (zs : List α) (d : α) (n : Nat) (hn : zs.length = n) (hpos : 0 < n) : ∀ len : Nat, (List.range (len * n)).map (fun j => zs.getD (j % n) d) = (List.replicate len zs).flatten
  | 0 => by simp
  | len + 1 => by
    have ih := range_rep zs d n hn hpos len
    rw [Nat.add_mul, Nat.one_mul, Nat.add_comm, List.range_add, List.map_append, List.replicate_succ, List.flatten_cons]
    congr 1
    · apply List.ext_getElem?
      intro j
      simp only [List.getElem?_map]
      by_cases hj : j < n
      · simp [List.getElem?_range hj, Nat.mod_eq_of_lt hj, List.getD, List.getElem?_eq_getElem (show j < zs.length by omega)]
      · simp [List.getElem?_eq_none (show (List.range n).length ≤ j by simp; omega), List.getElem?_eq_none (show zs.length ≤ j by omega)]
    · rw [← ih, List.map_map]
      apply List.map_congr_left
      intro j _
      simp

theorem VRels.rep {cs : List AV} {vs : List Value} (h : VRels w S β cs vs) : ∀ len : Nat, VRels w S β (List.replicate len cs).flatten (List.replicate len vs).flatten
  | 0 => by simpa using VRels.nil
  | len + 1 => by
    rw [List.replicate_succ, List.replicate_succ, List.flatten_cons, List.flatten_cons]
    exact h.append (VRels.rep h len)

theorem ofCell_cells (s : Sh) (v : Value) : (ofCell s v).cells = [ofCell s v] := by
  unfold ofCell
  split <;> first | rfl | (split <;> rfl)
theorem ofCells_cells : ∀ (l : List Sh) (vs : List Value), ∀ c ∈ ofCells l vs, c.cells = [c]
  | _, [], c, hc => by simp [ofCells] at hc
  | l, v :: vs, c, hc => by
    simp only [ofCells, List.mem_cons] at hc
    rcases hc with rfl | hc
    · exact ofCell_cells _ _
    · exact ofCells_cells _ vs c hc
theorem ofVal_cells (s : Sh) (v : Value) : ∀ c ∈ (ofVal s v).cells, c.cells = [c] := by
  intro c hc
  unfold ofVal at hc
  split at hc
  · split at hc
    · exact ofCells_cells _ _ c hc
    · simp [AV.cells] at hc; subst hc; rfl
  · split at hc
    · simp [AV.cells] at hc; subst hc; rfl
    · simp [AV.cells] at hc; subst hc; rfl
  · rw [ofCell_cells] at hc
    simp at hc
    subst hc
    exact ofCell_cells _ _

theorem mkAV_zero {s : Sh} {z : List AV} (hl : z.length = s.width) (h1 : ∀ c ∈ z, c.cells = [c]) : (mkAV s z).cells = z := by
  cases s with
  | agg l => rfl
  | _ =>
    match z, hl with
    | [c], _ => exact h1 c (by simp)


theorem mkAV_of {s : Sh} {avs : List AV} (h : hass s.cells avs = true) : (mkAV s avs).cells = avs ∧ hasSh s (mkAV s avs) = true := by
  have one : ∀ s : Sh, s.cells = [s] → (∀ c, hasSh s c = has1 s c) → (mkAV s avs = avs.headD .unk) → hass s.cells avs = true → (mkAV s avs).cells = avs ∧ hasSh s (mkAV s avs) = true := by
    intro s e1 e2 e3 h
    rw [e1] at h
    cases avs with
    | nil => simp [hass] at h
    | cons c cs =>
      cases cs with
      | cons => simp [hass] at h
      | nil =>
        simp only [hass, Bool.and_true] at h
        rw [e3, e2]
        exact ⟨(has1_cells s c h).1, h⟩
  cases s with
  | agg l => exact ⟨rfl, h⟩
  | int k => exact one (.int k) rfl (fun _ => rfl) rfl h
  | bool => exact one .bool rfl (fun _ => rfl) rfl h
  | str => exact one .str rfl (fun _ => rfl) rfl h
  | slice s => exact one (.slice s) rfl (fun _ => rfl) rfl h
  | other => exact one .other rfl (fun _ => rfl) rfl h
theorem zeros_rel {e : TypeId} {i : TypeInfo} {zz : Value} {zc : List AV} (hi : P.info? e = some i) (hzz : i.zero = some zz) (hzs : zz.cells.size = i.size) (hpos : 0 < i.size) (hza : zeroAV P e = some zc) (hh : hass (shOf P depth e).cells zc = true) (w : World) (S : Nat → Prop) (β : Bet) (k : Nat) :
    hasSh (shOf P depth e) (zeroE P e) = true ∧ VRels w S β (flat (List.replicate k (zeroE P e))) (Builtin.zeroCells zz.cells k).toList ∧ ∀ u ∈ (Builtin.zeroCells zz.cells k).toList, u.oneCell' = true := by
  obtain ⟨i', v, hi', hv, hl, hzc⟩ := zeroAV_spec hza
  rw [hi] at hi'
  cases hi'
  rw [hzz] at hv
  cases hv
  obtain ⟨zs, hcz, hzvs, hz1⟩ := (ofVal_rel (w := w) (S := S) (β := nob) (shOf P depth e) zz).laid hl (fun _ _ h => by cases h)
  obtain ⟨m1, m2⟩ := mkAV_of hh
  have hzl : zs.length = i.size := by rw [← hzs, hcz]; simp
  have hzl2 : (Builtin.zeroCells zz.cells k).toList = (List.replicate k zs).flatten := by
    have hr := range_rep zs (default : Value) i.size hzl hpos k
    rw [← hr]
    unfold Builtin.zeroCells
    rw [hcz]
    simp only [List.size_toArray, hzl, Array.toList_map, Array.toList_range]
    apply List.map_congr_left
    intro j _
    have hlt : j % i.size < zs.length := by rw [hzl]; exact Nat.mod_lt _ hpos
    simp [List.getD, List.getElem?_eq_getElem hlt, getElem!_pos zs.toArray (j % i.size) (by simpa using hlt)]
  have hfl : flat (List.replicate k (zeroE P e)) = (List.replicate k zc).flatten := by
    simp [flat, List.flatMap_replicate, zeroE, hza, m1]
  refine ⟨by simpa [zeroE, hza] using m2, ?_, ?_⟩
  · rw [hfl, hzl2, hzc]
    exact (hzvs.mono (fun _ h => h) (fun _ _ => rfl) (fun _ _ h => by cases h)).rep k
  · intro u hu
    rw [hzl2] at hu
    obtain ⟨l, hl, hul⟩ := List.mem_flatten.1 hu
    rw [(List.mem_replicate.1 hl).2] at hul
    exact hz1 u hul

/-- A slice's new array, with zero values behind its elements. -/
theorem rowrel_new (hSlt : ∀ b, S b → b < w.heap.size) (hBlt : ∀ b, B b → b < w.heap.size) {e : TypeId} {i : TypeInfo} {zz : Value} {zc : List AV} (hi : P.info? e = some i) (hzz : i.zero = some zz) (hzs : zz.cells.size = i.size) (hpos : 0 < i.size) (hiw : i.size = (shOf P depth e).width)
    (hza : zeroAV P e = some zc) (hh : hass (shOf P depth e).cells zc = true) {s : Sh} (hse : s = shOf P depth e) {es : List AV} {xs : List Value} (hsh : ∀ x ∈ es, hasSh s x = true) (hvs : VRels w S nob (flat es) xs) (h1 : ∀ u ∈ xs, u.oneCell' = true) {cap : Nat} (hc : es.length ≤ cap) (hm : cap ≤ maxLen)
    {w1 : World} (hw1 : w1.heap = w.heap) {β' : Bet} {id : Nat} (hβ : β' id = some (.slice (some ⟨w.heap.size, 0, none⟩) es.length cap, s.width)) :
    RowRel (w1.alloc (.cells (xs.toArray ++ Builtin.zeroCells zz.cells (cap - es.length)) e)) S B β' id (some w.heap.size) (.arr false s e es none) := by
  have hb := below_alloc w1 (.cells (xs.toArray ++ Builtin.zeroCells zz.cells (cap - es.length)) e)
  rw [hw1] at hb
  obtain ⟨z1, z2, z3⟩ := zeros_rel (P := P) hi hzz hzs hpos hza hh (w1.alloc (.cells (xs.toArray ++ Builtin.zeroCells zz.cells (cap - es.length)) e)) S nob (cap - es.length)
  have hx : (xs.toArray ++ Builtin.zeroCells zz.cells (cap - es.length)) = (xs ++ (Builtin.zeroCells zz.cells (cap - es.length)).toList).toArray := by apply Array.ext'; simp
  refine ⟨by rw [hse, ← hiw]; exact hpos, _, List.replicate (cap - es.length) (zeroE P e), xs ++ (Builtin.zeroCells zz.cells (cap - es.length)).toList, ?_, (fun c h => by cases h), hβ, ?_, ?_, .inr ⟨w.heap.size, rfl, ?_, fun h => Nat.lt_irrefl _ (hBlt _ h), ?_, ?_, fun _ hs => absurd (hSlt _ hs) (Nat.lt_irrefl _), (fun h => by cases h)⟩⟩
  · intro x hx
    rcases List.mem_append.1 hx with h | h
    · exact hsh x h
    · rw [(List.mem_replicate.1 h).2, hse]; exact z1
  · intro u hu
    rcases List.mem_append.1 hu with h | h
    · exact h1 u h
    · exact z3 u h
  · rw [flat_append]
    exact (hvs.mono (fun _ h => h) (fun b hs => by rw [hb.block b (hSlt b hs), hw1]) (fun _ _ h => h)).append z2
  · simp only [List.length_replicate]; congr 1; omega
  · have := heap_alloc_new w1 (.cells (xs.toArray ++ Builtin.zeroCells zz.cells (cap - es.length)) e)
    rw [hw1] at this
    rw [this, hx]
  · simp only [List.length_replicate]; omega

theorem roomB_spec {n b : Nat} (h : roomB n b = true) : n * b ≤ 140737488355328 ∧ n ≤ 4611686018427387904 := by
  simpa [roomB] using h

/-- The model's append onto a slice without room. -/
theorem run_append_cap0 (t ty e : TypeId) (i : TypeInfo) (z : Value) (ht : P.underlying t = some (.slice e)) (hi : P.info? e = some i) (hz : i.zero = some z) (A : Option Addr)
    (ad : Addr) (n c : Nat) (news : List Value) (hl : news.length = n * i.size) (hnews : ∀ (j : Nat) (v : Value), news[j]? = some v → w.cell? (ad.add j) = some v)
    (h0 : 0 < n) (h63 : (n : Int) ≤ 9223372036854775807) (h48 : n * i.bytes ≤ 140737488355328) :
    (Builtin.append_ #[t, t] ty #[.slice A 0 0, .slice (some ad) n c]).run P w =
      .ok (.slice (some ⟨w.heap.size, 0, none⟩) n (grownCap w n 0 e)) (w.drew.alloc (.cells (news.toArray ++ Builtin.zeroCells z.cells (grownCap w n 0 e - n)) e)) := by
  cases A with
  | none => exact run_append_nil w t ty e i z ht hi hz ad n c news hl hnews h0 h63 (by omega)
  | some b =>
    have := run_append_grow (P := P) w t ty e i z ht hi hz b 0 0 [] (by simp) (by simp) ad n c news hl hnews (by omega) (by simpa using h63) (by
      rw [Nat.zero_add, nextslicecap_zero h0]; omega)
    simpa using this

theorem below_drew_alloc (w : World) (x : Obj) : Below w.heap.size w (w.drew.alloc x) := ((Below.refl _ _).drew).alloc (Nat.le_refl _) x

/-- append onto a slice without room. -/
theorem op_append_new (hR : Rel w S B β og st a) (hO : Out w0 S0 B w S) {rowsV : List (Nat × Row)} (hsub : ∀ id x, lookup rowsV id = some x → lookup st.rows id = some x) (hf : Fresh site st.used) {args : Array Operand} {ts : Array TypeId} {t e : TypeId} {s : Sh} {z : AV} {es2 : List AV}
    (ho : o.op = .call { callee := .builtin .append, args := args, argTypes := ts }) (hts : ts.toList = [t, t]) (hx : valsT P st.tm ts.toList args.toList = [.slz s, z]) (ht : P.underlying t = some (.slice e)) (hz : elemsOf rowsV z = some (s, es2))
    (hse : s = shOf P depth e) (hel : elemOK P e = true) (hroom : roomB es2.length (P.bytesOf e) = true)
    (hy : y { v := .own site, new := some (.arr false s e es2 none) } = some r) (hK : Good w0 S0 B site o st y r K) : o.wp P a w K Q := by
  have hv := valsT_rel hR.tm P ts.toList args.toList
  rw [hx] at hv
  obtain ⟨u, us, he, hu, hs1⟩ := hv.inv
  obtain ⟨u2, us2, rfl, hu2, hn⟩ := hs1.inv
  rw [hn.inv_nil] at he
  have hm := map_eval args _ he
  have htt : ts = #[t, t] := by apply Array.ext'; simpa using hts
  obtain ⟨i, zz, hi, hzz, hiw, hpos, hzs, hby, zc, hza, hhz⟩ := elemOK_spec hel
  obtain ⟨A2, c2, ad, xs, rfl, hsh, hA2, hvs, h1, hcell, hlm⟩ := elems_sound hR hsub hz hu2
  obtain ⟨hb1, hb2⟩ := roomB_spec hroom
  have hlen : xs.length = es2.length * i.size := by rw [hvs.1, flat_length es2 hsh, hiw, hse]
  cases hu with
  | slz _ _ A =>
    rcases es2 with _ | ⟨e0, es2'⟩
    · have hrun : (Builtin.append_ #[t, t] o.type #[.slice A 0 0, .slice A2 0 c2]).run P w = .ok (.slice A 0 0) w := by
        cases A <;> cases A2 <;> simp [Builtin.append_, run_underlying ht, sizeOf, typeInfo, hi, Builtin.lenOf, Builtin.firstCells, loadCells, loadCellsFrom, storeCells]
      refine wp_value (u := .slice A 0 0) (w' := w) (by have hrun' := hrun; simp only [execOp, ho, resolve, invoke, builtin, hm, htt, Sem.run_bind, Sem.run_pure, Result.andThen_ok, List.length_nil, hrun']) (hK _ _ _ hy ⟨S, _, _, hR.new site hf o.dst (Below.refl _ _) (fun _ h => h) (fun _ _ h => h) hR.Slt
        (x := .slice A 0 0) (wd := s.width) (o := none) rfl (fun g hg => by cases hg) ⟨by rw [hse, ← hiw]; exact hpos, .slice A 0 0, [], [], by simp, (fun c h => by cases h), upd_same _ _ _, by simp, VRels.nil, .inl ⟨rfl, rfl, rfl, A, rfl⟩⟩ (.own _ site _ _ (upd_same _ _ _)), hO⟩)
    · have hrun := run_append_cap0 (P := P) (w := w) t o.type e i zz ht hi hzz A ad (e0 :: es2').length c2 xs hlen hcell (by simp) (by omega) (by rw [hby]; exact hb1)
      rw [hA2 (by simp)] at hm
      have hb := below_drew_alloc w (.cells (xs.toArray ++ Builtin.zeroCells zz.cells (grownCap w (e0 :: es2').length 0 e - (e0 :: es2').length)) e)
      refine wp_value (u := .slice (some ⟨w.heap.size, 0, none⟩) (e0 :: es2').length (grownCap w (e0 :: es2').length 0 e)) (by simp only [execOp, ho, resolve, invoke, builtin, hm, htt, Sem.run_bind, Sem.run_pure, Result.andThen_ok, hrun]) (hK _ _ _ hy ⟨S, _, _, hR.new site hf o.dst hb (fun _ h => h) (fun _ _ h => h)
        (fun b hs => by have := hR.Slt b hs; simp; omega) (x := .slice (some ⟨w.heap.size, 0, none⟩) (e0 :: es2').length (grownCap w (e0 :: es2').length 0 e)) (wd := s.width) (o := some w.heap.size) rfl (fun g hg => by cases hg; simp) ?_ (.own _ site _ _ (upd_same _ _ _)), hO.grow hR.Ble hb⟩)
      exact rowrel_new (w := w) hR.Slt hR.Ble hi hzz hzs hpos hiw hza hhz hse hsh hvs h1 (grownCap_ge _ _ _ _) (grownCap_le_maxLen _ _ _ _ hlm) (w1 := w.drew) rfl (upd_same _ _ _)

/-- A row is used up: its block, or a new one, is another row's from now on. -/
theorem Rel.moved (h : Rel w S B β og st a) {id : Nat} (hf : Fresh site st.used) (dst : Option Tmp) {w' : World} {r1 : Row} {v : AV} {u x : Value} {wd : Nat} {o' : Option Nat}
    (hg : w.grownBy w' (og id)) (hnS : ∀ g, og id = some g → ¬ S g) (hx : x.oneCell' = true) (ho : ∀ g, o' = some g → (og id = some g ∨ w.heap.size ≤ g) ∧ g < w'.heap.size)
    (hrow : RowRel w' S B (upd β site (some (x, wd))) site o' r1) (hv : VRel w' S (upd β site (some (x, wd))) v u) :
    Rel w' S B (upd β site (some (x, wd))) (upd (upd og id none) site o') ⟨putTm st.tm dst v, setRow (delRow st.rows id) site r1, site :: st.used⟩ (a.put dst u) := by
  have hβ : ∀ id y, β id = some y → upd β site (some (x, wd)) id = some y := fun id y hy => by
    have hne : id ≠ site := fun e => hf.1 (by rw [← e]; exact h.used id y hy)
    rw [upd_other _ _ _ _ hne]; exact hy
  have hw : ∀ b, S b → w'.heap[b]? = w.heap[b]? := fun b hs => hg.block b (h.Slt b hs) (fun e => hnS b e.symm hs)
  refine ⟨tm_put (h.tm.mono (fun _ h => h) hw hβ) dst hv, by rw [Act.put_defers]; exact h.df, fun i y hy => ?_, fun i i' g hgi hgi' => ?_, fun i g hgi => ?_, fun i y hy => ?_, fun i y hy => ?_, fun b hs => Nat.lt_of_lt_of_le (h.Slt b hs) hg.size, fun b hb => Nat.lt_of_lt_of_le (h.Ble b hb) hg.size, pid_upd h.pid hf.2⟩
  · rw [lookup_setRow] at hy
    by_cases e : i = site
    · subst e
      simp only [if_pos] at hy
      cases hy
      rw [upd_same]
      exact hrow
    · rw [if_neg e, lookup_delRow] at hy
      by_cases e' : i = id
      · rw [if_pos e'] at hy; cases hy
      · rw [if_neg e'] at hy
        rw [upd_other _ _ _ _ e, upd_other _ _ _ _ e']
        refine (h.row i y hy).keep hβ (fun _ h => h) (fun _ _ h => h) hw (fun g hgi => hg.block g (h.lt i g hgi) (fun e2 => e' (h.inj i id g hgi e2.symm)))
  · have aux : ∀ i, i ≠ site → upd (upd og id none) site o' i = some g → og i = some g ∧ i ≠ id := fun i hi hgi => by
      rw [upd_other _ _ _ _ hi] at hgi
      by_cases e' : i = id
      · rw [e', upd_same] at hgi; cases hgi
      · rw [upd_other _ _ _ _ e'] at hgi; exact ⟨hgi, e'⟩
    have fin : ∀ i, i ≠ site → upd (upd og id none) site o' i = some g → o' = some g → False := fun i hi hgi ho' => by
      obtain ⟨h1, h2⟩ := aux i hi hgi
      rcases (ho g ho').1 with h3 | h3
      · exact h2 (h.inj i id g h1 h3)
      · have := h.lt i g h1; omega
    by_cases e : i = site <;> by_cases e' : i' = site
    · rw [e, e']
    · subst e; rw [upd_same] at hgi; exact (fin i' e' hgi' hgi).elim
    · subst e'; rw [upd_same] at hgi'; exact (fin i e hgi hgi').elim
    · exact h.inj i i' g (aux i e hgi).1 (aux i' e' hgi').1
  · by_cases e : i = site
    · subst e; rw [upd_same] at hgi; exact (ho g hgi).2
    · rw [upd_other _ _ _ _ e] at hgi
      by_cases e' : i = id
      · rw [e', upd_same] at hgi; cases hgi
      · rw [upd_other _ _ _ _ e'] at hgi; exact Nat.lt_of_lt_of_le (h.lt i g hgi) hg.size
  · by_cases e : i = site
    · subst e; simp
    · rw [upd_other _ _ _ _ e] at hy; exact List.mem_cons_of_mem _ (h.used i y hy)
  · by_cases e : i = site
    · subst e; rw [upd_same] at hy; cases hy; exact hx
    · rw [upd_other _ _ _ _ e] at hy; exact h.one i y hy

end ops
end Go.Ev
