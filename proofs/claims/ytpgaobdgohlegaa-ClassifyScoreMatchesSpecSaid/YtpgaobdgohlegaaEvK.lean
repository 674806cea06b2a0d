/-
  The operations, sixth part: stores into elements, literals, calls.
-/
import Derived.Test.YtpgaobdgohlegaaEvJ
namespace Go.Ev
open Go.RowKit

section ops
variable {ρ : Type} {P : Program} {w0 w : World} {S0 S : Nat → Prop} {B : Ctx} {β : Bet} {og : Nat → Option Nat} {st : St} {a : Act} {o : Oper} {site : Nat} {y : Eff → Option ρ} {r : ρ}
  {K : Act → World → Prop} {Q : Exit → Act → World → Prop}

theorem mkAV_cells {s : Sh} {cs : List AV} (h : hasSh s (mkAV s cs) = true) (hl : cs.length = s.width) : (mkAV s cs).cells = cs := by
  cases s with
  | agg l => rfl
  | other => cases cs <;> simp [hasSh, has1] at h
  | int k => 
    have h1 : has1 (.int k) (mkAV (.int k) cs) = true := h
    obtain ⟨e1, _⟩ := has1_cells _ _ h1
    rw [e1]
    match cs, hl with
    | [c], _ => rfl
  | bool =>
    have h1 : has1 .bool (mkAV .bool cs) = true := h
    obtain ⟨e1, _⟩ := has1_cells _ _ h1
    rw [e1]
    match cs, hl with
    | [c], _ => rfl
  | str =>
    have h1 : has1 .str (mkAV .str cs) = true := h
    obtain ⟨e1, _⟩ := has1_cells _ _ h1
    rw [e1]
    match cs, hl with
    | [c], _ => rfl
  | slice s =>
    have h1 : has1 (.slice s) (mkAV (.slice s) cs) = true := h
    obtain ⟨e1, _⟩ := has1_cells _ _ h1
    rw [e1]
    match cs, hl with
    | [c], _ => rfl

/-- One element is set: its cells are. -/
theorem flat_set {s : Sh} : ∀ (es : List AV) (i : Nat) (x : AV), (∀ e ∈ es, hasSh s e = true) → hasSh s x = true → i < es.length → flat (es.set i x) = (flat es).take (i * s.width) ++ x.cells ++ (flat es).drop (i * s.width + s.width)
  | [], i, x, _, _, h => by simp at h
  | e :: es, 0, x, hs, hx, _ => by
    have hw := hasSh_width s e (hs e (by simp))
    simp only [List.set_cons_zero, flat, List.flatMap_cons, Nat.zero_mul, List.take_zero, List.nil_append, Nat.zero_add, ← hw]
    simp
  | e :: es, i + 1, x, hs, hx, h => by
    have hw := hasSh_width s e (hs e (by simp))
    have ih := flat_set es i x (fun y hy => hs y (by simp [hy])) hx (by simpa using h)
    simp only [List.set_cons_succ]
    simp only [flat, List.flatMap_cons] at ih ⊢
    have e1 : (i + 1) * s.width = e.cells.length + i * s.width := by rw [hw, Nat.add_mul, Nat.one_mul, Nat.add_comm]
    have e2 : e.cells.length + i * s.width + s.width = e.cells.length + (i * s.width + s.width) := by omega
    rw [ih, e1, e2, List.take_length_add_append, List.drop_length_add_append]
    simp

theorem etas_length : ∀ (l : List Sh) (cs : List AV), (etas l cs).length = l.length
  | [], _ => rfl
  | s :: l, cs => by simp [etas, etas_length l]

/-- Splicing into one element's cells, seen from the whole row. -/
theorem take_drop_mid {α : Type} (xs ys : List α) (p q n : Nat) (hq : q + ys.length ≤ n) (hn : p + n ≤ xs.length) :
    xs.take p ++ (((xs.drop p).take n).take q ++ ys ++ ((xs.drop p).take n).drop (q + ys.length)) ++ xs.drop (p + n) = xs.take (p + q) ++ ys ++ xs.drop (p + q + ys.length) := by
  have hl : n ≤ (xs.drop p).length := by simp; omega
  have e1 : ((xs.drop p).take n).take q = (xs.drop p).take q := by rw [List.take_take]; congr 1; omega
  have e2 : ((xs.drop p).take n).drop (q + ys.length) ++ xs.drop (p + n) = xs.drop (p + q + ys.length) := by
    have : xs.drop (p + q + ys.length) = (xs.drop p).drop (q + ys.length) := by rw [List.drop_drop]; congr 1; omega
    rw [this]
    have h2 : xs.drop (p + n) = (xs.drop p).drop n := by rw [List.drop_drop]
    rw [h2]
    generalize xs.drop p = zs at hl
    conv => rhs; rw [← List.take_append_drop n zs]
    rw [List.drop_append_of_le_length (by simp; omega)]
  rw [e1]
  simp only [List.append_assoc]
  rw [e2, ← List.append_assoc, ← List.take_add]
theorem take_mid {α : Type} (cur ys : List α) (p m : Nat) (h : p + ys.length ≤ m) (hm : m ≤ cur.length) :
    (cur.take p ++ ys ++ cur.drop (p + ys.length)).take m = (cur.take m).take p ++ ys ++ (cur.take m).drop (p + ys.length) := by
  have e1 : (cur.take m).take p = cur.take p := by rw [List.take_take]; congr 1; omega
  rw [e1, List.take_append, List.take_append]
  have l1 : (cur.take p).length = p := by simp; omega
  rw [List.take_of_length_le (by omega), l1]
  have l2 : List.take (m - p) ys = ys := List.take_of_length_le (by omega)
  rw [l2]
  congr 1
  rw [List.length_append, l1, List.drop_take]

theorem op_store_elem (hR : Rel w S B β og st a) (hO : Out w0 S0 B w S) {rowsV : List (Nat × Row)} (hsub : ∀ id x, lookup rowsV id = some x → lookup st.rows id = some x) {t e : TypeId} {x z : Operand} {id i off : Nat} {s : Sh} {es : List AV} {v' : AV} {ids : List Nat} (ho : o.op = .store t x z)
    (hx : val st.tm x = .eptr id i off) (hpur : pur1 rowsV depth (valT P st.tm t z) = some (v', ids)) {csp : Option (List AV)} (hl : lookup rowsV id = some (.arr false s e es csp)) (hnid : ids.contains id = false) (hlaid : v'.laidB = true) (hn : v'.cells.length = P.cellsOf t) (hn0 : P.cellsOf t ≠ 0)
    (hle : off + P.cellsOf t ≤ s.width) (hnew : hasSh s (mkAV s (splice (etaCells s (es.getD i .unk)) off v'.cells)) = true) (hi : i < es.length)
    (hy : y { v := .undef, mod := some (id, .arr false s e (es.set i (mkAV s (splice (etaCells s (es.getD i .unk)) off v'.cells))) csp), imm := ids } = some r) (hK : Good w0 S0 B site o st y r K) : o.wp P a w K Q := by
  have hin : ∀ id ∈ ids, ∃ r, lookup st.rows id = some r := fun id hid => by obtain ⟨r, hr⟩ := pur1_in _ _ _ hpur id hid; exact ⟨r, hsub _ _ hr⟩
  have hpv := pur1_sound (w := w) (S := S) (B := B) (β := β) (og := og) (rows := rowsV) (fun id x hx => hR.row id x (hsub _ _ hx)) depth _ _ _ _ hpur (valT_rel hR.tm P t z)
  obtain ⟨us, huc, hus, hu1⟩ := hpv.laid hlaid (fun _ _ h => by cases h)
  have hF := hR.freeze ids
  have hOF := hO.freeze hR ids hin
  have hnot : id ∉ ids := by simpa using hnid
  have hlF : lookup (setImm ids st.rows) id = some (.arr false s e es csp) := by rw [lookup_setImm, hsub _ _ hl]; simp [hnot]
  obtain ⟨hp, v, sp, xs, hshS, hcs, hbt, h1, hvs, hor⟩ := hF.row id _ hlF
  have hsh : ∀ x ∈ es, hasSh s x = true := fun x hx => hshS x (List.mem_append_left _ hx)
  have hpx := val_rel hR.tm x
  rw [hx] at hpx
  obtain ⟨ii, hii, hisz⟩ := cellsOf_info hn0
  have hul : us.length = P.cellsOf t := by rw [hus.1]; exact hn
  generalize he : a.eval x = u at hpx
  cases hpx with
  | eptr _ _ _ _ g n c wd hb' =>
    rw [hbt] at hb'
    simp only [Option.some.injEq, Prod.mk.injEq] at hb'
    obtain ⟨rfl, rfl⟩ := hb'
    rcases hor with ⟨he0, _⟩ | ⟨g', hog, hvv, hBg, hh, hmx, him, _⟩
    · subst he0; simp at hi
    · simp at hvv
      obtain ⟨rfl, rfl, rfl⟩ := hvv
      have hw : s.width ≤ s.width * es.length - s.width * i := by
        have : s.width * (i + 1) ≤ s.width * es.length := Nat.mul_le_mul_left _ hi
        rw [Nat.mul_add, Nat.mul_one] at this
        omega
      have hbound : i * s.width + s.width ≤ es.length * s.width := by
        have : (i + 1) * s.width ≤ es.length * s.width := Nat.mul_le_mul_right _ hi
        rwa [Nat.add_mul, Nat.one_mul] at this
      have hxl : xs.length = es.length * s.width + sp.length * s.width := by rw [hvs.1, flat_length _ hshS, List.length_append, Nat.add_mul]
      have hiE : i < (es ++ sp).length := by rw [List.length_append]; omega
      have hst := run_storeCells_at P g (i * s.width + off) e us 0 xs.toArray w hh (by simp; omega) hu1
      simp only [Nat.add_zero] at hst
      have hnS : ∀ g', og id = some g' → ¬ With S og ids g' := fun g' hg' => by rw [hog] at hg'; cases hg'; exact him rfl
      have hgr := grownBy_setRow w g (xs.take (i * s.width + off) ++ us ++ xs.drop (i * s.width + off + us.length)).toArray
      have hwk : ∀ b, With S og ids b → (w.setRow g (xs.take (i * s.width + off) ++ us ++ xs.drop (i * s.width + off + us.length)).toArray).heap[b]? = w.heap[b]? := fun b hs => hgr.block b (hF.Slt b hs) (fun e => by cases e; exact him rfl hs)
      have hgd : es[i]? = some es[i] := List.getElem?_eq_getElem hi
      have hgD : es.getD i .unk = es[i] := by simp [List.getD, hgd]
      have hsi : hasSh s es[i] = true := hsh _ (List.getElem_mem hi)
      have hel : VRels w (With S og ids) nob (etaCells s (es.getD i .unk)) ((xs.drop (i * s.width)).take s.width) := by
        have hvv := (hvs.drop (i * s.width)).take s.width
        rw [flat_at (es ++ sp) i es[i] hshS (by rw [List.getElem?_append_left hi]; exact hgd)] at hvv
        rw [hgD]
        exact etas_rel _ _ _ (hasSh_hass s _ hsi) hvv
      have hetl : (etaCells s (es.getD i .unk)).length = s.width := etas_length _ _
      have hspl : (splice (etaCells s (es.getD i .unk)) off v'.cells).length = s.width := by
        simp only [splice, List.length_append, List.length_take, List.length_drop, hetl]
        omega
      have hnc := mkAV_cells hnew hspl
      have hrow : RowRel (w.setRow g (xs.take (i * s.width + off) ++ us ++ xs.drop (i * s.width + off + us.length)).toArray) (With S og ids) B β id (og id) (.arr false s e (es.set i (mkAV s (splice (etaCells s (es.getD i .unk)) off v'.cells))) csp) := by
        have hset : es.set i (mkAV s (splice (etaCells s (es.getD i .unk)) off v'.cells)) ++ sp = (es ++ sp).set i (mkAV s (splice (etaCells s (es.getD i .unk)) off v'.cells)) := by
          rw [List.set_append_left _ _ hi]
        refine ⟨hp, _, sp, xs.take (i * s.width + off) ++ us ++ xs.drop (i * s.width + off + us.length), fun y hy => ?_, hcs, hbt, fun u hu => ?_, ?_, .inr ⟨g, hog, by rw [List.length_set], hBg, setRow_heap w g _ _ e _ hh, by rw [List.length_set]; exact hmx, fun _ => him rfl, (fun h => by cases h)⟩⟩
        · rw [hset] at hy
          rcases List.mem_or_eq_of_mem_set hy with h | h
          · exact hshS y h
          · rw [h]; exact hnew
        · simp only [List.mem_append] at hu
          rcases hu with (hu | hu) | hu
          · exact h1 u (List.mem_of_mem_take hu)
          · exact hu1 u hu
          · exact h1 u (List.mem_of_mem_drop hu)
        · refine VRels.mono (w := w) (S := With S og ids) (β := nob) ?_ (fun _ h => h) hwk (fun _ _ h => h)
          rw [hset, flat_set (es ++ sp) i _ hshS hnew hiE, hnc, ← take_drop_mid xs us (i * s.width) off s.width (by omega) (by omega)]
          exact ((hvs.take (i * s.width)).append (hel.splice hus off)).append (hvs.drop (i * s.width + s.width))
      have hM := hF.modify (id := id) (by rw [hog]; exact hgr) (by simp [World.setRow]) hnS hrow
      have hM' := hM.congr (rows' := applyRows site { v := .undef, mod := some (id, .arr false s e (es.set i (mkAV s (splice (etaCells s (es.getD i .unk)) off v'.cells))) csp), imm := ids } st.rows) (fun k => by
        have : applyRows site { v := .undef, mod := some (id, .arr false s e (es.set i (mkAV s (splice (etaCells s (es.getD i .unk)) off v'.cells))) csp), imm := ids } st.rows = setImm ids (setRow st.rows id (.arr false s e (es.set i (mkAV s (splice (etaCells s (es.getD i .unk)) off v'.cells))) csp)) := by
          simp only [applyRows, List.foldl_nil]
          cases ids with
          | nil => rw [setImm_nil]
          | cons i is => rfl
        rw [this, lookup_setImm, lookup_setRow, lookup_setRow, lookup_setImm]
        by_cases e : k = id
        · subst e; simp [hnot]
        · simp [e])
      refine wp_skip' (w' := w.setRow g (xs.take (i * s.width + off) ++ us ++ xs.drop (i * s.width + off + us.length)).toArray) ?_ (hK _ _ _ hy ⟨_, β, og, hM'.put o.dst (.undef _), hOF.grownBy hF.Ble hgr (fun k hk => by cases hk; exact hBg)⟩)
      have hsz' : (a.eval z).cells.size = ii.size := by rw [huc, hisz, ← hul]; simp
      simp only [execOp, ho, he, Instr.storeAt, Instr.sureAddr, pure_bind, storeVar, sizeOf, typeInfo, Sem.run_bind, run_program, Result.andThen_ok, hii, Sem.run_pure, hsz']
      simp [huc, hst]

end ops
end Go.Ev
