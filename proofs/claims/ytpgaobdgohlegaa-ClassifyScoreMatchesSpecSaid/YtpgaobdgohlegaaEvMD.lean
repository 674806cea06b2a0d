/-
  What is known of a function that is handed rows; such a call.
-/
import Derived.Test.YtpgaobdgohlegaaEvMC
namespace Go.Ev
open Go.RowKit

/-- Rows in memory. -/
structure Heap (w : World) (S B : Nat → Prop) (β : Bet) (og : Nat → Option Nat) (rows : List (Nat × Row)) : Prop where
  row : ∀ id r, lookup rows id = some r → RowRel w S B β id (og id) r
  inj : ∀ id id' g, og id = some g → og id' = some g → id = id'
  lt : ∀ id g, og id = some g → g < w.heap.size
  one : ∀ id x, β id = some x → x.1.oneCell' = true
  Slt : ∀ b, S b → b < w.heap.size
  Ble : ∀ b, B b → b < w.heap.size

/-- What a call leaves. -/
structure After (w : World) (S B : Nat → Prop) (β : Bet) (prow : List (Option Row)) (nrow : List Row) (v : AV) (u : Value) (w' : World) (S' : Nat → Prop) (β' : Bet) (og' : Nat → Option Nat) : Prop where
  kept : Kept B w w'
  sub : ∀ b, S b → S' b
  sin : ∀ b, S' b → S b ∨ ¬ B b
  val : VRel w' S' β' v u
  prow : ∀ (j : Nat) (r : Row), prow[j]? = some (some r) → RowRel w' S' B β' (PID + j) (og' (PID + j)) r
  nrow : ∀ (j : Nat) (r : Row), nrow[j]? = some r → RowRel w' S' B β' (RID + j) (og' (RID + j)) r
  inj : ∀ id id' g, og' id = some g → og' id' = some g → id = id'
  lt : ∀ id g, og' id = some g → g < w'.heap.size
  one : ∀ id x, β' id = some x → x.1.oneCell' = true
  Slt : ∀ b, S' b → b < w'.heap.size
  bet : ∀ id x, id < RID → β' id = some x → β id = some x

def XOK (P : Program) (f : FuncId) (F : SummX) : Prop :=
  ∀ (ρ : Type) (w : World) (S B : Nat → Prop) (β : Bet) (og : Nat → Option Nat) (avs : List AV) (rows : List Row) (args : List Value) (k : AV → List (Option Row) → List Row → Option ρ) (r : ρ),
    Heap w S B β og (zipIds PID rows) → (∀ b, S b → B b) → (∀ id x, β id = some x → PID ≤ id ∧ id < PID + rows.length) → VRels w S β avs args → F ρ avs rows k = some r →
    Goes P f args.toArray w fun e w' => ∃ u v prow nrow S' β' og', e = .returned u ∧ k v prow nrow = some r ∧ After w S B β prow nrow v u w' S' β' og'
/-- What follows a call may follow it later. -/
def XNat (F : SummX) : Prop := ∀ (ρ : Type) (avs : List AV) (rows : List Row) (k : AV → List (Option Row) → List Row → Option ρ), F ρ avs rows k = (F (AV × List (Option Row) × List Row) avs rows fun v p n => some (v, p, n)).bind fun x => k x.1 x.2.1 x.2.2

/-- The places of the rows that are handed over. -/
def openBet {α : Type} (f : Nat → Option α) (ids : List Nat) (id : Nat) : Option α := if PID ≤ id then (ids[id - PID]?).bind f else none
theorem openBet_at {α : Type} (f : Nat → Option α) {ids : List Nat} {j i : Nat} (h : ids[j]? = some i) : openBet f ids (PID + j) = f i := by
  unfold openBet
  rw [if_pos (by omega), show PID + j - PID = j from by omega, h]
  rfl
theorem openBet_inv {α : Type} {f : Nat → Option α} {ids : List Nat} {id : Nat} {x : α} (h : openBet f ids id = some x) : ∃ j i, id = PID + j ∧ ids[j]? = some i ∧ f i = some x := by
  unfold openBet at h
  split at h
  · rename_i hp
    cases hi : ids[id - PID]? with
    | none => simp [hi] at h
    | some i => exact ⟨id - PID, i, by omega, hi, by simpa [hi] using h⟩
  · cases h

section ops
variable {ρ : Type} {P : Program} {w0 w : World} {S0 S : Nat → Prop} {B : Ctx} {β : Bet} {og : Nat → Option Nat} {st : St} {a : Act} {o : Oper} {site : Nat} {y : Eff → Option ρ} {r : ρ}
  {K : Act → World → Prop} {Q : Exit → Act → World → Prop}

def isNew (site n id : Nat) : Option Nat := if id = newId site ((id - site) / 4294967296 - 1) then (if (id - site) / 4294967296 - 1 < n then some ((id - site) / 4294967296 - 1) else none) else none
theorem isNew_at {site n j : Nat} (h : j < n) : isNew site n (newId site j) = some j := by
  have e : (newId site j - site) / 4294967296 - 1 = j := by unfold newId; omega
  unfold isNew
  rw [e]
  simp [h]
theorem isNew_inv {site n id j : Nat} (h : isNew site n id = some j) : id = newId site j ∧ j < n := by
  unfold isNew at h
  split at h
  · rename_i e
    split at h
    · rename_i hl; cases h; exact ⟨e, hl⟩
    · cases h
  · cases h

/-- The state behind a call that was handed rows. -/
theorem after_rel (hR : Rel w S B β og st a) (hO : Out w0 S0 B w S) {ids : List Nat} (hnd : ∀ (j j' i : Nat), ids[j]? = some i → ids[j']? = some i → j = j') (himm : ∀ i ∈ ids, ∃ r, lookup st.rows i = some r ∧ r.imm = false) (hsm : ids.length ≤ 1000000)
    {prow : List (Option Row)} {nrow : List Row} {v : AV} {u : Value} {w' : World} {S' : Nat → Prop} {β' : Bet} {og' : Nat → Option Nat} (hlen : prow.length = ids.length) (dst : Option Tmp)
    (hA : After w S (fun b => b < w.heap.size ∧ ∀ i ∈ ids, og i ≠ some b) (openBet β ids) prow nrow v u w' S' β' og')
    (hfr : ∀ p ∈ newsOf (back site ids nrow.length) site 0 nrow, p.1 ∉ st.used ∧ p.1 < PID) {rows' : List (Nat × Row)}
    (hrows : ∀ id r, lookup rows' id = some r → (id, r) ∈ newsOf (back site ids nrow.length) site 0 nrow ∨ (id, r) ∈ modsOf (back site ids nrow.length) ids prow ∨ (id ∉ delsOf ids prow ∧ (∀ p ∈ modsOf (back site ids nrow.length) ids prow, p.1 ≠ id) ∧ lookup st.rows id = some r)) :
    RelX w0 S0 B ⟨putTm st.tm dst (v.ren (back site ids nrow.length)), rows', (newsOf (back site ids nrow.length) site 0 nrow).map (·.1) ++ st.used⟩ (a.put dst u) w' := by
  have hnew : ∀ j, j < nrow.length → newId site j ∉ st.used ∧ newId site j < PID := fun j hj => by
    have := newsOf_keys (back site ids nrow.length) site nrow 0 j hj
    rw [Nat.zero_add] at this
    obtain ⟨p, hp, he⟩ := List.mem_map.1 this
    rw [← he]
    exact hfr p hp
  have hisused : ∀ id x, β id = some x → isNew site nrow.length id = none := fun id x hx => by
    cases hi : isNew site nrow.length id with
    | none => rfl
    | some j =>
      obtain ⟨e, hj⟩ := isNew_inv hi
      exact absurd (by rw [← e]; exact hR.used id x hx) (hnew j hj).1
  have hBB : ∀ b, B b → b < w.heap.size ∧ ∀ i ∈ ids, og i ≠ some b := fun b hb => ⟨hR.Ble b hb, fun i hi hg => by
    obtain ⟨r, hr, _⟩ := himm i hi
    exact (hR.row i r hr).place.2 b hg hb⟩
  have hSB : ∀ b, S b → b < w.heap.size ∧ ∀ i ∈ ids, og i ≠ some b := fun b hb => ⟨hR.Slt b hb, fun i hi hg => by
    obtain ⟨r, hr, hm⟩ := himm i hi
    exact (hR.row i r hr).free hm b hg hb⟩
  have hw : ∀ b, S b → w'.heap[b]? = w.heap[b]? := fun b hb => hA.kept.block b (hSB b hb)
  have hβ : ∀ id x, β id = some x → (match isNew site nrow.length id with | some j => β' (RID + j) | none => β id) = some x := fun id x hx => by
    rw [hisused id x hx]; exact hx
  have hm : ∀ id x j, β' id = some x → back site ids nrow.length id = some j → (match isNew site nrow.length j with | some j => β' (RID + j) | none => β j) = some x := fun id x j hx hj => by
    unfold back at hj
    split at hj
    · cases hj
    · split at hj
      · rename_i h1 h2
        have hlt : id < RID := Nat.blt_eq ▸ h2
        obtain ⟨j', i, e1, e2, e3⟩ := openBet_inv (hA.bet id x hlt hx)
        have : id - PID = j' := by omega
        rw [this, e2] at hj
        cases hj
        exact hβ _ _ e3
      · rename_i h1 h2
        split at hj
        · rename_i h3
          cases hj
          have h3' : id - RID < nrow.length := Nat.blt_eq ▸ h3
          rw [isNew_at h3']
          have h2' : ¬ id < RID := fun h => h2 (by rw [Nat.blt_eq]; exact h)
          show β' (RID + (id - RID)) = some x
          rw [show RID + (id - RID) = id from by omega]
          exact hx
        · cases hj
  have hog1 : ∀ j, j < nrow.length → (match isNew site nrow.length (newId site j) with | some j => og' (RID + j) | none => (match idx ids (newId site j) with | some j => (match prow[j]? with | some (some _) => og' (PID + j) | _ => none) | none => og (newId site j))) = og' (RID + j) := fun j hj => by rw [isNew_at hj]
  have hidx : ∀ j i, ids[j]? = some i → idx ids i = some j := fun j i h => by
    have aux : ∀ (l : List Nat) (j i : Nat), l[j]? = some i → ∃ j', idx l i = some j' := by
      intro l
      induction l with
      | nil => intro j i h; simp at h
      | cons x l ih =>
        intro j i h
        by_cases e : i = x
        · exact ⟨0, by simp [idx, e]⟩
        · cases j with
          | zero => simp at h; exact absurd h.symm e
          | succ j =>
            obtain ⟨j', hj'⟩ := ih j i (by simpa using h)
            exact ⟨j' + 1, by simp [idx, e, hj']⟩
    obtain ⟨j', hj'⟩ := aux ids j i h
    rw [hj', hnd j j' i h (idx_some ids i j' hj')]
  have hopn : ∀ j i, ids[j]? = some i → isNew site nrow.length i = none := fun j i h => by
    obtain ⟨r, hr, _⟩ := himm i (List.mem_of_getElem? h)
    obtain ⟨x, hx⟩ := (hR.row i r hr).place.1
    exact hisused i x hx
  have hog2 : ∀ j i r, ids[j]? = some i → prow[j]? = some (some r) → (match isNew site nrow.length i with | some j => og' (RID + j) | none => (match idx ids i with | some j => (match prow[j]? with | some (some _) => og' (PID + j) | _ => none) | none => og i)) = og' (PID + j) := fun j i r h hp => by
    rw [hopn j i h, hidx j i h]
    simp only [hp]
  have hog3 : ∀ id, isNew site nrow.length id = none → id ∉ ids → (match isNew site nrow.length id with | some j => og' (RID + j) | none => (match idx ids id with | some j => (match prow[j]? with | some (some _) => og' (PID + j) | _ => none) | none => og id)) = og id := fun id h hn => by
    rw [h]
    cases hi : idx ids id with
    | none => rfl
    | some j => exact absurd (List.mem_of_getElem? (idx_some ids id j hi)) hn
  -- every number's place is one of the call's, or as it was
  have hcl : ∀ id g, (match isNew site nrow.length id with | some j => og' (RID + j) | none => (match idx ids id with | some j => (match prow[j]? with | some (some _) => og' (PID + j) | _ => none) | none => og id)) = some g →
      (∃ j, j < nrow.length ∧ id = newId site j ∧ og' (RID + j) = some g) ∨ (∃ j r, ids[j]? = some id ∧ prow[j]? = some (some r) ∧ og' (PID + j) = some g) ∨ (id ∉ ids ∧ og id = some g) := fun id g h => by
    cases hi : isNew site nrow.length id with
    | some j =>
      rw [hi] at h
      obtain ⟨e, hj⟩ := isNew_inv hi
      exact .inl ⟨j, hj, e, h⟩
    | none =>
      rw [hi] at h
      cases hx : idx ids id with
      | some j =>
        rw [hx] at h
        have hj := idx_some ids id j hx
        simp only at h
        split at h
        · rename_i r hp; exact .inr (.inl ⟨j, r, hj, hp, h⟩)
        · cases h
      | none =>
        rw [hx] at h
        refine .inr (.inr ⟨fun hin => ?_, h⟩)
        obtain ⟨j, hj, he⟩ := List.getElem_of_mem hin
        have := hidx j id (by rw [List.getElem?_eq_getElem hj, he])
        rw [hx] at this
        cases this
  have hnB1 : ∀ j, j < nrow.length → ∀ g, og' (RID + j) = some g → ¬ (g < w.heap.size ∧ ∀ i ∈ ids, og i ≠ some g) := fun j hj g hg => (hA.nrow j _ (List.getElem?_eq_getElem hj)).place.2 g hg
  have hnB2 : ∀ j r, prow[j]? = some (some r) → ∀ g, og' (PID + j) = some g → ¬ (g < w.heap.size ∧ ∀ i ∈ ids, og i ≠ some g) := fun j r hj g hg => (hA.prow j r hj).place.2 g hg
  have hyB : ∀ id g, id ∉ ids → og id = some g → (g < w.heap.size ∧ ∀ i ∈ ids, og i ≠ some g) := fun id g hn hg => ⟨hR.lt id g hg, fun i hi hg' => hn (hR.inj id i g hg hg' ▸ hi)⟩
  have hPR : PID + 1000000 < RID := by decide
  refine ⟨S', fun id => match isNew site nrow.length id with | some j => β' (RID + j) | none => β id, fun id => match isNew site nrow.length id with | some j => og' (RID + j) | none => (match idx ids id with | some j => (match prow[j]? with | some (some _) => og' (PID + j) | _ => none) | none => og id), ⟨?_, by rw [Act.put_defers]; exact hR.df, fun id r hr => ?_, fun id id' g hg hg' => ?_, fun id g hg => ?_, fun id x hx => ?_, fun id x hx => ?_, hA.Slt, fun b hb => Nat.lt_of_lt_of_le (hR.Ble b hb) hA.kept.size, fun id x hp hx => ?_⟩, ?_⟩
  · exact tm_put (hR.tm.mono hA.sub hw hβ) dst (ren_rel hA.val hm)
  · rcases hrows id r hr with h | h | ⟨h1, h2, h3⟩
    · obtain ⟨j, r0, e1, e2, rfl⟩ := newsOf_inv _ _ _ _ _ _ h
      rw [Nat.zero_add] at e1
      subst e1
      have hj : j < nrow.length := (List.getElem?_eq_some_iff.1 e2).1
      rw [hog1 j hj]
      refine (hA.nrow j r0 e2).ren hm (fun x hx => ?_) (fun g hg hn hb => hn (hBB g hb))
      rw [isNew_at hj]
      exact hx
    · obtain ⟨j, r0, e1, e2, rfl⟩ := modsOf_inv _ _ _ _ _ h
      rw [hog2 j id r0 e1 e2]
      refine (hA.prow j r0 e2).ren hm (fun x hx => ?_) (fun g hg hn hb => hn (hBB g hb))
      have hjl : j < ids.length := (List.getElem?_eq_some_iff.1 e1).1
      obtain ⟨j', i, q1, q2, q3⟩ := openBet_inv (hA.bet _ x (by omega) hx)
      have : j = j' := by omega
      subst this
      rw [e1] at q2
      cases q2
      exact hβ _ _ q3
    · have hn : id ∉ ids := fun hin => by
        obtain ⟨j, hj, he⟩ := List.getElem_of_mem hin
        have hij : ids[j]? = some id := by rw [List.getElem?_eq_getElem hj, he]
        have hpj : j < prow.length := by rw [hlen]; exact hj
        cases hp : prow[j] with
        | none => exact h1 (delsOf_mem ids prow j id hij (by rw [List.getElem?_eq_getElem hpj, hp]))
        | some r' => exact h2 _ (modsOf_mem (back site ids nrow.length) ids prow j id r' hij (by rw [List.getElem?_eq_getElem hpj, hp])) rfl
      have h0 := hR.row id r h3
      obtain ⟨x, hx⟩ := h0.place.1
      rw [hog3 id (hisused id x hx) hn]
      refine h0.keep hβ hA.sub (fun g hg hs => ?_) hw (fun g hg => hA.kept.block g (hyB id g hn hg))
      exact (hA.sin g hs).elim (fun h => h) fun h => absurd (hyB id g hn hg) h
  · rcases hcl id g hg with ⟨j, hj, rfl, hgj⟩ | ⟨j, r, e1, e2, hgj⟩ | ⟨hn, hgj⟩ <;> rcases hcl id' g hg' with ⟨j', hj', rfl, hgj'⟩ | ⟨j', r', e1', e2', hgj'⟩ | ⟨hn', hgj'⟩
    · have := hA.inj _ _ g hgj hgj'
      rw [show j = j' from by omega]
    · have := hA.inj _ _ g hgj hgj'
      have hjl : j' < ids.length := (List.getElem?_eq_some_iff.1 e1').1
      omega
    · exact absurd (hyB _ g hn' hgj') (hnB1 j hj g hgj)
    · have := hA.inj _ _ g hgj hgj'
      have hjl : j < ids.length := (List.getElem?_eq_some_iff.1 e1).1
      omega
    · have := hA.inj _ _ g hgj hgj'
      have : j = j' := by omega
      subst this
      rw [e1] at e1'
      cases e1'
      rfl
    · exact absurd (hyB _ g hn' hgj') (hnB2 j r e2 g hgj)
    · exact absurd (hyB _ g hn hgj) (hnB1 j' hj' g hgj')
    · exact absurd (hyB _ g hn hgj) (hnB2 j' r' e2' g hgj')
    · exact hR.inj id id' g hgj hgj'
  · rcases hcl id g hg with ⟨j, hj, rfl, hgj⟩ | ⟨j, r, e1, e2, hgj⟩ | ⟨hn, hgj⟩
    · exact hA.lt _ g hgj
    · exact hA.lt _ g hgj
    · exact Nat.lt_of_lt_of_le (hR.lt id g hgj) hA.kept.size
  · split at hx
    · rename_i j hj
      obtain ⟨rfl, hjl⟩ := isNew_inv hj
      have := newsOf_keys (back site ids nrow.length) site nrow 0 j hjl
      rw [Nat.zero_add] at this
      exact List.mem_append_left _ this
    · exact List.mem_append_right _ (hR.used id x hx)
  · split at hx
    · exact hA.one _ x hx
    · exact hR.one id x hx
  · split at hx
    · rename_i j hj
      obtain ⟨rfl, hjl⟩ := isNew_inv hj
      have := (hnew j hjl).2
      omega
    · exact hR.pid id x hp hx
  · exact ⟨⟨hA.kept.os.trans hO.bel.os, hA.kept.tape.trans hO.bel.tape, hA.kept.output.trans hO.bel.output, Nat.le_trans hO.bel.size hA.kept.size, fun k hk => (hA.kept.block k (hBB k hk)).trans (hO.bel.block k hk)⟩,
      fun b hb => (hA.sin b hb).elim (hO.sin b) fun h => .inr fun hB => h (hBB b hB), fun b hb => hA.sub b (hO.sub b hb)⟩

theorem lookup_immL (fz : List Nat) (rows : List (Nat × Row)) (id : Nat) : lookup (match fz with | [] => rows | ids => setImm ids rows) id = lookup (setImm fz rows) id := by
  cases fz with
  | nil => rw [setImm_nil]
  | cons i is => rfl

theorem op_callX (hR : Rel w S B β og st a) (hO : Out w0 S0 B w S) {rowsV : List (Nat × Row)} (hsub : ∀ id x, lookup rowsV id = some x → lookup st.rows id = some x) (hfr : ∀ e, y e = some r → freshB site e st.used = true) {f : Operand} {args : Array Operand} {ts : Array TypeId} {g : Nat} {caps : List AV} {F : SummX}
    (ho : o.op = .call { callee := .value f, args := args, argTypes := ts }) (hf : val st.tm f = .fn g caps) (hF : XOK P g F) (hen : entersB P g = true)
    (h : evX site F (valsT P st.tm ts.toList args.toList ++ caps) rowsV y = some r) (hK : Good w0 S0 B site o st y r K) : o.wp P a w K Q := by
  have hrow : ∀ id x, lookup rowsV id = some x → RowRel w S B β id (og id) x := fun id x hx => hR.row id x (hsub _ _ hx)
  have hfv := val_rel hR.tm f
  rw [hf] at hfv
  generalize hfe : a.eval f = fv at hfv
  cases hfv with
  | fn _ _ _ cvs hcl hch =>
  have hargs := (valsT_rel hR.tm P ts.toList args.toList).append (VRels.mono (w' := w) (S' := S) (β' := β) ⟨hcl, hch⟩ (fun _ h => h) (fun _ _ => rfl) (fun _ _ h => h))
  unfold evX at h
  split at h
  · cases h
  · rename_i p hp
    obtain ⟨avs1, fz1⟩ := p
    split at h
    · cases h
    · rename_i q hq
      obtain ⟨rs, fz2⟩ := q
      split at h
      · rename_i hc
        simp only [Bool.and_eq_true] at hc
        obtain ⟨⟨hnd, hsm⟩, hdis⟩ := hc
        generalize reach rowsV depth avs1 [] = ids at h hq hnd hsm hdis
        have hnd' := nodupB_spec ids hnd
        have hsm' : ids.length ≤ 1000000 := Nat.le_of_ble_eq_true hsm
        have hdis' : ∀ i ∈ fz1 ++ fz2, i ∉ ids := fun i hi => by
          have := (List.all_eq_true.1 hdis) i hi
          simpa using this
        generalize hfz : fz1 ++ fz2 = fz at h hdis'
        have hin : ∀ id ∈ fz, ∃ r, lookup st.rows id = some r := fun id hid => by
          rw [← hfz] at hid
          rcases List.mem_append.1 hid with hid | hid
          · obtain ⟨r, hr⟩ := purL_in (rows := rowsV) (opn1_in depth) _ _ hp id hid; exact ⟨r, hsub _ _ hr⟩
          · obtain ⟨r, hr⟩ := rowsAt_in _ _ hq id hid; exact ⟨r, hsub _ _ hr⟩
        have hFr := hR.freeze fz
        have hOF := hO.freeze hR fz hin
        obtain ⟨hrl, hrs⟩ := rowsAt_sound hrow hR.inj ids rs fz2 fz hq (fun i hi => by rw [← hfz]; simp [hi]) hdis'
        have hpa := (purL_soundX (w := w) (S := S) (β := β) (og := og) (f := opn1 rowsV depth) (opn1_sound hrow depth) _ _ _ hp hargs).keepS (S' := With S og fz) fun b => With.sub (fun i hi => by rw [← hfz]; simp [hi])
        have hmP : ∀ id x j, β id = some x → toP ids id = some j → openBet β ids j = some x := fun id x j hx hj => by
          unfold toP at hj
          cases hi : idx ids id with
          | none => simp [hi] at hj
          | some j' =>
            simp [hi] at hj
            subst hj
            rw [openBet_at β (idx_some ids id j' hi)]
            exact hx
        have himm : ∀ i ∈ ids, ∃ r, lookup (setImm fz st.rows) i = some r ∧ r.imm = false := fun i hi => by
          obtain ⟨j, hj, he⟩ := List.getElem_of_mem hi
          obtain ⟨r1, r0, _, hl0, hm0, _⟩ := hrs j i (by rw [List.getElem?_eq_getElem hj, he])
          refine ⟨r0, ?_, hm0⟩
          have hni : fz.contains i = false := by
            have : i ∉ fz := fun h => hdis' i h hi
            simpa using this
          rw [lookup_setImm, hsub _ _ hl0]
          simp only [Option.map_some, hni]
          rfl
        have hnS : ∀ i ∈ ids, ∀ g, og i = some g → ¬ With S og fz g := fun i hi g hg => by
          obtain ⟨r, hr, hm⟩ := himm i hi
          exact (hFr.row i r hr).free hm g hg
        have hH : Heap w (With S og fz) (fun b => b < w.heap.size ∧ ∀ i ∈ ids, og i ≠ some b) (openBet β ids) (openBet og ids) (zipIds PID (rs.map (Row.ren (toP ids)))) := by
          refine ⟨fun id x hx => ?_, fun id id' g hg hg' => ?_, fun id g hg => ?_, fun id x hx => ?_, hFr.Slt, fun b hb => hb.1⟩
          · obtain ⟨hle, hx⟩ := lookup_zipIds _ _ _ _ hx
            obtain ⟨jj, rfl⟩ : ∃ jj, id = PID + jj := ⟨id - PID, by omega⟩
            rw [Nat.add_sub_cancel_left, List.getElem?_map] at hx
            cases hr : rs[jj]? with
            | none => simp [hr] at hx
            | some r1 =>
              simp [hr] at hx
              subst hx
              have hjl : jj < ids.length := by rw [← hrl]; exact (List.getElem?_eq_some_iff.1 hr).1
              have hij : ids[jj]? = some ids[jj] := List.getElem?_eq_getElem hjl
              obtain ⟨r2, r0, hr2, hl0, hm0, hrel, _⟩ := hrs _ _ hij
              rw [hr] at hr2
              cases hr2
              rw [openBet_at og hij]
              refine hrel.ren hmP (fun x hx => ?_) (fun g hg _ hb => hb.2 _ (List.mem_of_getElem? hij) hg)
              rw [openBet_at β hij]
              exact hx
          · obtain ⟨j, i, rfl, e1, e2⟩ := openBet_inv hg
            obtain ⟨j', i', rfl, e1', e2'⟩ := openBet_inv hg'
            have := hR.inj i i' g e2 e2'
            subst this
            rw [hnd' j j' i e1 e1']
          · obtain ⟨j, i, rfl, e1, e2⟩ := openBet_inv hg
            exact hR.lt i g e2
          · obtain ⟨j, i, rfl, e1, e2⟩ := openBet_inv hx
            exact hR.one i x e2
        have hC := hF ρ w (With S og fz) (fun b => b < w.heap.size ∧ ∀ i ∈ ids, og i ≠ some b) (openBet β ids) (openBet og ids) _ _ _ _ r hH
          (fun b hb => ⟨hFr.Slt b hb, fun i hi hg => hnS i hi b hg hb⟩)
          (fun id x hx => by
            obtain ⟨j, i, rfl, e1, e2⟩ := openBet_inv hx
            have := (List.getElem?_eq_some_iff.1 e1).1
            rw [List.length_map, hrl]
            omega) (rens_rel hmP hpa) h
        have hmap : (args.map a.eval) ++ cvs.toArray = (args.toList.map a.eval ++ cvs).toArray := by apply Array.ext'; simp
        have hrun : ∀ s, (callFunc g (args.toList.map a.eval ++ cvs).toArray).run P w = s → (execOp a.eval o).run P w = s := fun s hcf => by
          simp only [execOp, ho, resolve, hfe, Deferred.ofValue]
          simp only [pure_bind, invoke, Array.empty_append, hmap]
          exact hcf
        refine hC.wp hen hrun fun e w' hpost => ?_
        obtain ⟨u, v, prow, nrow, S', β', og', rfl, hk, hA⟩ := hpost
        refine ⟨u, rfl, ?_⟩
        · split at hk
          · rename_i hlen
            have hlen' : prow.length = ids.length := by simpa using hlen
            have hfresh := hfr _ hk
            simp only [freshB, Bool.true_and, List.all_eq_true, Bool.and_eq_true, Bool.not_eq_true'] at hfresh
            refine hK _ _ _ hk (after_rel (site := site) hFr hOF hnd' himm hsm' hlen' o.dst hA (fun p hp => ?_) (fun id r hr => ?_))
            · obtain ⟨h1, h2⟩ := hfresh p hp
              exact ⟨by simpa using h1, Nat.blt_eq ▸ h2⟩
            · simp only [applyRows] at hr
              rcases lookup_foldl_set _ _ _ _ hr with h | ⟨_, h⟩
              · exact .inl h
              · rcases lookup_foldl_set _ _ _ _ h with h | ⟨h1, h⟩
                · exact .inr (.inl h)
                · obtain ⟨h2, h3⟩ := lookup_foldl_del _ _ _ _ h
                  exact .inr (.inr ⟨h2, h1, (lookup_immL fz st.rows id).symm.trans h3⟩)
          · cases hk
      · cases h

end ops
end Go.Ev
