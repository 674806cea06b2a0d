/-
  A region in whatever order its edges allow. Second part: two operations that no edge orders may change places.
-/
import Derived.Test.YtpgaobdgohlegaaEvQ
namespace Go.Ev
open Go.RowKit

section shape
variable {P : Program} {Γ : Env} {site : Nat}

/-- What an operation that is no store and no append leaves alone. -/
def Shape (Γ : Env) (o : Oper) (rows : List (Nat × Row)) (e : Eff) : Prop :=
  (changes Γ o.op = false → e.mod = none ∧ e.del = none ∧ e.dels = [] ∧ e.mods = [] ∧ e.news = []) ∧ (touches Γ o.op = false → e.new = none ∧ e.imm = []) ∧ ∀ id ∈ e.imm, ∃ r, lookup rows id = some r

theorem shape_slot (o : Oper) (rows : List (Nat × Row)) (v : AV) : Shape Γ o rows { v } := ⟨fun _ => ⟨rfl, rfl, rfl, rfl, rfl⟩, fun _ => ⟨rfl, rfl⟩, fun id h => by simp at h⟩
theorem shape_load (o : Oper) (rows : List (Nat × Row)) {t : TypeId} {cs : List AV} {e : Eff} (h : evLoad P t cs (fun v => some ({ v } : Eff)) = some e) : Shape Γ o rows e := by
  rw [evLoad_bind] at h
  cases hl : evLoad P t cs some with
  | none => simp [hl] at h
  | some v => simp [hl] at h; subst h; exact shape_slot o rows v
theorem shape_nil (o : Oper) (rows : List (Nat × Row)) {op : BinOp} {t : TypeId} {x : AV} {e : Eff} (h : evNil P op t x (fun v => some ({ v } : Eff)) = some e) : Shape Γ o rows e := by
  rw [evNil_bind] at h
  cases hl : evNil P op t x some with
  | none => simp [hl] at h
  | some v => simp [hl] at h; subst h; exact shape_slot o rows v
theorem shape_bin (o : Oper) (rows : List (Nat × Row)) {op : BinOp} {t : TypeId} {x z : AV} {e : Eff} (h : evBin P op t x z (fun v => some ({ v } : Eff)) = some e) : Shape Γ o rows e := by
  rw [evBin_bind] at h
  cases hl : evBin P op t x z some with
  | none => simp [hl] at h
  | some v => simp [hl] at h; subst h; exact shape_slot o rows v

theorem changes_touches {op : Op} (h : touches Γ op = false) : changes Γ op = false := by
  cases op <;> first | rfl | (simp [touches] at h; done) | skip
  · rename_i c
    obtain ⟨callee, args, ts⟩ := c
    cases callee with
    | builtin b => simp [touches] at h
    | invoke r m => simp [touches] at h
    | value f =>
      cases f with
      | func g => simp only [touches, Bool.or_eq_false_iff] at h; simp only [changes]; exact h.1
      | tmp t => simp [touches] at h
      | const t => simp [touches] at h
      | global t => simp [touches] at h
theorem pur1_nil {rows : List (Nat × Row)} : ∀ (n : Nat) (v : AV) (p : AV × List Nat), v.refs = [] → pur1 rows n v = some p → p.2 = [] := by
  intro n
  induction n with
  | zero => intro v p _ h; simp [pur1] at h
  | succ n ih =>
    intro v p hv h
    have hL : ∀ (cs : List AV) (q : List AV × List Nat), AV.refss cs = [] → purL (pur1 rows n) cs = some q → q.2 = [] := by
      intro cs
      induction cs with
      | nil => intro q _ h; simp [purL] at h; subst h; rfl
      | cons c cs ihc =>
        intro q hr h
        simp only [AV.refss, List.append_eq_nil_iff] at hr
        simp only [purL] at h
        cases h1 : pur1 rows n c with
        | none => simp [h1] at h
        | some p1 =>
          cases h2 : purL (pur1 rows n) cs with
          | none => simp [h1, h2] at h
          | some p2 =>
            simp [h1, h2] at h
            subst h
            simp [ih c p1 hr.1 h1, ihc p2 hr.2 h2]
    cases v <;> simp only [pur1] at h
    case ptr => simp [AV.refs] at hv
    case eptr => simp [AV.refs] at hv
    case own => simp [AV.refs] at hv
    case sub => simp [AV.refs] at hv
    case agg cs =>
      cases hp : purL (pur1 rows n) cs with
      | none => simp [hp] at h
      | some q => simp [hp] at h; subst h; exact hL cs q hv hp
    case tup cs =>
      cases hp : purL (pur1 rows n) cs with
      | none => simp [hp] at h
      | some q => simp [hp] at h; subst h; exact hL cs q hv hp
    case fn f cs =>
      cases hp : purL (pur1 rows n) cs with
      | none => simp [hp] at h
      | some q => simp [hp] at h; subst h; exact hL cs q hv hp
    all_goals first | (cases h; rfl) | cases h
theorem purL_nil {rows : List (Nat × Row)} (n : Nat) : ∀ (cs : List AV) {q : List AV × List Nat}, (∀ c ∈ cs, c.refs = []) → purL (pur1 rows n) cs = some q → q.2 = []
  | [], q, _, h => by simp [purL] at h; subst h; rfl
  | c :: cs, q, hr, h => by
    simp only [purL] at h
    cases h1 : pur1 rows n c with
    | none => simp [h1] at h
    | some p1 =>
      cases h2 : purL (pur1 rows n) cs with
      | none => simp [h1, h2] at h
      | some p2 =>
        simp [h1, h2] at h
        subst h
        simp [pur1_nil n c p1 (hr c (by simp)) h1, purL_nil n cs (fun x hx => hr x (by simp [hx])) h2]

theorem eff_shape (hN : NatOK Γ) {o : Oper} {tm : List AV} {rows : List (Nat × Row)} {e : Eff} (h : evOp P Γ site o tm rows some = some e) : Shape Γ o rows e := by
  unfold evOp at h
  split at h
  · cases h; exact shape_slot _ _ _
  · cases h; exact shape_slot _ _ _
  · split at h
    · rename_i t _; cases t <;> (cases h; exact shape_slot _ _ _)
    · cases h
  · rename_i t ho
    split at h
    · cases h; exact ⟨fun _ => ⟨rfl, rfl, rfl, rfl, rfl⟩, fun hc => by simp [ho, touches] at hc, fun id h => by simp at h⟩
    · cases h
  · rename_i t x ho
    split at h
    · cases h; exact ⟨fun _ => ⟨rfl, rfl, rfl, rfl, rfl⟩, fun hc => by simp [ho, touches] at hc, fun id h => by simp at h⟩
    · cases h
  · split at h
    · split at h
      · split at h
        · cases h; exact shape_slot _ _ _
        · cases h
      · cases h
    · cases h
  · rename_i t len parts ho
    split at h
    · split at h
      · split at h
        · cases h; exact shape_slot _ _ _
        · cases h
      · split at h
        · cases h
        · split at h
          · split at h
            · rename_i q hq
              split at h
              · split at h
                · cases h
                  exact ⟨fun _ => ⟨rfl, rfl, rfl, rfl, rfl⟩, fun hc => by simp [ho, touches] at hc, purL_in (rows := rows) (pur1_in depth) _ _ hq⟩
                · cases h
              · cases h
            · cases h
          · cases h
    · cases h
  · split at h
    · split at h
      · exact shape_load _ _ h
      · cases h
    · exact shape_load _ _ h
    · exact shape_load _ _ h
    · split at h
      · obtain ⟨_, h⟩ := bif_some h; exact shape_load _ _ h
      · cases h
    · cases h
  · rename_i t x z ho
    split at h
    · split at h
      · split at h
        · split at h
          · cases h
            exact ⟨fun hc => by simp [ho, changes] at hc, fun hc => by simp [ho, touches] at hc, fun id h => by simp at h⟩
          · cases h
        · cases h
      · split at h
        · rename_i p hp
          split at h
          · split at h
            · obtain ⟨_, h⟩ := bif_some h
              cases h
              exact ⟨fun hc => by simp [ho, changes] at hc, fun hc => by simp [ho, touches] at hc, pur1_in _ _ _ hp⟩
            · cases h
          · cases h
        · cases h
      · cases h
    · cases h
  · split at h <;> first | (cases h; exact shape_slot _ _ _) | cases h
  · split at h
    · exact shape_nil _ _ h
    · exact shape_bin _ _ h
  · split at h <;> first | (cases h; exact shape_slot _ _ _) | cases h
  · split at h <;> first | (cases h; exact shape_slot _ _ _) | cases h
  · split at h <;> first | (cases h; exact shape_slot _ _ _) | cases h
  · rename_i t x lo hi mx ho
    split at h
    · split at h
      · split at h
        · obtain ⟨_, h⟩ := bif_some h; cases h; exact shape_slot _ _ _
        · cases h
      · split at h
        · split at h
          · cases h
          · rename_i im s e' es sp _ _
            split at h
            · rename_i hx2
              have hext : (!Γ.ext.isEmpty && lo.isNone) = true := by
                simp only [Bool.and_eq_true] at hx2 ⊢
                refine ⟨?_, hx2.2⟩
                cases he : Γ.ext with
                | nil => rw [he] at hx2; simp at hx2
                | cons a l => rfl
              split at h
              · obtain ⟨_, h⟩ := bif_some h
                cases h
                exact ⟨fun hc => by (rw [ho] at hc; simp only [changes] at hc; rw [hc] at hext; cases hext), fun hc => by simp [ho, touches] at hc, fun id h => by simp at h⟩
              · cases h
            · obtain ⟨_, h⟩ := bif_some h; cases h; exact shape_slot _ _ _
        · cases h
        split at h
        · rename_i hp
          split at h
          · cases h
          · split at h
            · obtain ⟨_, h⟩ := bif_some h
              cases h
              exact ⟨fun _ => ⟨rfl, rfl, rfl, rfl, rfl⟩, fun hc => by simp [ho, touches] at hc, pur1_in _ _ _ hp⟩
            · split at h
              · split at h
                · cases h; exact shape_slot _ _ _
                · cases h
              · cases h
        · cases h
      · cases h
    · cases h
  · split at h
    · split at h
      · cases h
      · split at h <;> first | (cases h; exact shape_slot _ _ _) | cases h
    · cases h
  · split at h
    · split at h
      · split at h
        · split at h
          · cases h; exact shape_slot _ _ _
          · cases h
        · split at h
          · split at h
            · cases h; exact shape_slot _ _ _
            · cases h
          · cases h
      · cases h
    · cases h
  · split at h
    · split at h
      · split at h
        · obtain ⟨_, h⟩ := bif_some h; cases h; exact shape_slot _ _ _
        · cases h
      · split at h
        · split at h
          · obtain ⟨_, h⟩ := bif_some h; cases h; exact shape_slot _ _ _
          · cases h
        · cases h
      · split at h
        · split at h
          · obtain ⟨_, h⟩ := bif_some h; cases h; exact shape_slot _ _ _
          · cases h
        · cases h
      · cases h
    · cases h
  · split at h
    · split at h
      · obtain ⟨_, h⟩ := bif_some h; cases h; exact shape_slot _ _ _
      · split at h
        · cases h
        · split at h
          · obtain ⟨_, h⟩ := bif_some h; cases h; exact shape_slot _ _ _
          · cases h
      · cases h
    · cases h
  · split at h
    · split at h
      · cases h; exact shape_slot _ _ _
      · cases h
    · cases h
  · rename_i t l c ho
    split at h
    · split at h
      · obtain ⟨_, h⟩ := bif_some h; cases h; exact ⟨fun _ => ⟨rfl, rfl, rfl, rfl, rfl⟩, fun hc => by simp [ho, touches] at hc, fun id h => by simp at h⟩
      · cases h
    · cases h
  · rename_i b args ts ho
    rw [evBuiltin_eq] at h
    unfold evBuiltin0 at h
    split at h
    · unfold evLen at h
      repeat' split at h
      all_goals first | (cases h; exact shape_slot _ _ _) | cases h
    · split at h <;> first | (cases h; exact shape_slot _ _ _) | cases h
    · split at h <;> first | (cases h; exact shape_slot _ _ _) | cases h
    · repeat' split at h
      all_goals first | (cases h; exact shape_slot _ _ _) | cases h
    · have hch : changes Γ o.op = true := by rw [ho]; rfl
      have hto : touches Γ o.op = true := by rw [ho]; rfl
      have hno : ∀ e : Eff, e.imm = [] → Shape Γ o rows e := fun e he => ⟨fun hc => absurd (hch.symm.trans hc) (by simp), fun hc => absurd (hto.symm.trans hc) (by simp), fun id h => by rw [he] at h; simp at h⟩
      repeat' split at h
      all_goals first | cases h | (obtain ⟨_, h⟩ := bif_some h; cases h; exact hno _ rfl)
    · have hch : changes Γ o.op = true := by rw [ho]; rfl
      have hto : touches Γ o.op = true := by rw [ho]; rfl
      have hno : ∀ e : Eff, e.imm = [] → Shape Γ o rows e := fun e he => ⟨fun hc => absurd (hch.symm.trans hc) (by simp), fun hc => absurd (hto.symm.trans hc) (by simp), fun id h => by rw [he] at h; simp at h⟩
      repeat' split at h
      all_goals first | cases h | (obtain ⟨_, h⟩ := bif_some h; cases h; exact hno _ rfl)
    · have hch : changes Γ o.op = true := by rw [ho]; rfl
      have hto : touches Γ o.op = true := by rw [ho]; rfl
      have hno : ∀ e : Eff, e.imm = [] → Shape Γ o rows e := fun e he => ⟨fun hc => absurd (hch.symm.trans hc) (by simp), fun hc => absurd (hto.symm.trans hc) (by simp), fun id h => by rw [he] at h; simp at h⟩
      repeat' split at h
      all_goals first | cases h | (obtain ⟨_, h⟩ := bif_some h; cases h; exact hno _ rfl)
    · have hch : changes Γ o.op = true := by rw [ho]; rfl
      have hto : touches Γ o.op = true := by rw [ho]; rfl
      have hno : ∀ e : Eff, e.imm = [] → Shape Γ o rows e := fun e he => ⟨fun hc => absurd (hch.symm.trans hc) (by simp), fun hc => absurd (hto.symm.trans hc) (by simp), fun id h => by rw [he] at h; simp at h⟩
      split at h
      · cases h
      · split at h
        · split at h
          · cases h
          · split at h
            · split at h
              · obtain ⟨_, h⟩ := bif_some h; cases h; exact hno _ rfl
              · cases h
            · split at h
              · split at h
                · obtain ⟨_, h⟩ := bif_some h; cases h; exact hno _ rfl
                · cases h
              · cases h
            · cases h
        · cases h
    · cases h
  · rename_i f args ts ho
    split at h
    · rename_i g caps hfv
      split at h
      · rename_i F hF
        have hch : changes Γ o.op = true := by
          rw [ho]
          cases hcc : changes Γ (.call { callee := .value f, args := args, argTypes := ts }) with
          | true => rfl
          | false => rw [xOf_none hcc hfv] at hF; cases hF
        have hto : touches Γ o.op = true := by
          cases htt : touches Γ o.op with
          | true => rfl
          | false => rw [changes_touches htt] at hch; cases hch
        split at h
        · refine ⟨fun hc => absurd (hch.symm.trans hc) (by simp), fun hc => absurd (hto.symm.trans hc) (by simp), ?_⟩
          unfold evX at h
          split at h
          · cases h
          · rename_i p hp
            split at h
            · cases h
            · rename_i q hq
              split at h
              · rw [hN.2 _ F (xOf_find hF) Eff] at h
                generalize F _ _ _ _ = x at h
                cases x with
                | none => cases h
                | some x =>
                  simp only [Option.bind_some] at h
                  split at h
                  · cases h
                    intro id hid
                    simp only [List.mem_append] at hid
                    rcases hid with hid | hid
                    · exact purL_in (rows := rows) (opn1_in depth) _ _ hp id hid
                    · exact rowsAt_in _ _ hq id hid
                  · cases h
              · cases h
        · cases h
      split at h
      · rename_i p hp
        split at h
        · rename_i F hF
          split at h
          · rw [hN.1 _ F hF Eff] at h
            generalize F AV (AV.nzs p.1) some = x at h
            cases x with
            | none => cases h
            | some x =>
            cases h
            refine ⟨fun _ => ⟨rfl, rfl, rfl, rfl, rfl⟩, fun hc => ?_, fun id hid => ?_⟩
            · rw [ho] at hc
              cases f with
              | tmp t => simp [touches] at hc
              | const t => simp [touches] at hc
              | global t => simp [touches] at hc
              | func g0 =>
                simp only [touches, Bool.or_eq_false_iff, Bool.not_eq_false'] at hc
                simp only [val, AV.fn.injEq] at hfv
                obtain ⟨rfl, rfl⟩ := hfv
                rw [List.append_nil] at hp
                have := purL_nil depth _ (valsT_const tm ts.toList args.toList (by simpa using hc.2)) hp
                refine ⟨rfl, ?_⟩
                show (if _ then _ else p.2) = []
                rw [this]
                split <;> rfl
            simp only at hid
            split at hid
            · simp at hid
            · exact purL_in (rows := rows) (pur1_in depth) _ _ hp id hid
          · cases h
        · cases h
      · cases h
    · cases h
  · cases h
end shape

/-! ### Steps -/
section steps
variable {P : Program} {Γ : Env} {rid : Nat} {ops : Array Oper} {tab : List (List Nat)}

def runAt (P : Program) (Γ : Env) (rid : Nat) (tab : List (List Nat)) (i : Nat) (o : Oper) (st : St) : Option St :=
  (evOp P Γ (rid * 64 + i) o st.tm (visible rid (tab.getD i []) st.rows) some).bind fun e => if freshB (rid * 64 + i) e st.used then some (apply (rid * 64 + i) o.dst e st) else none
def skipAt (o : Oper) (st : St) : St := ⟨putTm st.tm o.dst .undef, st.rows, st.used⟩
def stepD (P : Program) (Γ : Env) (rid : Nat) (ops : Array Oper) (tab : List (List Nat)) (i : Nat) (st : St) : Option St :=
  match ops[i]? with
  | none => some st
  | some o =>
    match o.guard with
    | none => runAt P Γ rid tab i o st
    | some (j, want) =>
      match guardAt ops.toList st.tm j with
      | .bool b => if b == want then runAt P Γ rid tab i o st else some (skipAt o st)
      | .undef => some (skipAt o st)
      | _ => none
def runL (P : Program) (Γ : Env) (rid : Nat) (ops : Array Oper) (tab : List (List Nat)) : List Nat → St → Option St
  | [], st => some st
  | i :: l, st => (stepD P Γ rid ops tab i st).bind (runL P Γ rid ops tab l)

theorem evOps_runL (hN : NatOK Γ) {ρ : Type} {k : St → Option ρ} {r : ρ} : ∀ (l : List Oper) (i : Nat) (st : St), (∀ j, l[j]? = ops[i + j]?) → evOps P Γ rid ops.toList (some tab) k i l st = some r → ∃ st', runL P Γ rid ops tab (List.range' i l.length) st = some st' ∧ k st' = some r
  | [], i, st, _, h => ⟨st, rfl, h⟩
  | o :: rest, i, st, hl, h => by
    have ho : ops[i]? = some o := by have := hl 0; simpa using this.symm
    have hl' : ∀ j, rest[j]? = ops[i + 1 + j]? := fun j => by have := hl (j + 1); simpa [Nat.add_assoc, Nat.add_comm 1 j] using this
    have run : evOp P Γ (rid * 64 + i) o st.tm (visible rid (tab.getD i []) st.rows) (fun e => if freshB (rid * 64 + i) e st.used then (apply (rid * 64 + i) o.dst e st).force fun st1 => decideAt ops.toList i o.dst st1 (evOps P Γ rid ops.toList (some tab) k (i + 1) rest) else none) = some r →
        ∃ s1, runAt P Γ rid tab i o st = some s1 ∧ ∃ st', runL P Γ rid ops tab (List.range' (i + 1) rest.length) s1 = some st' ∧ k st' = some r := fun hr => by
      rw [evOp_bind hN] at hr
      cases he : evOp P Γ (rid * 64 + i) o st.tm (visible rid (tab.getD i []) st.rows) some with
      | none => rw [he] at hr; cases hr
      | some e =>
        simp only [he, Option.bind_some] at hr
        by_cases hf : freshB (rid * 64 + i) e st.used = true
        · simp only [hf, if_true, St.force_eq] at hr
          exact ⟨_, by simp only [runAt, he, Option.bind_some, hf, if_true], evOps_runL hN rest (i + 1) _ hl' (decideAt_eq hr)⟩
        · simp [hf] at hr
    simp only [evOps] at h
    simp only [List.length_cons, List.range'_succ, runL, stepD, ho]
    split at h
    · rename_i hg
      obtain ⟨s1, h1, h2⟩ := run h
      simp only [hg, h1, Option.bind_some]
      exact h2
    · rename_i j want hg
      split at h
      · rename_i b hb
        cases hbw : (b == want) with
        | true =>
          simp only [hbw, cond_true] at h
          obtain ⟨s1, h1, h2⟩ := run h
          simp only [hg, hb, hbw, if_true, h1, Option.bind_some]
          exact h2
        | false =>
          simp only [hbw, cond_false] at h
          simp only [hg, hb, hbw]
          exact evOps_runL hN rest (i + 1) _ hl' h
      · rename_i hb
        simp only [hg, hb, Option.bind_some]
        exact evOps_runL hN rest (i + 1) _ hl' h
      · cases h

/-! States that say the same. -/
structure Eqv (s t : St) : Prop where
  tm : s.tm = t.tm
  rows : ∀ id, lookup s.rows id = lookup t.rows id
  used : ∀ id, id ∈ s.used ↔ id ∈ t.used
theorem Eqv.refl (s : St) : Eqv s s := ⟨rfl, fun _ => rfl, fun _ => Iff.rfl⟩
theorem Eqv.symm {s t : St} (h : Eqv s t) : Eqv t s := ⟨h.tm.symm, fun i => (h.rows i).symm, fun i => (h.used i).symm⟩
theorem Eqv.trans {s t u : St} (h : Eqv s t) (h' : Eqv t u) : Eqv s u := ⟨h.tm.trans h'.tm, fun i => (h.rows i).trans (h'.rows i), fun i => (h.used i).trans (h'.used i)⟩
theorem RelX.eqv {w0 : World} {S0 : Nat → Prop} {B : Ctx} {s t : St} {a : Act} {w : World} (h : RelX w0 S0 B s a w) (e : Eqv s t) : RelX w0 S0 B t a w := by
  obtain ⟨S, β, og, hR, hO⟩ := h
  exact ⟨S, β, og, ⟨e.tm ▸ hR.tm, hR.df, fun id r hr => hR.row id r ((e.rows id).trans hr), hR.inj, hR.lt, fun id x hx => (e.used id).1 (hR.used id x hx), hR.one, hR.Slt, hR.Ble, hR.pid⟩, hO⟩

theorem lookup_visible (rid : Nat) (bef : List Nat) (rows : List (Nat × Row)) (id : Nat) : lookup (visible rid bef rows) id = if !ofReg rid id || bef.contains (id % 64) then lookup rows id else none := by
  induction rows with
  | nil => simp [visible, lookup]
  | cons x rest ih =>
    obtain ⟨i, r⟩ := x
    simp only [visible]
    by_cases hv : (!ofReg rid i || bef.contains (i % 64)) = true
    · rw [if_pos hv]
      simp only [lookup]
      by_cases e : i = id
      · subst e; rw [if_pos rfl, if_pos hv, if_pos rfl]
      · rw [if_neg e, if_neg e, ih]
    · rw [if_neg hv]
      simp only [lookup]
      by_cases e : i = id
      · subst e; rw [if_neg hv] at ih; rw [ih, if_neg hv]
      · rw [if_neg e, ih]

def frz (ids : List Nat) (id : Nat) (r : Row) : Row := if ids.contains id then r.freeze else r
theorem freeze_freeze (r : Row) : r.freeze.freeze = r.freeze := by cases r <;> rfl

theorem foldl_set_look : ∀ (l : List (Nat × Row)) {a b : List (Nat × Row)}, (∀ id, lookup a id = lookup b id) → ∀ id, lookup (l.foldl (fun rs p => setRow rs p.1 p.2) a) id = lookup (l.foldl (fun rs p => setRow rs p.1 p.2) b) id
  | [], _, _, h, id => h id
  | (i, r) :: l, _, _, h, id => foldl_set_look l (fun k => by simp only [lookup_setRow, h]) id
theorem foldl_del_look : ∀ (l : List Nat) {a b : List (Nat × Row)}, (∀ id, lookup a id = lookup b id) → ∀ id, lookup (l.foldl delRow a) id = lookup (l.foldl delRow b) id
  | [], _, _, h, id => h id
  | i :: l, _, _, h, id => foldl_del_look l (fun k => by simp only [lookup_delRow, h]) id
/-- What the rows are behind an operation. -/
theorem lookup_apply (site : Nat) (e : Eff) (h1 : e.dels = []) (h2 : e.mods = []) (h3 : e.news = []) (rows : List (Nat × Row)) (id : Nat) : lookup (applyRows site e rows) id =
    match e.new with
    | some r => if id = site then some r else (match e.mod with | some p => if id = p.1 then some p.2 else (match e.del with | some d => if id = d then none else lookup rows id | none => lookup rows id) | none => (match e.del with | some d => if id = d then none else lookup rows id | none => lookup rows id)).map (frz e.imm id)
    | none => (match e.mod with | some p => if id = p.1 then some p.2 else (match e.del with | some d => if id = d then none else lookup rows id | none => lookup rows id) | none => (match e.del with | some d => if id = d then none else lookup rows id | none => lookup rows id)).map (frz e.imm id) := by
  have hnil : ∀ x : Option Row, x.map (frz [] id) = x := fun x => by cases x <;> rfl
  have hcons : ∀ (i : Nat) (is : List Nat) (rs : List (Nat × Row)), lookup (setImm (i :: is) rs) id = (lookup rs id).map (frz (i :: is) id) := fun i is rs => by rw [lookup_setImm]; rfl
  unfold applyRows
  rw [h1, h2, h3]
  cases hn : e.new <;> cases hm : e.mod <;> cases hd : e.del <;> cases hi : e.imm <;> simp only [List.foldl_nil, lookup_setRow, hcons, hnil, lookup_delRow]

theorem applyRows_look (site : Nat) (e : Eff) {a b : List (Nat × Row)} (h : ∀ id, lookup a id = lookup b id) : ∀ id, lookup (applyRows site e a) id = lookup (applyRows site e b) id := by
  unfold applyRows
  refine foldl_set_look _ (foldl_set_look _ (foldl_del_look _ fun id => ?_))
  cases e.new <;> cases e.mod <;> cases e.del <;> cases e.imm <;> simp only [lookup_setRow, lookup_setImm, lookup_delRow, h]

theorem apply_eqv {s t : St} (h : Eqv s t) (site : Nat) (dst : Option Tmp) (e : Eff) : Eqv (apply site dst e s) (apply site dst e t) := by
  refine ⟨by simp only [apply, h.tm], applyRows_look site e h.rows, fun id => ?_⟩
  simp only [apply, List.mem_append]
  cases e.new with
  | none => simp only [h.used id]
  | some r => simp only [List.mem_cons, h.used id]
theorem fresh_eqv {s t : St} (h : Eqv s t) (site : Nat) (e : Eff) : freshB site e s.used = freshB site e t.used := by
  have hc : ∀ i, s.used.contains i = t.used.contains i := fun i => by
    rw [Bool.eq_iff_iff]
    simpa using h.used i
  unfold freshB
  simp only [hc]
theorem runAt_eqv {s t s' : St} (h : Eqv s t) {i : Nat} {o : Oper} (hr : runAt P Γ rid tab i o s = some s') : ∃ t', runAt P Γ rid tab i o t = some t' ∧ Eqv s' t' := by
  unfold runAt at hr ⊢
  have hev : evOp P Γ (rid * 64 + i) o t.tm (visible rid (tab.getD i []) t.rows) some = evOp P Γ (rid * 64 + i) o s.tm (visible rid (tab.getD i []) s.rows) some := by
    rw [← h.tm]
    exact evOp_look (fun id => by rw [lookup_visible, lookup_visible, h.rows id]) o s.tm some
  rw [hev]
  cases he : evOp P Γ (rid * 64 + i) o s.tm (visible rid (tab.getD i []) s.rows) some with
  | none => rw [he] at hr; cases hr
  | some e =>
    simp only [he, Option.bind_some] at hr ⊢
    rw [← fresh_eqv h]
    split at hr
    · rename_i hf
      cases hr
      exact ⟨_, by rw [if_pos hf], apply_eqv h _ _ _⟩
    · cases hr
theorem skip_eqv {s t : St} (h : Eqv s t) (o : Oper) : Eqv (skipAt o s) (skipAt o t) := ⟨by simp only [skipAt, h.tm], h.rows, h.used⟩
theorem stepD_eqv {s t s' : St} (h : Eqv s t) {i : Nat} (hr : stepD P Γ rid ops tab i s = some s') : ∃ t', stepD P Γ rid ops tab i t = some t' ∧ Eqv s' t' := by
  unfold stepD at hr ⊢
  split at hr
  · cases hr; exact ⟨t, rfl, h⟩
  · rename_i o ho
    split at hr
    · rename_i hg
      obtain ⟨t', h1, h2⟩ := runAt_eqv h hr
      exact ⟨t', h1, h2⟩
    · rename_i j want hg
      rw [h.tm] at hr
      split at hr
      · rename_i b hb
        split at hr
        · rename_i hbw
          obtain ⟨t', h1, h2⟩ := runAt_eqv h hr
          exact ⟨t', by simp only [hbw, if_true]; exact h1, h2⟩
        · rename_i hbw
          cases hr
          exact ⟨_, by simp only [hbw]; rfl, skip_eqv h o⟩
      · cases hr; exact ⟨_, rfl, skip_eqv h o⟩
      · cases hr
theorem runL_eqv : ∀ (l : List Nat) {s t s' : St}, Eqv s t → runL P Γ rid ops tab l s = some s' → ∃ t', runL P Γ rid ops tab l t = some t' ∧ Eqv s' t'
  | [], s, t, s', h, hr => by simp [runL] at hr; subst hr; exact ⟨t, rfl, h⟩
  | i :: l, s, t, s', h, hr => by
    simp only [runL] at hr ⊢
    cases h1 : stepD P Γ rid ops tab i s with
    | none => simp [h1] at hr
    | some s1 =>
      simp only [h1, Option.bind_some] at hr
      obtain ⟨t1, h2, h3⟩ := stepD_eqv h h1
      obtain ⟨t', h4, h5⟩ := runL_eqv l h3 hr
      exact ⟨t', by rw [h2, Option.bind_some]; exact h4, h5⟩
end steps

end Go.Ev
