/-
  The operations, fourth part: len, min, max, append, literals, stores.
-/
import Derived.Test.YthacpbjcgmbplaaEvD
import Derived.Laws.StructEq
import Derived.Laws.Cover3
/-
  The steps of a state: a slot written, a row made or changed; operands.
-/
namespace Go.Ev
open Go.RowKit

theorem VRels.set {w : World} {S : Nat → Prop} {β : Bet} {cs : List AV} {vs : List Value} (h : VRels w S β cs vs) (d : Nat) {v : AV} {u : Value} (hv : VRel w S β v u) : VRels w S β (cs.set d v) (vs.set d u) := by
  refine ⟨by simp [h.1], fun j c x hc hx => ?_⟩
  rw [List.getElem?_set] at hc hx
  by_cases hd : d = j
  · subst hd
    simp only [if_pos] at hc hx
    split at hc
    · rename_i hlt
      rw [if_pos (by rw [h.1]; exact hlt)] at hx
      cases hc; cases hx; exact hv
    · cases hc
  · rw [if_neg hd] at hc hx
    exact h.2 j c x hc hx

/-- A state, as it stands since the call began in world w0 with what lies in S0 to be looked at. -/
structure Out (w0 : World) (S0 : Nat → Prop) (B : Ctx) (w : World) (S : Nat → Prop) : Prop where
  bel : Kept B w0 w
  sin : ∀ b, S b → S0 b ∨ ¬ B b
  sub : ∀ b, S0 b → S b

def RelX (w0 : World) (S0 : Nat → Prop) (B : Ctx) (st : St) (a : Act) (w : World) : Prop :=
  ∃ S β og, Rel w S B β og st a ∧ Out w0 S0 B w S

theorem Act.put_tmps (a : Act) (dst : Option Tmp) (u : Value) : (a.put dst u).tmps.toList = (match dst with | some d => a.tmps.toList.set d u | none => a.tmps.toList) := by
  cases dst <;> simp [Act.put]
theorem Act.put_defers (a : Act) (dst : Option Tmp) (u : Value) : (a.put dst u).defers = a.defers := by
  cases dst <;> rfl

theorem tm_put {w : World} {S : Nat → Prop} {β : Bet} {tm : List AV} {a : Act} (h : VRels w S β tm a.tmps.toList) (dst : Option Tmp) {v : AV} {u : Value} (hv : VRel w S β v u) :
    VRels w S β (putTm tm dst v) (a.put dst u).tmps.toList := by
  rw [Act.put_tmps]
  cases dst with
  | none => exact h
  | some d => exact h.set d hv

theorem Rel.put {w : World} {S : Nat → Prop} {B : Ctx} {β : Bet} {og : Nat → Option Nat} {st : St} {a : Act} (h : Rel w S B β og st a) (dst : Option Tmp) {v : AV} {u : Value} (hv : VRel w S β v u) :
    Rel w S B β og ⟨putTm st.tm dst v, st.rows, st.used⟩ (a.put dst u) :=
  ⟨tm_put h.tm dst hv, by rw [Act.put_defers]; exact h.df, h.row, h.inj, h.lt, h.used, h.one, h.Slt, h.Ble, h.pid⟩

theorem RowRel.keep {w w' : World} {S S' : Nat → Prop} {B : Nat → Prop} {β β' : Bet} {id : Nat} {og : Option Nat} {r : Row} (h : RowRel w S B β id og r)
    (hβ : ∀ id x, β id = some x → β' id = some x) (hS : ∀ b, S b → S' b) (hS2 : ∀ g, og = some g → S' g → S g) (hw : ∀ b, S b → w'.heap[b]? = w.heap[b]?)
    (hog : ∀ g, og = some g → w'.heap[g]? = w.heap[g]?) : RowRel w' S' B β' id og r := by
  cases r with
  | box imm cs =>
    obtain ⟨g, vs, t, ho, hb, hh, h1, hv, hi, hj, hB⟩ := h
    exact ⟨g, vs, t, ho, hβ _ _ hb, (hog g ho).trans hh, h1, hv.mono hS hw hβ, fun e hs => hi e (hS2 g ho hs), fun e => hS _ (hj e), hB⟩
  | arr imm s e es csp =>
    obtain ⟨hp, v, sp, xs, hsh, hcs, hb, h1, hv, hor⟩ := h
    refine ⟨hp, v, sp, xs, hsh, hcs, hβ _ _ hb, h1, hv.mono hS hw (fun _ _ h => h), ?_⟩
    rcases hor with ⟨he, hs, ho, A, hA⟩ | ⟨g, ho, hvv, hB, hh, hm, hi, hj⟩
    · exact .inl ⟨he, hs, ho, A, hA⟩
    · exact .inr ⟨g, ho, hvv, hB, hh.keep (hog g ho), hm, fun e hs => hi e (hS2 g ho hs), fun e => hS _ (hj e)⟩
  | foc imm s e pre cs post =>
    obtain ⟨hp, hcl, g, sp, xs, us, ys, h1, h2, ho, hb, h3, vx, vu, vy, hB, hh, hm, hi, hj⟩ := h
    exact ⟨hp, hcl, g, sp, xs, us, ys, h1, h2, ho, hβ _ _ hb, h3, vx.mono hS hw (fun _ _ h => h), vu.mono hS hw hβ, vy.mono hS hw (fun _ _ h => h), hB, hh.keep (hog g ho), hm, fun e hs => hi e (hS2 g ho hs), fun e => hS _ (hj e)⟩

/-- The world has grown; nothing that the state speaks of has changed. -/
theorem Rel.grow {w w' : World} {S S' : Nat → Prop} {B : Ctx} {β : Bet} {og : Nat → Option Nat} {st : St} {a : Act} (h : Rel w S B β og st a) (hb : Below w.heap.size w w')
    (hS : ∀ b, S b → S' b) (hS2 : ∀ b, b < w.heap.size → S' b → S b) (hlt : ∀ b, S' b → b < w'.heap.size) : Rel w' S' B β og st a := by
  have hw : ∀ b, S b → w'.heap[b]? = w.heap[b]? := fun b hs => hb.block b (h.Slt b hs)
  exact ⟨h.tm.mono hS hw (fun _ _ h => h), h.df, fun id r hr => (h.row id r hr).keep (fun _ _ h => h) hS (fun g hg => hS2 g (h.lt id g hg)) hw (fun g hg => hb.block g (h.lt id g hg)),
    h.inj, fun id g hg => Nat.lt_of_lt_of_le (h.lt id g hg) hb.size, h.used, h.one, hlt, fun b hb' => Nat.lt_of_lt_of_le (h.Ble b hb') hb.size, h.pid⟩

def upd {α : Type} (f : Nat → Option α) (id : Nat) (x : Option α) : Nat → Option α := fun i => if i = id then x else f i
theorem upd_same {α : Type} (f : Nat → Option α) (id : Nat) (x : Option α) : upd f id x id = x := by simp [upd]
theorem upd_other {α : Type} (f : Nat → Option α) (id i : Nat) (x : Option α) (h : i ≠ id) : upd f id x i = f i := by simp [upd, h]

def Fresh (site : Nat) (used : List Nat) : Prop := site ∉ used ∧ site < PID
theorem fresh_of {site : Nat} {e : Eff} {used : List Nat} {r : Row} (hn : e.new = some r) (h : freshB site e used = true) : Fresh site used := by
  simp only [freshB, hn, Bool.and_eq_true, Bool.not_eq_true'] at h
  obtain ⟨⟨h1, h2⟩, _⟩ := h
  exact ⟨by simpa using h1, Nat.blt_eq ▸ h2⟩
theorem pid_upd {B : Ctx} {β : Bet} {site : Nat} {y : Option (Value × Nat)} (h : ∀ id x, PID ≤ id → β id = some x → B.bet id = some x) (hs : site < PID) : ∀ id x, PID ≤ id → upd β site y id = some x → B.bet id = some x := by
  intro id x hp hx
  rw [upd_other _ _ _ _ (by omega)] at hx
  exact h id x hp hx
/-- A new row in a new block. -/
theorem Rel.new {w : World} {S : Nat → Prop} {B : Ctx} {β : Bet} {og : Nat → Option Nat} {st : St} {a : Act} (h : Rel w S B β og st a) (site : Nat) (hf : Fresh site st.used) (dst : Option Tmp)
    {w' : World} {S' : Nat → Prop} {r : Row} {v : AV} {u x : Value} {wd : Nat} {o : Option Nat} (hb : Below w.heap.size w w') (hS : ∀ b, S b → S' b) (hS2 : ∀ b, b < w.heap.size → S' b → S b) (hlt : ∀ b, S' b → b < w'.heap.size)
    (hx : x.oneCell' = true) (ho : ∀ g, o = some g → w.heap.size ≤ g ∧ g < w'.heap.size)
    (hrow : RowRel w' S' B (upd β site (some (x, wd))) site o r) (hv : VRel w' S' (upd β site (some (x, wd))) v u) :
    Rel w' S' B (upd β site (some (x, wd))) (upd og site o) ⟨putTm st.tm dst v, setRow st.rows site r, site :: st.used⟩ (a.put dst u) := by
  have hβ : ∀ id y, β id = some y → upd β site (some (x, wd)) id = some y := fun id y hy => by
    have hne : id ≠ site := fun e => hf.1 (by rw [← e]; exact h.used id y hy)
    rw [upd_other _ _ _ _ hne]; exact hy
  have hw : ∀ b, S b → w'.heap[b]? = w.heap[b]? := fun b hs => hb.block b (h.Slt b hs)
  refine ⟨tm_put (h.tm.mono hS hw hβ) dst hv, by rw [Act.put_defers]; exact h.df, fun id y hy => ?_, fun id id' g hg hg' => ?_, fun id g hg => ?_, fun id y hy => ?_, fun id y hy => ?_, hlt, fun b hb' => Nat.lt_of_lt_of_le (h.Ble b hb') hb.size, pid_upd h.pid hf.2⟩
  · rw [lookup_setRow] at hy
    by_cases e : id = site
    · subst e
      simp only [if_pos] at hy
      cases hy
      rw [upd_same]
      exact hrow
    · rw [if_neg e] at hy
      rw [upd_other _ _ _ _ e]
      exact (h.row id y hy).keep hβ hS (fun g hg => hS2 g (h.lt id g hg)) hw (fun g hg => hb.block g (h.lt id g hg))
  · by_cases e : id = site <;> by_cases e' : id' = site
    · rw [e, e']
    · subst e
      rw [upd_same] at hg
      rw [upd_other _ _ _ _ e'] at hg'
      have := (ho g hg).1
      have := h.lt id' g hg'
      omega
    · subst e'
      rw [upd_same] at hg'
      rw [upd_other _ _ _ _ e] at hg
      have := (ho g hg').1
      have := h.lt id g hg
      omega
    · rw [upd_other _ _ _ _ e] at hg
      rw [upd_other _ _ _ _ e'] at hg'
      exact h.inj id id' g hg hg'
  · by_cases e : id = site
    · subst e; rw [upd_same] at hg; exact (ho g hg).2
    · rw [upd_other _ _ _ _ e] at hg; exact Nat.lt_of_lt_of_le (h.lt id g hg) hb.size
  · by_cases e : id = site
    · subst e; simp
    · rw [upd_other _ _ _ _ e] at hy; exact List.mem_cons_of_mem _ (h.used id y hy)
  · by_cases e : id = site
    · subst e; rw [upd_same] at hy; cases hy; exact hx
    · rw [upd_other _ _ _ _ e] at hy; exact h.one id y hy

/-! ### Operands -/
theorem ofCell_rel {w : World} {S : Nat → Prop} {β : Bet} (s : Sh) (v : Value) : VRel w S β (ofCell s v) v := by
  unfold ofCell
  split
  · exact .int _ _ _
  · exact .bool _ _
  · rename_i x; exact .str _ x.data.toList
  · split
    · exact .slz _ _ _
    · exact .unk _ _
  · exact .unk _ _
theorem ofCells_rel {w : World} {S : Nat → Prop} {β : Bet} : ∀ (l : List Sh) (vs : List Value), VRels w S β (ofCells l vs) vs
  | _, [] => VRels.nil
  | l, v :: vs => VRels.cons (ofCell_rel _ v) (ofCells_rel l.tail vs)
theorem ofVal_rel {w : World} {S : Nat → Prop} {β : Bet} (s : Sh) (v : Value) : VRel w S β (ofVal s v) v := by
  unfold ofVal
  split
  · rename_i cs
    split
    · rename_i h
      obtain ⟨l⟩ := cs
      have := ofCells_rel (w := w) (S := S) (β := β) s.cells l
      exact .agg _ _ _ this.1 (by simpa using h) this.2
    · exact .unk _ _
  · rename_i vs
    split
    · rename_i h
      have : vs = #[] := Array.eq_empty_of_size_eq_zero h
      subst this
      exact .undef _
    · exact .unk _ _
  · exact ofCell_rel s _
theorem ofLit_rel {w : World} {S : Nat → Prop} {β : Bet} (v : Value) : VRel w S β (ofLit v) v := by
  unfold ofLit
  split
  · exact .int _ _ _
  · exact .bool _ _
  · rename_i x; exact .str _ x.data.toList
  · exact .unk _ _

theorem getD_rel {w : World} {S : Nat → Prop} {β : Bet} {tm : List AV} {tmps : Array Value} (h : VRels w S β tm tmps.toList) (n : Nat) : VRel w S β (tm.getD n .unk) (tmps.getD n undef) := by
  cases hc : tm[n]? with
  | none => simp only [List.getD, hc, Option.getD_none]; exact .unk _ _
  | some c =>
    obtain ⟨u, hu, hv⟩ := h.at_ hc
    have : tmps.getD n undef = u := by
      rw [Array.getD_eq_getD_getElem?]
      have : tmps[n]? = some u := by simpa using hu
      rw [this]; rfl
    rw [this]
    simp only [List.getD, hc, Option.getD_some]
    exact hv

theorem val_rel {w : World} {S : Nat → Prop} {β : Bet} {tm : List AV} {a : Act} (h : VRels w S β tm a.tmps.toList) (x : Operand) : VRel w S β (val tm x) (a.eval x) := by
  cases x with
  | tmp t => exact getD_rel h t
  | const v => exact ofLit_rel v
  | global g => exact .unk _ _
  | func f => exact .fn _ f [] [] rfl (fun j c u hc => by simp at hc)
theorem valT_rel {w : World} {S : Nat → Prop} {β : Bet} {tm : List AV} {a : Act} (h : VRels w S β tm a.tmps.toList) (P : Program) (t : TypeId) (x : Operand) : VRel w S β (valT P tm t x) (a.eval x) := by
  cases x with
  | tmp t => exact getD_rel h t
  | const v => exact ofVal_rel _ v
  | global g => exact .unk _ _
  | func f => exact .fn _ f [] [] rfl (fun j c u hc => by simp at hc)
theorem valsT_rel {w : World} {S : Nat → Prop} {β : Bet} {tm : List AV} {a : Act} (h : VRels w S β tm a.tmps.toList) (P : Program) : ∀ (ts : List TypeId) (xs : List Operand), VRels w S β (valsT P tm ts xs) (xs.map a.eval)
  | _, [] => by unfold valsT; split <;> first | contradiction | exact VRels.nil
  | [], x :: xs => VRels.cons (val_rel h x) (valsT_rel h P [] xs)
  | t :: ts, x :: xs => VRels.cons (valT_rel h P t x) (valsT_rel h P ts xs)

theorem wp_value {P : Program} {o : Oper} {a : Act} {w w' : World} {K : Act → World → Prop} {Q : Exit → Act → World → Prop} {u : Value} (hr : (execOp a.eval o).run P w = .ok (.value u) w') (h : K (a.put o.dst u) w') : o.wp P a w K Q := by
  unfold Oper.wp; rw [hr]; exact h
theorem wp_skip' {P : Program} {o : Oper} {a : Act} {w w' : World} {K : Act → World → Prop} {Q : Exit → Act → World → Prop} (hr : (execOp a.eval o).run P w = .ok .skip w') (h : K (a.put o.dst undef) w') : o.wp P a w K Q := by
  unfold Oper.wp; rw [hr]; exact h

end Go.Ev

/-
  The operations, one by one: what the evaluator says of each is what the model does.
-/
namespace Go.Ev
open Go.RowKit

section ops
variable {ρ : Type} {P : Program} {w0 w : World} {S0 S : Nat → Prop} {B : Ctx} {β : Bet} {og : Nat → Option Nat} {st : St} {a : Act} {o : Oper} {site : Nat} {y : Eff → Option ρ} {r : ρ}
  {K : Act → World → Prop} {Q : Exit → Act → World → Prop}

def Good (w0 : World) (S0 : Nat → Prop) (B : Ctx) (site : Nat) (o : Oper) (st : St) (y : Eff → Option ρ) (r : ρ) (K : Act → World → Prop) : Prop :=
  ∀ e a' w', y e = some r → RelX w0 S0 B (apply site o.dst e st) a' w' → K a' w'

theorem Out.grow (hO : Out w0 S0 B w S) {w' : World} (hB : ∀ b, B b → b < w.heap.size) (hb : Below w.heap.size w w') : Out w0 S0 B w' S :=
  ⟨hO.bel.trans (Kept.of_below hb hB), hO.sin, hO.sub⟩

theorem op_slot (hR : Rel w S B β og st a) (hO : Out w0 S0 B w S) {v : AV} {u : Value} (hv : VRel w S β v u) (hy : y { v } = some r) (hK : Good w0 S0 B site o st y r K)
    (hrun : (execOp a.eval o).run P w = .ok (.value u) w) : o.wp P a w K Q :=
  wp_value hrun (hK _ _ _ hy ⟨S, β, og, hR.put o.dst hv, hO⟩)

theorem below_alloc (w : World) (x : Obj) : Below w.heap.size w (w.alloc x) := (Below.refl _ _).alloc (Nat.le_refl _) x

theorem op_newBox (hR : Rel w S B β og st a) (hO : Out w0 S0 B w S) (hf : Fresh site st.used) {cs : List AV} {vs : List Value} {t : TypeId} (hv : VRels w S β cs vs) (h1 : ∀ u ∈ vs, u.oneCell' = true)
    (hy : y { v := .ptr site 0, new := some (.box false cs) } = some r) (hK : Good w0 S0 B site o st y r K)
    (hrun : (execOp a.eval o).run P w = .ok (.value (.pointer (some ⟨w.heap.size, 0, none⟩))) (w.alloc (.cells vs.toArray t))) : o.wp P a w K Q := by
  have hb := below_alloc w (.cells vs.toArray t)
  have hlt : ∀ b, S b → b < (w.alloc (.cells vs.toArray t)).heap.size := fun b hs => by have := hR.Slt b hs; simp; omega
  refine wp_value hrun (hK _ _ _ hy ⟨S, _, _, hR.new site hf o.dst hb (fun _ h => h) (fun _ _ h => h) hlt (x := .pointer (some ⟨w.heap.size, 0, none⟩)) (wd := 1) (o := some w.heap.size) rfl
    (fun g hg => by cases hg; simp) ?_ (.ptr _ site 0 w.heap.size 1 (upd_same _ _ _)), hO.grow hR.Ble hb⟩)
  refine ⟨w.heap.size, vs, t, rfl, upd_same _ _ _, heap_alloc_new w _, h1, ?_, fun _ hs => absurd (hR.Slt _ hs) (Nat.lt_irrefl _), (fun h => by cases h), fun hB => Nat.lt_irrefl _ (hR.Ble _ hB)⟩
  refine hv.mono (fun _ h => h) (fun b hs => hb.block b (hR.Slt b hs)) (fun id x hx => ?_)
  have hne : id ≠ site := fun e => hf.1 (by rw [← e]; exact hR.used id x hx)
  rw [upd_other _ _ _ _ hne]; exact hx

/-! What a value of a known kind is. -/
theorem VRel.bool_inv {b : Bool} {v : Value} (h : VRel w S β (.bool b) v) : v = .bool b := by cases h; rfl
theorem VRel.int_inv {k : IntKind} {n : Int} {v : Value} (h : VRel w S β (.int k n) v) : v = .int k n := by cases h; rfl
theorem VRel.str_inv {s : List UInt8} {v : Value} (h : VRel w S β (.str s) v) : v = .string ⟨s.toArray⟩ := by cases h; rfl

theorem op_move (hR : Rel w S B β og st a) (hO : Out w0 S0 B w S) {x : Operand} (ho : o.op = .move x ∨ o.op = .assign x) (hy : y { v := valT P st.tm o.type x } = some r) (hK : Good w0 S0 B site o st y r K) : o.wp P a w K Q :=
  op_slot hR hO (valT_rel hR.tm P o.type x) hy hK (by rcases ho with h | h <;> simp [execOp, h])

theorem op_pick (hR : Rel w S B β og st a) (hO : Out w0 S0 B w S) {c x z : Operand} {t : Bool} (ho : o.op = .pick c x z) (hc : val st.tm c = .bool t)
    (hy : y { v := valT P st.tm o.type (if t then x else z) } = some r) (hK : Good w0 S0 B site o st y r K) : o.wp P a w K Q := by
  have h := val_rel hR.tm c
  rw [hc] at h
  refine op_slot hR hO (valT_rel hR.tm P o.type _) hy hK ?_
  simp only [execOp, ho, h.bool_inv, asBool]
  cases t <;> simp

theorem zeroAV_spec {t : TypeId} {cs : List AV} (h : zeroAV P t = some cs) : ∃ i v, P.info? t = some i ∧ i.zero = some v ∧ (ofVal (shOf P depth t) v).laidB = true ∧ cs = (ofVal (shOf P depth t) v).cells := by
  unfold zeroAV at h
  split at h
  · rename_i i hi
    split at h
    · rename_i v hv
      split at h
      · rename_i hl
        cases h
        exact ⟨i, v, hi, hv, hl, rfl⟩
      · cases h
    · cases h
  · cases h

theorem op_alloc (hR : Rel w S B β og st a) (hO : Out w0 S0 B w S) (hf : Fresh site st.used) {t : TypeId} (ho : o.op = .alloc t) {cs : List AV} (hz : zeroAV P t = some cs)
    (hy : y { v := .ptr site 0, new := some (.box false cs) } = some r) (hK : Good w0 S0 B site o st y r K) : o.wp P a w K Q := by
  obtain ⟨i, v, hi, hv, hl, rfl⟩ := zeroAV_spec hz
  obtain ⟨us, hc, hvs, h1⟩ := (ofVal_rel (w := w) (S := S) (β := β) (shOf P depth t) v).laid hl hR.one
  refine op_newBox hR hO hf (t := t) hvs h1 hy hK ?_
  simp [execOp, ho, Instr.alloc, zeroValue, typeInfo, hi, hv, newVar, newRow, hc]

theorem op_box (hR : Rel w S B β og st a) (hO : Out w0 S0 B w S) (hf : Fresh site st.used) {t : TypeId} {x : Operand} (ho : o.op = .box t x) (hl : (valT P st.tm t x).laidB = true)
    (hy : y { v := .ptr site 0, new := some (.box false (valT P st.tm t x).cells) } = some r) (hK : Good w0 S0 B site o st y r K) : o.wp P a w K Q := by
  obtain ⟨us, hc, hvs, h1⟩ := (valT_rel hR.tm P t x).laid hl hR.one
  refine op_newBox hR hO hf (t := t) hvs h1 hy hK ?_
  simp [execOp, ho, Instr.box, newVar, newRow, hc]

theorem op_extract (hR : Rel w S B β og st a) (hO : Out w0 S0 B w S) {x : Operand} {i : Nat} {vs : List AV} {v : AV} (ho : o.op = .extract x i) (hx : val st.tm x = .tup vs) (hv : vs[i]? = some v)
    (hy : y { v } = some r) (hK : Good w0 S0 B site o st y r K) : o.wp P a w K Q := by
  have h := val_rel hR.tm x
  rw [hx] at h
  generalize hu : a.eval x = u at h
  cases h with
  | tup _ _ us hl hh =>
    obtain ⟨u, hu', hvu⟩ := VRels.at_ (cs := vs) (vs := us) ⟨hl, hh⟩ hv
    refine op_slot hR hO hvu hy hK ?_
    simp [execOp, ho, hu, Instr.extract, hu']

theorem op_nilCheck (hR : Rel w S B β og st a) (hO : Out w0 S0 B w S) {x : Operand} {v : AV} (ho : o.op = .nilCheck x) (hx : val st.tm x = v)
    (hk : (∃ id off, v = .ptr id off) ∨ (∃ id i off, v = .eptr id i off) ∨ (∃ cs, v = .ref cs) ∨ (∃ s es i off, v = .eref s es i off) ∨ (∃ f cs, v = .fn f cs))
    (hy : y { v } = some r) (hK : Good w0 S0 B site o st y r K) : o.wp P a w K Q := by
  have h := val_rel hR.tm x
  rw [hx] at h
  refine op_slot hR hO h hy hK ?_
  have hr : (∃ ad, a.eval x = .pointer (some ad)) ∨ ∃ f cs, a.eval x = .func (.func f) #[] cs := by
    generalize a.eval x = u at h
    rcases hk with ⟨id, off, rfl⟩ | ⟨id, i, off, rfl⟩ | ⟨cs, rfl⟩ | ⟨s, es, i, off, rfl⟩ | ⟨f, cs, rfl⟩
    · cases h; exact .inl ⟨_, rfl⟩
    · cases h; exact .inl ⟨_, rfl⟩
    · cases h; exact .inl ⟨_, rfl⟩
    · cases h; exact .inl ⟨_, rfl⟩
    · cases h; exact .inr ⟨_, _, rfl⟩
  rcases hr with ⟨ad, he⟩ | ⟨f, cs, he⟩ <;> simp [execOp, ho, he]

theorem op_makeFunc (hR : Rel w S B β og st a) (hO : Out w0 S0 B w S) {f : Nat} {first captured : Array Operand} (ho : o.op = .makeFunc (.func f) first captured) (hf : first.size = 0)
    (hy : y { v := .fn f (captured.toList.map (val st.tm)) } = some r) (hK : Good w0 S0 B site o st y r K) : o.wp P a w K Q := by
  have hfe : first = #[] := Array.eq_empty_of_size_eq_zero hf
  subst hfe
  refine op_slot (u := .func (.func f) #[] (captured.toList.map a.eval).toArray) hR hO (.fn _ f _ _ (by simp) fun j c u hc hu => ?_) hy hK ?_
  · simp only [List.getElem?_map] at hc hu
    cases hj : captured.toList[j]? with
    | none => simp [hj] at hc
    | some x => simp [hj] at hc hu; subst hc; subst hu; exact val_rel hR.tm x
  · have hm : captured.map a.eval = (captured.toList.map a.eval).toArray := by apply Array.ext'; simp
    simp [execOp, ho, Instr.makeFunc, hm]

/-! ### Addresses -/
theorem fieldOf_spec {t : TypeId} {f : Nat} {fl : Field} (h : fieldOf P t f = some fl) : ∃ fs, P.underlying t = some (.struct fs) ∧ fs[f]? = some fl := by
  unfold fieldOf at h
  split at h
  · rename_i fs hfs; exact ⟨fs, hfs, h⟩
  · cases h

theorem cellsOf_info {t : TypeId} (h : P.cellsOf t ≠ 0) : ∃ i, P.info? t = some i ∧ i.size = P.cellsOf t := by
  unfold Program.cellsOf at h ⊢
  cases hi : P.info? t with
  | none => simp [hi] at h
  | some i => exact ⟨i, rfl, by simp⟩

theorem op_fieldAddr (hR : Rel w S B β og st a) (hO : Out w0 S0 B w S) {t : TypeId} {x : Operand} {f : Nat} {fl : Field} (ho : o.op = .fieldAddr t x f) (hfl : fieldOf P t f = some fl) (hz : P.cellsOf fl.type ≠ 0) {v v' : AV} (hx : val st.tm x = v)
    (hk : (∃ id off, v = .ptr id off ∧ v' = .ptr id (off + fl.offset)) ∨ (∃ id i off, v = .eptr id i off ∧ v' = .eptr id i (off + fl.offset)) ∨ (∃ cs, v = .ref cs ∧ v' = .ref (cs.drop fl.offset)) ∨
      (∃ s es i off, v = .eref s es i off ∧ v' = .eref s es i (off + fl.offset)))
    (hy : y { v := v' } = some r) (hK : Good w0 S0 B site o st y r K) : o.wp P a w K Q := by
  obtain ⟨fs, hfs, hf⟩ := fieldOf_spec hfl
  obtain ⟨i, hi, hsz⟩ := cellsOf_info hz
  have h := val_rel hR.tm x
  rw [hx] at h
  have hr : ∃ ad, a.eval x = .pointer (some ad) ∧ VRel w S β v' (.pointer (some (ad.add fl.offset))) := by
    generalize a.eval x = u at h
    rcases hk with ⟨id, off, rfl, rfl⟩ | ⟨id, i, off, rfl, rfl⟩ | ⟨cs, rfl, rfl⟩ | ⟨s, es, i, off, rfl, rfl⟩
    · cases h with
      | ptr _ _ _ g wd hb => exact ⟨_, rfl, by rw [add_lit']; exact .ptr _ id _ g wd hb⟩
    · cases h with
      | eptr _ _ _ _ g n c wd hb => exact ⟨_, rfl, by rw [add_lit', Nat.add_assoc]; exact .eptr _ id i _ g n c wd hb⟩
    · cases h with
      | ref _ _ ad xs hSa hl h1 hxs hh =>
        have hd := (VRels.drop (cs := cs) (vs := xs) ⟨hl, hh⟩ fl.offset)
        refine ⟨_, rfl, .ref _ _ _ (xs.drop fl.offset) (by rw [add_block]; exact hSa) hd.1 (fun u hu => h1 u (List.mem_of_mem_drop hu)) (fun j u hu => ?_) hd.2⟩
        rw [add_add]
        exact hxs _ u (by simpa using hu)
    · cases h with
      | eref _ _ _ _ _ ad xs hi hs hSa hl h1 hxs hh =>
        refine ⟨_, rfl, ?_⟩
        rw [add_add, Nat.add_assoc]
        exact .eref _ s es i _ ad xs hi hs hSa hl h1 hxs hh
  obtain ⟨ad, he, hv⟩ := hr
  refine op_slot hR hO hv hy hK ?_
  have hne : i.size ≠ 0 := by rw [hsz]; exact hz
  simp [execOp, ho, he, Instr.fieldAt, run_underlying hfs, hf, Instr.sureAddr, fieldPlace, sizeOf, typeInfo, hi, hne]

theorem run_isAgg {t : TypeId} {d : TypeDesc} (h : P.underlying t = some d) (w : World) : (isAgg t).run P w = .ok (isAggT P t) w := by
  unfold isAgg isAggT
  simp only [Sem.run_bind, run_underlying h, Result.andThen_ok, h]
  cases d <;> rfl

theorem aggT_some {t : TypeId} (h : isAggT P t = true) : ∃ d, P.underlying t = some d := by
  unfold isAggT at h
  cases hd : P.underlying t with
  | none => simp [hd] at h
  | some d => exact ⟨d, rfl⟩
theorem underlying_info {t : TypeId} {d : TypeDesc} (h : P.underlying t = some d) : ∃ i, P.info? t = some i ∧ i.size = P.cellsOf t := by
  unfold Program.underlying at h
  cases hi : P.info? t with
  | none => simp [hi] at h
  | some i => exact ⟨i, rfl, by simp [Program.cellsOf, hi]⟩

theorem run_loadCells_take (w : World) (ad : Addr) (xs : List Value) (n : Nat) (hn : n ≤ xs.length) (hx : ∀ (j : Nat) (u : Value), xs[j]? = some u → w.cell? (ad.add j) = some u) :
    (loadCells ad n).run P w = .ok (xs.take n).toArray w := by
  have hl : (xs.take n).length = n := by simp; omega
  have := run_loadCells_list (P := P) w ad (xs.take n) (fun j v hv => by
    rw [List.getElem?_take] at hv
    split at hv
    · exact hx j v hv
    · cases hv)
  rwa [hl] at this

/-- A load of cells that are known. -/
theorem load_sound {t : TypeId} {cs : List AV} {z : AV → Option ρ} (h : evLoad P t cs z = some r) {ad : Addr} {xs : List Value} (hv : VRels w S β cs xs) (h1 : ∀ u ∈ xs, u.oneCell' = true)
    (hx : ∀ (j : Nat) (u : Value), xs[j]? = some u → w.cell? (ad.add j) = some u) : ∃ v u, z v = some r ∧ VRel w S β v u ∧ (loadVar t ad).run P w = .ok u w := by
  unfold evLoad at h
  split at h
  · rename_i hagg
    split at h
    · rename_i hle
      have hle' : P.cellsOf t ≤ cs.length := Nat.le_of_ble_eq_true hle
      obtain ⟨d, hd⟩ := aggT_some hagg
      obtain ⟨i, hi, hsz⟩ := underlying_info hd
      have ht := hv.take (P.cellsOf t)
      refine ⟨_, _, h, .agg _ _ _ ht.1 (fun u hu => h1 u (List.mem_of_mem_take hu)) ht.2, ?_⟩
      simp [loadVar, run_isAgg hd, hagg, sizeOf, typeInfo, hi, hsz, run_loadCells_take w ad xs _ (by rw [hv.1]; exact hle') hx]
    · cases h
  · rename_i hagg
    split at h
    · rename_i hs
      obtain ⟨d, hd⟩ := Option.isSome_iff_exists.1 hs
      split at h
      · rename_i c _
        obtain ⟨u, xs', rfl, hu, _⟩ := hv.inv
        refine ⟨c, u, h, hu, ?_⟩
        have := hx 0 u rfl
        have h0 : ad.add 0 = ad := by simp [Addr.add]
        rw [h0] at this
        simp [loadVar, run_isAgg hd, hagg, this]
      · cases h
    · cases h

theorem op_load_of (hR : Rel w S B β og st a) (hO : Out w0 S0 B w S) {t : TypeId} {x : Operand} (ho : o.op = .load t x) {cs : List AV} {ad : Addr} {xs : List Value} (hx : a.eval x = .pointer (some ad))
    (hv : VRels w S β cs xs) (h1 : ∀ u ∈ xs, u.oneCell' = true) (hc : ∀ (j : Nat) (u : Value), xs[j]? = some u → w.cell? (ad.add j) = some u)
    (h : evLoad P t cs (fun v => y { v }) = some r) (hK : Good w0 S0 B site o st y r K) : o.wp P a w K Q := by
  obtain ⟨v, u, hy, hvu, hrun⟩ := load_sound (P := P) h hv h1 hc
  refine op_slot hR hO hvu hy hK ?_
  simp [execOp, ho, hx, Instr.loadAt, Instr.sureAddr, hrun]

/-- The cells of an element, brought into the shape's form: nothing has changed. -/
theorem eta1_has {s : Sh} {v : AV} (h : has1 s v = true) (hz : ∀ s', v ≠ .slz s') : eta1 s v = v := by
  cases s <;> cases v <;> simp [has1, eta1, AV.toInt, AV.toBool, AV.toStr, AV.toList] at h ⊢ <;> first | exact h | exact (Sh.beq_eq _ _ h) | (exact absurd rfl (hz _))

/-- A value of a shape, written out by it, stands for the same. -/
theorem eta1_rel {s : Sh} {v : AV} {u : Value} (h : has1 s v = true) (hv : VRel w S β v u) : VRel w S β (eta1 s v) u := by
  cases s with
  | int k => cases v <;> simp [has1] at h; subst h; exact hv
  | bool => cases v <;> simp [has1] at h; exact hv
  | str => cases v <;> simp [has1] at h; exact hv
  | slice s =>
    cases v <;> simp [has1] at h
    · rw [Sh.beq_eq _ _ h]; exact hv
    · cases hv with
      | slz _ _ A => exact .slv _ s [] A 0 default [] (by simp) (by simp) (by decide) (fun h => absurd rfl h) (by simp [flat]) (by simp) (by simp) (by simp [flat])
  | agg l => cases v <;> simp [has1] at h
  | other => cases v <;> simp [has1] at h
theorem etas_rel : ∀ (l : List Sh) (cs : List AV) (us : List Value), hass l cs = true → VRels w S β cs us → VRels w S β (etas l cs) us
  | [], [], us, _, hv => by rw [hv.inv_nil]; exact VRels.nil
  | [], _ :: _, _, h, _ => by simp [hass] at h
  | _ :: _, [], _, h, _ => by simp [hass] at h
  | s :: l, c :: cs, us, h, hv => by
    simp [hass] at h
    obtain ⟨u, us', rfl, hu, hs⟩ := hv.inv
    exact VRels.cons (eta1_rel h.1 hu) (etas_rel l cs us' h.2 hs)

/-- The cells of element i, from 'off' on. -/
theorem elem_cells {s : Sh} {es : List AV} {xs : List Value} {ad : Addr} {i off : Nat} (hs : ∀ e ∈ es, hasSh s e = true) (hi : i < es.length) (hv : VRels w S β (flat es) xs) (h1 : ∀ u ∈ xs, u.oneCell' = true)
    (hx : ∀ (j : Nat) (u : Value), xs[j]? = some u → w.cell? (ad.add j) = some u) : ∃ ys : List Value, VRels w S β ((etaCells s (es.getD i .unk)).drop off) ys ∧ (∀ u ∈ ys, u.oneCell' = true) ∧
      ∀ (j : Nat) (u : Value), ys[j]? = some u → w.cell? ((ad.add (i * s.width + off)).add j) = some u := by
  have he : es[i]? = some es[i] := List.getElem?_eq_getElem hi
  have hgd : es.getD i .unk = es[i] := by simp [List.getD, he]
  have hsh : hasSh s es[i] = true := hs _ (List.getElem_mem hi)
  have hcl := flat_at es i es[i] hs he
  have hvv := (hv.drop (i * s.width)).take s.width
  rw [hcl] at hvv
  have hq := (etas_rel _ _ _ (hasSh_hass s _ hsh) hvv).drop off
  refine ⟨_, by rw [hgd]; exact hq, fun u hu => h1 u (List.mem_of_mem_drop (List.mem_of_mem_take (List.mem_of_mem_drop hu))), fun j u hu => ?_⟩
  rw [add_add]
  rw [List.getElem?_drop, List.getElem?_take] at hu
  split at hu
  · rw [List.getElem?_drop] at hu
    rw [show i * s.width + off + j = i * s.width + (off + j) from by omega]
    exact hx _ u hu
  · cases hu

/-- The cells of an array of which one element is held apart. -/
theorem foc_at {B' : Nat → Prop} {id : Nat} {og' : Option Nat} {im : Bool} {s : Sh} {e : TypeId} {pre cs post : List AV} (h : RowRel w S B' β id og' (.foc im s e pre cs post)) : ∃ g n c, β id = some (.slice (some ⟨g, 0, none⟩) n c, s.width) ∧
    (∀ off, ∃ zs : List Value, VRels w S β (cs.drop off) zs ∧ (∀ u ∈ zs, u.oneCell' = true) ∧ ∀ (j : Nat) (u : Value), zs[j]? = some u → w.cell? ((⟨g, pre.length * s.width + off, none⟩ : Addr).add j) = some u) ∧
    (∀ i off, i < pre.length → ∃ zs : List Value, VRels w S β ((etaCells s (pre.getD i .unk)).drop off) zs ∧ (∀ u ∈ zs, u.oneCell' = true) ∧ ∀ (j : Nat) (u : Value), zs[j]? = some u → w.cell? ((⟨g, i * s.width + off, none⟩ : Addr).add j) = some u) ∧
    (∀ i off, i < post.length → ∃ zs : List Value, VRels w S β ((etaCells s (post.getD i .unk)).drop off) zs ∧ (∀ u ∈ zs, u.oneCell' = true) ∧ ∀ (j : Nat) (u : Value), zs[j]? = some u → w.cell? ((⟨g, (pre.length + 1 + i) * s.width + off, none⟩ : Addr).add j) = some u) := by
  obtain ⟨hpos, hcl, g, sp, xs, us, ys, hpre, hpost, hog, hb, h1, vx, vu, vy, hB, hh, hm, _⟩ := h
  have lx : xs.length = pre.length * s.width := vx.1.trans (flat_length pre hpre)
  have lu : us.length = s.width := vu.1.trans hcl
  have cellx : ∀ (j : Nat) (u : Value), xs[j]? = some u → w.cell? ((⟨g, 0, none⟩ : Addr).add j) = some u := fun j u hu => by
    rw [add_lit, row_cell hh]
    have hj := (List.getElem?_eq_some_iff.1 hu).1
    simpa [List.getElem?_append_left hj] using hu
  have cellu : ∀ (j : Nat) (u : Value), us[j]? = some u → w.cell? ⟨g, pre.length * s.width + j, none⟩ = some u := fun j u hu => by
    rw [row_cell hh, List.getElem?_toArray, List.getElem?_append_right (by omega), lx, Nat.add_sub_cancel_left, List.getElem?_append_left (List.getElem?_eq_some_iff.1 hu).1]
    exact hu
  have celly : ∀ (j : Nat) (u : Value), ys[j]? = some u → w.cell? ((⟨g, (pre.length + 1) * s.width, none⟩ : Addr).add j) = some u := fun j u hu => by
    rw [add_lit', row_cell hh, List.getElem?_toArray, Nat.add_mul, Nat.one_mul, List.getElem?_append_right (by omega), lx, List.getElem?_append_right (by omega), lu]
    rw [show pre.length * s.width + s.width + j - pre.length * s.width - s.width = j from by omega]
    exact hu
  have mono : ∀ {c : List AV} {v : List Value}, VRels w S nob c v → VRels w S β c v := fun h => h.mono (fun _ h => h) (fun _ _ => rfl) (fun _ _ h => by cases h)
  refine ⟨g, _, _, hb, fun off => ⟨us.drop off, vu.drop off, fun u hu => h1 u (by simp [List.mem_of_mem_drop hu]), fun j u hu => ?_⟩, fun i off hi => ?_, fun i off hi => ?_⟩
  · rw [add_lit', Nat.add_assoc]
    rw [List.getElem?_drop] at hu
    exact cellu _ u hu
  · obtain ⟨zs, z1, z2, z3⟩ := elem_cells (off := off) hpre hi (mono vx) (fun u hu => h1 u (by simp [hu])) cellx
    rw [add_lit] at z3
    exact ⟨zs, z1, z2, z3⟩
  · have hi' : i < (post ++ sp).length := by rw [List.length_append]; omega
    obtain ⟨zs, z1, z2, z3⟩ := elem_cells (off := off) hpost hi' (mono vy) (fun u hu => h1 u (by simp [hu])) celly
    rw [add_lit', show (pre.length + 1) * s.width + (i * s.width + off) = (pre.length + 1 + i) * s.width + off from by rw [Nat.add_mul (pre.length + 1) i]; omega] at z3
    have e : (post ++ sp).getD i .unk = post.getD i .unk := by
      rw [List.getD, List.getD, List.getElem?_append_left hi]
    rw [e] at z1
    exact ⟨zs, z1, z2, z3⟩

theorem op_load (hR : Rel w S B β og st a) (hO : Out w0 S0 B w S) {rowsV : List (Nat × Row)} (hsub : ∀ id x, lookup rowsV id = some x → lookup st.rows id = some x) {t : TypeId} {x : Operand} (ho : o.op = .load t x)
    {Γ : Env} (h : evOp P Γ site o st.tm rowsV y = some r) (hK : Good w0 S0 B site o st y r K) : o.wp P a w K Q := by
  have hv := val_rel hR.tm x
  simp only [evOp, ho] at h
  split at h
  · rename_i id off hx
    rw [hx] at hv
    split at h
    · rename_i im cs hl
      obtain ⟨g, vs, t', hog, hb, hh, h1, hvs, _⟩ := hR.row id _ (hsub _ _ hl)
      generalize he : a.eval x = u at hv
      cases hv with
      | ptr _ _ _ g' wd hb' =>
        rw [hb] at hb'
        simp at hb'
        obtain ⟨rfl, _⟩ := hb'
        refine op_load_of hR hO ho he (hvs.drop off) (fun u hu => h1 u (List.mem_of_mem_drop hu)) (fun j u hu => ?_) h hK
        rw [add_lit', row_cell (Lies.plain hh (m := true))]
        simpa using hu
    · cases h
  · rename_i cs hx
    rw [hx] at hv
    generalize he : a.eval x = u at hv
    cases hv with
    | ref _ _ ad xs hSa hl h1 hxs hh => exact op_load_of hR hO ho he (VRels.mono (β := nob) (w := w) (S := S) ⟨hl, hh⟩ (fun _ h => h) (fun _ _ => rfl) (fun _ _ h => by cases h)) h1 hxs h hK
  · rename_i s es i off hx
    rw [hx] at hv
    generalize he : a.eval x = u at hv
    cases hv with
    | eref _ _ _ _ _ ad xs hi hs hSa hl h1 hxs hh =>
      obtain ⟨ys, hys, h1', hc⟩ := elem_cells (off := off) hs hi (VRels.mono (β := nob) (β' := β) (w := w) (S := S) ⟨hl, hh⟩ (fun _ h => h) (fun _ _ => rfl) (fun _ _ h => by cases h)) h1 hxs
      exact op_load_of hR hO ho he hys h1' hc h hK
  · rename_i id i off hx
    rw [hx] at hv
    split at h
    · rename_i im s e es csp hl
      generalize hb : decide (i < es.length) = b at h
      cases b with
      | false => cases h
      | true =>
        have hi : i < es.length := of_decide_eq_true hb
        simp only [cond_true] at h
        obtain ⟨hp, hsh, v, xs, hb, h1, hvs, hor⟩ := (hR.row id _ (hsub _ _ hl)).arr_old
        generalize he : a.eval x = u at hv
        cases hv with
        | eptr _ _ _ _ g n c wd hb' =>
          rw [hb] at hb'
          simp only [Option.some.injEq, Prod.mk.injEq] at hb'
          obtain ⟨rfl, rfl⟩ := hb'
          rcases hor with ⟨he0, _⟩ | ⟨g', cap, cur, hog, hvv, _, hh, _, _, _, htk, _⟩
          · subst he0; simp at hi
          · simp at hvv
            obtain ⟨rfl, _, _⟩ := hvv
            have hcell : ∀ (j : Nat) (u : Value), xs[j]? = some u → w.cell? ((⟨g, 0, none⟩ : Addr).add j) = some u := by
              intro j u hu
              rw [add_lit, row_cell hh]
              rw [← htk, List.getElem?_take] at hu
              split at hu
              · simpa using hu
              · cases hu
            obtain ⟨ys, hys, h1', hc⟩ := elem_cells (off := off) hsh hi (VRels.mono (β := nob) (β' := β) (w := w) (S := S) hvs (fun _ h => h) (fun _ _ => rfl) (fun _ _ h => by cases h)) h1 hcell
            rw [add_lit] at hc
            exact op_load_of hR hO ho he hys h1' hc h hK
    · rename_i im s e pre cs post hl
      obtain ⟨g, n, c, hb, f1, f2, f3⟩ := foc_at (hR.row id _ (hsub _ _ hl))
      generalize he : a.eval x = u at hv
      cases hv with
      | eptr _ _ _ _ g' n' c' wd hb' =>
        rw [hb] at hb'
        simp only [Option.some.injEq, Prod.mk.injEq, Value.slice.injEq, Addr.mk.injEq] at hb'
        obtain ⟨⟨⟨rfl, _⟩, _⟩, rfl⟩ := hb'
        by_cases e1 : i = pre.length
        · subst e1
          rw [decide_eq_true rfl] at h
          obtain ⟨zs, z1, z2, z3⟩ := f1 off
          exact op_load_of hR hO ho he z1 z2 z3 h hK
        · rw [decide_eq_false e1, cond_false] at h
          split at h
          · cases h
          by_cases e2 : i < pre.length
          · rw [decide_eq_true e2] at h
            obtain ⟨zs, z1, z2, z3⟩ := f2 i off e2
            exact op_load_of hR hO ho he z1 z2 z3 h hK
          · rw [decide_eq_false e2, cond_false] at h
            by_cases e3 : i - (pre.length + 1) < post.length
            · rw [decide_eq_true e3] at h
              obtain ⟨zs, z1, z2, z3⟩ := f3 (i - (pre.length + 1)) off e3
              rw [show pre.length + 1 + (i - (pre.length + 1)) = i from by omega] at z3
              exact op_load_of hR hO ho he z1 z2 z3 h hK
            · rw [decide_eq_false e3] at h
              cases h
    · cases h
  · cases h
end ops
end Go.Ev

/-
  The operations, second part: arithmetic, comparisons, strings, slices, literals.
-/
namespace Go.Ev
open Go.RowKit

section ops
variable {ρ : Type} {P : Program} {w0 w : World} {S0 S : Nat → Prop} {B : Ctx} {β : Bet} {og : Nat → Option Nat} {st : St} {a : Act} {o : Oper} {site : Nat} {y : Eff → Option ρ} {r : ρ}
  {K : Act → World → Prop} {Q : Exit → Act → World → Prop}

theorem bif_some {b : Bool} {x : Option ρ} (h : (bif b then x else none) = some r) : b = true ∧ x = some r := by cases b <;> simp_all
theorem bif_some' {b : Bool} {x : Option ρ} (h : (bif b then none else x) = some r) : b = false ∧ x = some r := by cases b <;> simp_all

theorem toList_mk (l : List UInt8) : (ByteArray.mk l.toArray).toList = l := by rw [ByteArray.toList_eq]

theorem eqA_sound : ∀ (fs : List Field) (n : Nat) (cs ds : List AV) (xs ys : Array Value) (b : Bool), eqA P fs n cs ds = some b →
    (∀ (j : Nat) (c : AV), cs[j]? = some c → ∃ u, xs[n + j]? = some u ∧ VRel w S β c u) → (∀ (j : Nat) (c : AV), ds[j]? = some c → ∃ u, ys[n + j]? = some u ∧ VRel w S β c u) → ∀ d : Nat,
    (Op.eqFields (d + 1) xs ys fs).run P w = .ok b w
  | [], n, [], [], xs, ys, b, h, _, _, d => by simp [eqA] at h; simp [Op.eqFields, ← h]
  | [], n, _ :: _, _, xs, ys, b, h, _, _, d => by simp [eqA] at h
  | [], n, [], _ :: _, xs, ys, b, h, _, _, d => by simp [eqA] at h
  | f :: fs, n, [], _, xs, ys, b, h, _, _, d => by simp [eqA] at h
  | f :: fs, n, c :: cs, [], xs, ys, b, h, _, _, d => by simp [eqA] at h
  | f :: fs, n, c :: cs, e :: ds, xs, ys, b, h, hx, hy, d => by
    obtain ⟨u, hu, hcu⟩ := hx 0 c rfl
    obtain ⟨u', hu', heu⟩ := hy 0 e rfl
    rw [Nat.add_zero] at hu hu'
    have ih := fun b' hb' => eqA_sound fs (n + 1) cs ds xs ys b' hb' (fun j c hc => by have := hx (j + 1) c (by simpa using hc); rwa [show n + (j + 1) = n + 1 + j from by omega] at this)
      (fun j c hc => by have := hy (j + 1) c (by simpa using hc); rwa [show n + (j + 1) = n + 1 + j from by omega] at this) d
    simp only [eqA] at h
    split at h
    · rename_i hno
      simp only [Bool.and_eq_true, bne_iff_ne, ne_eq, beq_iff_eq] at hno
      obtain ⟨hn, hof⟩ := hno
      have key : ∀ (dd : TypeDesc), P.underlying f.type = some dd → isAggT P f.type = false → ∀ b1 : Bool, (Op.equalIn (d + 1) f.type u u').run P w = .ok b1 w → ∀ b2, eqA P fs (n + 1) cs ds = some b2 → b = (b1 && b2) →
          (Op.eqFields (d + 1) xs ys (f :: fs)).run P w = .ok b w := by
        intro dd hdd hag b1 h1 b2 h2 hb
        have hpart : ∀ (zs : Array Value) (z : Value), zs[n]? = some z → (part f.type zs f.offset).run P w = .ok z w := fun zs z hz => by
          simp [part, run_isAgg hdd, hag, hof, hz]
        simp only [Op.eqFields, ne_eq, hn, not_false_eq_true, if_true, Sem.run_bind, hpart xs u hu, hpart ys u' hu', Result.andThen_ok, h1]
        cases b1 with
        | false => simp [hb]
        | true => simp [ih b2 h2, hb]
      split at h
      · rename_i k0 k m k' m' hdd
        split at h
        · rename_i hk
          subst hk
          split at h
          · rename_i b2 h2
            cases h
            rw [hcu.int_inv, heu.int_inv] at *
            exact key _ hdd (by simp [isAggT, hdd]) (m == m') (run_equalIn_int w d f.type k k0 m m' hdd) b2 h2 rfl
          · cases h
        · cases h
      · rename_i m m' hdd
        split at h
        · rename_i b2 h2
          cases h
          rw [hcu.bool_inv, heu.bool_inv] at *
          exact key _ hdd (by simp [isAggT, hdd]) (m == m') (run_equalIn_bool' w d f.type m m' hdd) b2 h2 rfl
        · cases h
      · rename_i m m' hdd
        split at h
        · rename_i b2 h2
          cases h
          rw [hcu.str_inv, heu.str_inv] at *
          have := run_equalIn_string (P := P) w d f.type ⟨m.toArray⟩ ⟨m'.toArray⟩ hdd
          rw [toList_mk, toList_mk] at this
          exact key _ hdd (by simp [isAggT, hdd]) (m == m') this b2 h2 rfl
        · cases h
      · cases h
    · cases h

theorem VRel.agg_inv {cs : List AV} {v : Value} (h : VRel w S β (.agg cs) v) : ∃ vs : List Value, v = .agg vs.toArray ∧ VRels w S β cs vs ∧ ∀ u ∈ vs, u.oneCell' = true := by
  cases h with
  | agg _ _ vs hl h1 hh => exact ⟨vs, rfl, ⟨hl, hh⟩, h1⟩

theorem bin_sound {op : BinOp} {t : TypeId} {x z : AV} {z' : AV → Option ρ} (h : evBin P op t x z z' = some r) {ox oz : Operand} {u u' : Value} (hx : VRel w S β x u) (hz : VRel w S β z u') :
    ∃ v uu, z' v = some r ∧ VRel w S β v uu ∧ (do eqGuard op t ox oz u u'; binOp op t u u').run P w = .ok uu w := by
  unfold evBin at h
  split at h
  · rename_i k m k' m'
    rw [hx.int_inv, hz.int_inv]
    split at h
    · rename_i hop
      unfold binShift at h
      obtain ⟨hb, h⟩ := bif_some' h
      have hb' : ¬ m' < 0 := by simpa using hb
      exact ⟨_, _, h, .int _ _ _, by simp [go_sem, Op.shift, hb']⟩
    · unfold binShift at h
      obtain ⟨hb, h⟩ := bif_some' h
      have hb' : ¬ m' < 0 := by simpa using hb
      exact ⟨_, _, h, .int _ _ _, by simp [go_sem, Op.shift, hb']⟩
    · split at h
      · rename_i hk
        subst hk
        unfold binInt at h
        split at h
        · exact ⟨_, _, h, .int _ _ _, by simp [go_sem, Op.intArith]⟩
        · exact ⟨_, _, h, .int _ _ _, by simp [go_sem, Op.intArith]⟩
        · exact ⟨_, _, h, .int _ _ _, by simp [go_sem, Op.intArith]⟩
        · obtain ⟨hb, h⟩ := bif_some' h
          have hb' : ¬ m' = 0 := by simpa using hb
          exact ⟨_, _, h, .int _ _ _, by simp [go_sem, Op.intDiv, hb']⟩
        · obtain ⟨hb, h⟩ := bif_some' h
          have hb' : ¬ m' = 0 := by simpa using hb
          exact ⟨_, _, h, .int _ _ _, by simp [go_sem, Op.intDiv, hb']⟩
        · exact ⟨_, _, h, .int _ _ _, by simp only [eqGuard_at_int, pure_bind, binOp_and, Op.intBits]; rfl⟩
        · exact ⟨_, _, h, .int _ _ _, by simp only [eqGuard_at_int, pure_bind, binOp_or, Op.intBits]; rfl⟩
        · exact ⟨_, _, h, .int _ _ _, by simp only [eqGuard_at_int, pure_bind, binOp_xor, Op.intBits]; rfl⟩
        · exact ⟨_, _, h, .bool _ _, by simp only [eqGuard_at_int, pure_bind, binOp_eql]; rfl⟩
        · exact ⟨_, _, h, .bool _ _, by simp only [eqGuard_at_int, pure_bind, binOp_neq]; rfl⟩
        · exact ⟨_, _, h, .bool _ _, by simp only [eqGuard_at_int, pure_bind, binOp_lss]; rfl⟩
        · exact ⟨_, _, h, .bool _ _, by simp only [eqGuard_at_int, pure_bind, binOp_leq]; rfl⟩
        · exact ⟨_, _, h, .bool _ _, by simp only [eqGuard_at_int, pure_bind, binOp_gtr]; rfl⟩
        · exact ⟨_, _, h, .bool _ _, by simp only [eqGuard_at_int, pure_bind, binOp_geq]; rfl⟩
        · cases h
      · cases h
  · rename_i m m'
    rw [hx.str_inv, hz.str_inv]
    unfold binStr at h
    split at h
    · obtain ⟨hb, h⟩ := bif_some h
      have hle : m.length + m'.length ≤ 9223372036854775807 := by simpa [lenB] using hb
      refine ⟨_, .string ⟨(m ++ m').toArray⟩, h, .str _ _, ?_⟩
      have hn : ¬ (((ByteArray.mk m.toArray).size + (ByteArray.mk m'.toArray).size : Nat) : Int) > IntKind.i64.max := by
        show ¬ ((m.toArray.size + m'.toArray.size : Nat) : Int) > IntKind.i64.max
        rw [IntKind.max_i64]
        simp
        omega
      have happ : (ByteArray.mk m.toArray) ++ (ByteArray.mk m'.toArray) = ByteArray.mk (m ++ m').toArray := by
        apply ByteArray.ext
        simp
      simp only [eqGuard_at_string, pure_bind, binOp, Op.stringOp, if_neg hn, happ]
      rfl
    · exact ⟨_, _, h, .bool _ _, by simp only [eqGuard_at_string, pure_bind, binOp, Op.stringOp, toList_mk]; rfl⟩
    · exact ⟨_, _, h, .bool _ _, by simp only [eqGuard_at_string, pure_bind, binOp, Op.stringOp, toList_mk]; rfl⟩
    · exact ⟨_, _, h, .bool _ _, by simp only [eqGuard_at_string, pure_bind, binOp, Op.stringOp, toList_mk]; rfl⟩
    · exact ⟨_, _, h, .bool _ _, by simp only [eqGuard_at_string, pure_bind, binOp, Op.stringOp, toList_mk]; rfl⟩
    · exact ⟨_, _, h, .bool _ _, by simp only [eqGuard_at_string, pure_bind, binOp, Op.stringOp, toList_mk]; rfl⟩
    · exact ⟨_, _, h, .bool _ _, by simp only [eqGuard_at_string, pure_bind, binOp, Op.stringOp, toList_mk]; rfl⟩
    · cases h
  · rename_i m m'
    rw [hx.bool_inv, hz.bool_inv]
    split at h
    · rename_i hd
      have hrun : (Op.equal t (.bool m) (.bool m')).run P w = .ok (m == m') w := run_equalIn_bool' w 9999 t m m' hd
      split at h
      · refine ⟨_, _, h, .bool _ _, ?_⟩
        simp only [eqGuard_at_bool, pure_bind, binOp, Sem.run_bind, hrun, Result.andThen_ok, Sem.run_pure]
      · refine ⟨_, _, h, .bool _ _, ?_⟩
        simp only [eqGuard_at_bool, pure_bind, binOp, Sem.run_bind, hrun, Result.andThen_ok, Sem.run_pure]
      · cases h
    · cases h
  · rename_i cs ds
    obtain ⟨vs, rfl, hvs, _⟩ := hx.agg_inv
    obtain ⟨us, rfl, hus, _⟩ := hz.agg_inv
    split at h
    · rename_i b hb
      unfold eqStruct at hb
      split at hb
      · rename_i fs hfs
        split at hb
        · rename_i hok
          simp only [Bool.and_eq_true, Bool.not_eq_true'] at hok
          have hfo : P.fieldsOf t = fs := by simp [Program.fieldsOf, hfs]
          have hrun : (Op.equalIn 10000 t (.agg vs.toArray) (.agg us.toArray)).run P w = .ok b w := by
            rw [run_equalIn_struct w 9999 t _ _ (by rw [hfo]; exact hfs) hok.1, hfo]
            exact eqA_sound fs.toList 0 cs ds _ _ b hb (fun j c hc => by obtain ⟨u, hu, hr⟩ := hvs.at_ hc; exact ⟨u, by simpa using hu, hr⟩) (fun j c hc => by obtain ⟨u, hu, hr⟩ := hus.at_ hc; exact ⟨u, by simpa using hu, hr⟩) 9998
          split at h
          · exact ⟨_, _, h, .bool _ _, by simp [run_eqGuard_agg w _ t ox oz _ _ hok.2, run_eql_struct, hrun]⟩
          · exact ⟨_, _, h, .bool _ _, by simp [run_eqGuard_agg w _ t ox oz _ _ hok.2, run_neq_struct, hrun]⟩
          · cases h
        · cases hb
      · cases hb
    · cases h
  · cases h

theorem op_bin (hR : Rel w S B β og st a) (hO : Out w0 S0 B w S) {op : BinOp} {t t' : TypeId} {x z : Operand} (ho : o.op = .binOp op t x z t')
    (h : evBin P op t (valT P st.tm t x) (valT P st.tm t z) (fun v => y { v }) = some r) (hK : Good w0 S0 B site o st y r K) : o.wp P a w K Q := by
  obtain ⟨v, uu, hy, hv, hrun⟩ := bin_sound (ox := x) (oz := z) h (valT_rel hR.tm P t x) (valT_rel hR.tm P t z)
  refine op_slot hR hO hv hy hK ?_
  simp only [execOp, ho]
  rw [Sem.run_bind, hrun]
  rfl

theorem isNilC_eq {z : Operand} (h : isNilC z = true) : z = .const (.slice none 0 0) := by
  unfold isNilC at h
  split at h
  · rfl
  · cases h
theorem op_nil (hR : Rel w S B β og st a) (hO : Out w0 S0 B w S) {op : BinOp} {t t' : TypeId} {x z : Operand} (ho : o.op = .binOp op t x z t') (hz : isNilC z = true)
    (h : evNil P op t (valT P st.tm t x) (fun v => y { v }) = some r) (hK : Good w0 S0 B site o st y r K) : o.wp P a w K Q := by
  have hv := valT_rel hR.tm P t x
  rw [isNilC_eq hz] at ho
  have hc : a.eval (.const (.slice none 0 0)) = .slice none 0 0 := rfl
  unfold evNil at h
  split at h
  · rename_i e s es hd hx
    rw [hx] at hv
    generalize hu : a.eval x = u at hv
    cases hv with
    | slv _ _ _ A c ad xs hs hcap hm hA hl h1 hcx hh =>
      have heq : (Op.equal t (.slice A es.length c) (.slice none 0 0)).run P w = .ok A.isNone w := run_equal_slice_nil w t e A es.length c hd
      have hg : eqGuard op t x (.const (.slice none 0 0)) (.slice A es.length c) (.slice none 0 0) = pure () := by cases op <;> rfl
      have hex : ∀ b, es ≠ [] → A.isNone = b → b = false := fun b hne hb => by rw [(hA hne).1] at hb; exact hb.symm
      split at h
      · cases hes : es with
        | nil =>
          rw [hes] at h
          refine op_slot hR hO (u := .bool A.isNone) (.ubool _ _) h hK ?_
          simp only [execOp, ho, hu, hc, hg, pure_bind, binOp, Sem.run_bind, heq, Result.andThen_ok, Sem.run_pure]
        | cons e0 l =>
          have hb := hex _ (by rw [hes]; simp) rfl
          rw [hes] at h
          refine op_slot hR hO (u := .bool false) (.bool _ _) h hK ?_
          simp only [execOp, ho, hu, hc, hg, pure_bind, binOp, Sem.run_bind, heq, Result.andThen_ok, Sem.run_pure, hb]
      · cases hes : es with
        | nil =>
          rw [hes] at h
          refine op_slot hR hO (u := .bool !A.isNone) (.ubool _ _) h hK ?_
          simp only [execOp, ho, hu, hc, hg, pure_bind, binOp, Sem.run_bind, heq, Result.andThen_ok, Sem.run_pure]
        | cons e0 l =>
          have hb := hex _ (by rw [hes]; simp) rfl
          rw [hes] at h
          refine op_slot hR hO (u := .bool true) (.bool _ _) h hK ?_
          simp only [execOp, ho, hu, hc, hg, pure_bind, binOp, Sem.run_bind, heq, Result.andThen_ok, Sem.run_pure, hb, Bool.not_false]
      · cases h
  · cases h

theorem op_neg (hR : Rel w S B β og st a) (hO : Out w0 S0 B w S) {t : TypeId} {x : Operand} {k : IntKind} {n : Int} (ho : o.op = .unOp .neg t x) (hx : valT P st.tm t x = .int k n)
    (hy : y { v := .int k (k.wrap (0 - n)) } = some r) (hK : Good w0 S0 B site o st y r K) : o.wp P a w K Q := by
  have h := valT_rel hR.tm P t x
  rw [hx] at h
  exact op_slot hR hO (.int _ _ _) hy hK (by simp [execOp, ho, h.int_inv, Op.unary, Op.intArith])
theorem op_not (hR : Rel w S B β og st a) (hO : Out w0 S0 B w S) {t : TypeId} {x : Operand} {b : Bool} (ho : o.op = .unOp .not t x) (hx : valT P st.tm t x = .bool b)
    (hy : y { v := .bool !b } = some r) (hK : Good w0 S0 B site o st y r K) : o.wp P a w K Q := by
  have h := valT_rel hR.tm P t x
  rw [hx] at h
  exact op_slot hR hO (.bool _ _) hy hK (by simp [execOp, ho, h.bool_inv, Op.unary])

theorem op_convert_int (hR : Rel w S B β og st a) (hO : Out w0 S0 B w S) {src dst : TypeId} {x : Operand} {k0 k k1 : IntKind} {n : Int} (ho : o.op = .convert src dst x) (hs : P.underlying src = some (.int k0)) (hd : P.underlying dst = some (.int k)) (hx : valT P st.tm src x = .int k1 n)
    (hy : y { v := .int k (k.wrap n) } = some r) (hK : Good w0 S0 B site o st y r K) : o.wp P a w K Q := by
  have h := valT_rel hR.tm P src x
  rw [hx] at h
  exact op_slot hR hO (.int _ _ _) hy hK (by simp [execOp, ho, h.int_inv, convert, run_underlying hs, run_underlying hd, Conv.intToInt])
theorem op_convert_str (hR : Rel w S B β og st a) (hO : Out w0 S0 B w S) {src dst : TypeId} {x : Operand} {s : List UInt8} (ho : o.op = .convert src dst x) (hs : P.underlying src = some .string) (hd : P.underlying dst = some .string) (hx : valT P st.tm src x = .str s)
    (hy : y { v := .str s } = some r) (hK : Good w0 S0 B site o st y r K) : o.wp P a w K Q := by
  have h := valT_rel hR.tm P src x
  rw [hx] at h
  exact op_slot hR hO (.str _ _) hy hK (by simp [execOp, ho, h.str_inv, convert, run_underlying hs, run_underlying hd])

theorem op_field (hR : Rel w S B β og st a) (hO : Out w0 S0 B w S) {t : TypeId} {x : Operand} {f : Nat} (ho : o.op = .field t x f) {Γ : Env} {rowsV : List (Nat × Row)} (h : evOp P Γ site o st.tm rowsV y = some r) (hK : Good w0 S0 B site o st y r K) : o.wp P a w K Q := by
  have hv := valT_rel hR.tm P t x
  simp only [evOp, ho] at h
  split at h
  · rename_i fl hfl
    obtain ⟨fs, hfs, hf⟩ := fieldOf_spec hfl
    split at h
    · rename_i cs hx
      rw [hx] at hv
      obtain ⟨vs, he, hvs, h1⟩ := hv.agg_inv
      split at h
      · rename_i hag
        split at h
        · obtain ⟨d, hd⟩ := aggT_some hag
          obtain ⟨i, hi, hsz⟩ := underlying_info hd
          have hq := (hvs.drop fl.offset).take (P.cellsOf fl.type)
          refine op_slot hR hO (.agg _ _ _ hq.1 (fun u hu => h1 u (List.mem_of_mem_drop (List.mem_of_mem_take hu))) hq.2) h hK ?_
          simp [execOp, ho, he, Instr.field, run_underlying hfs, hf, asAgg, part, run_isAgg hd, hag, sizeOf, typeInfo, hi, hsz]
        · cases h
      · rename_i hag
        split at h
        · rename_i v hcv
          obtain ⟨u, hu, hr⟩ := hvs.at_ hcv
          split at h
          · rename_i hsome
            obtain ⟨d, hd⟩ := Option.isSome_iff_exists.1 hsome
            refine op_slot hR hO hr h hK ?_
            simp [execOp, ho, he, Instr.field, run_underlying hfs, hf, asAgg, part, run_isAgg hd, hag, hu]
          · cases h
        · cases h
    · cases h
  · cases h

end ops
end Go.Ev

/-
  The operations, third part: slices, indexes, append.
-/
namespace Go.Ev
open Go.RowKit

/-- Rows that are not written any more, from now on. -/
theorem Rel.freeze {w : World} {S : Nat → Prop} {B : Ctx} {β : Bet} {og : Nat → Option Nat} {st : St} {a : Act} (h : Rel w S B β og st a) (ids : List Nat) :
    Rel w (With S og ids) B β og ⟨st.tm, setImm ids st.rows, st.used⟩ a := by
  refine ⟨h.tm.keepS fun b => With.left, h.df, fun id r hr => ?_, h.inj, h.lt, h.used, h.one, fun b hb => ?_, h.Ble, h.pid⟩
  · rw [lookup_setImm] at hr
    cases hl : lookup st.rows id with
    | none => simp [hl] at hr
    | some r0 =>
      simp only [hl, Option.map_some, Option.some.injEq] at hr
      have h0 := h.row id r0 hl
      by_cases hin : ids.contains id = true
      · have hmem : id ∈ ids := by simpa using hin
        rw [if_pos hin] at hr
        subst hr
        cases r0 with
        | box imm cs =>
          obtain ⟨g, vs, t, ho, hb, hh, h1, hv, _, _, hB⟩ := h0
          exact ⟨g, vs, t, ho, hb, hh, h1, hv.keepS fun b => With.left, (fun e => by cases e), fun _ => .inr ⟨id, hmem, ho⟩, hB⟩
        | arr imm s e es csp =>
          obtain ⟨hp, v, sp, xs, hsh, hcs, hb, h1, hv, hor⟩ := h0
          refine ⟨hp, v, sp, xs, hsh, hcs, hb, h1, hv.keepS fun b => With.left, ?_⟩
          rcases hor with hh | ⟨g, ho, hvv, hB, hh, hm, _, _⟩
          · exact .inl hh
          · exact .inr ⟨g, ho, hvv, hB, hh, hm, (fun e => by cases e), fun _ => .inr ⟨id, hmem, ho⟩⟩
        | foc imm s e pre cs post =>
          obtain ⟨hp, hcl, g, sp, xs, us, ys, h1, h2, ho, hb, h3, vx, vu, vy, hB, hh, hm, _, _⟩ := h0
          exact ⟨hp, hcl, g, sp, xs, us, ys, h1, h2, ho, hb, h3, vx.keepS fun b => With.left, vu.keepS fun b => With.left, vy.keepS fun b => With.left, hB, hh, hm, (fun e => by cases e), fun _ => .inr ⟨id, hmem, ho⟩⟩
      · rw [if_neg hin] at hr
        subst hr
        have hnot : id ∉ ids := by simpa using hin
        refine h0.keep (fun _ _ h => h) (fun b => With.left) (fun g hg hs => ?_) (fun _ _ => rfl) (fun _ _ => rfl)
        rcases hs with hs | ⟨i, hi, hgi⟩
        · exact hs
        · exact absurd (h.inj id i g hg hgi ▸ hi) hnot
  · rcases hb with hb | ⟨i, _, hg⟩
    · exact h.Slt b hb
    · exact h.lt i b hg

theorem Out.freeze {w0 w : World} {S0 S : Nat → Prop} {B : Ctx} {β : Bet} {og : Nat → Option Nat} {st : St} {a : Act} (hO : Out w0 S0 B w S) (h : Rel w S B β og st a) (ids : List Nat) (hin : ∀ id ∈ ids, ∃ r, lookup st.rows id = some r) :
    Out w0 S0 B w (With S og ids) := by
  refine ⟨hO.bel, fun b hb => ?_, fun b hb => .inl (hO.sub b hb)⟩
  rcases hb with hb | ⟨i, hi, hg⟩
  · exact hO.sin b hb
  · obtain ⟨r, hr⟩ := hin i hi
    have := h.row i r hr
    cases r with
    | box imm cs => obtain ⟨g, _, _, ho, _, _, _, _, _, _, hB⟩ := this; rw [hg] at ho; cases ho; exact .inr hB
    | arr imm s e es csp =>
      obtain ⟨_, _, _, _, _, _, _, hor⟩ := this.arr_old
      rcases hor with ⟨_, ho, _⟩ | ⟨g, _, _, ho, _, hB, _⟩
      · rw [hg] at ho; cases ho
      · rw [hg] at ho; cases ho; exact .inr hB
    | foc imm s e pre cs post => obtain ⟨_, _, g, _, _, _, _, _, _, ho, _, _, _, _, _, hB, _⟩ := this; rw [hg] at ho; cases ho; exact .inr hB

theorem setImm_nil (rows : List (Nat × Row)) : setImm [] rows = rows := by
  induction rows with
  | nil => rfl
  | cons x rest ih => obtain ⟨i, r⟩ := x; simp [setImm, ih]

theorem purL_in {rows : List (Nat × Row)} {f : AV → Option (AV × List Nat)} (hf : ∀ v p, f v = some p → ∀ id ∈ p.2, ∃ r, lookup rows id = some r) : ∀ (cs : List AV) (p : List AV × List Nat), purL f cs = some p → ∀ id ∈ p.2, ∃ r, lookup rows id = some r
  | [], p, h, id, hid => by simp [purL] at h; subst h; simp at hid
  | c :: cs, p, h, id, hid => by
    simp only [purL] at h
    cases hc : f c with
    | none => simp [hc] at h
    | some q =>
      cases hq : purL f cs with
      | none => simp [hc, hq] at h
      | some q' =>
        simp [hc, hq] at h
        subst h
        simp at hid
        rcases hid with hid | hid
        · exact hf c q hc id hid
        · exact purL_in hf cs q' hq id hid
theorem pur1_in {rows : List (Nat × Row)} : ∀ (n : Nat) (v : AV) (p : AV × List Nat), pur1 rows n v = some p → ∀ id ∈ p.2, ∃ r, lookup rows id = some r := by
  intro n
  induction n with
  | zero => intro v p h; simp [pur1] at h
  | succ n ih =>
    intro v p h id hid
    have hL := purL_in (rows := rows) (f := pur1 rows n) ih
    cases v <;> simp only [pur1] at h
    case ptr i off =>
      cases hr : lookup rows i with
      | none => simp [hr] at h
      | some r =>
        cases r with
        | arr _ _ _ _ _ => simp [hr] at h
        | foc _ _ _ _ _ _ => simp [hr] at h
        | box imm cs =>
          simp only [hr] at h
          cases hp : purL (pur1 rows n) cs with
          | none => simp [hp] at h
          | some q =>
            simp [hp] at h
            subst h
            simp at hid
            rcases hid with rfl | hid
            · exact ⟨_, hr⟩
            · exact hL cs q hp id hid
    case eptr i j off =>
      cases hr : lookup rows i with
      | none => simp [hr] at h
      | some r =>
        cases r with
        | box _ _ => simp [hr] at h
        | foc _ _ _ _ _ _ => simp [hr] at h
        | arr _ _ _ _ _ => simp [hr] at h; obtain ⟨_, h⟩ := h; subst h; simp at hid; subst hid; exact ⟨_, hr⟩
    case own i =>
      cases hr : lookup rows i with
      | none => simp [hr] at h
      | some r =>
        cases r with
        | box _ _ => simp [hr] at h
        | arr _ _ _ _ _ => simp [hr] at h; subst h; simp at hid; subst hid; exact ⟨_, hr⟩
        | foc imm s e pre cs post =>
          simp only [hr] at h
          cases hp : purL (pur1 rows n) cs with
          | none => simp [hp] at h
          | some q =>
            simp only [hp] at h
            split at h
            · simp only [Option.some.injEq] at h
              subst h
              simp at hid
              rcases hid with rfl | hid
              · exact ⟨_, hr⟩
              · exact hL cs q hp id hid
            · cases h
    case sub i lo m =>
      cases hr : lookup rows i with
      | none => simp [hr] at h
      | some r =>
        cases r with
        | box _ _ => simp [hr] at h
        | foc _ _ _ _ _ _ => simp [hr] at h
        | arr _ _ _ _ _ => simp [hr] at h; obtain ⟨_, h⟩ := h; subst h; simp at hid; subst hid; exact ⟨_, hr⟩
    case agg cs =>
      cases hp : purL (pur1 rows n) cs with
      | none => simp [hp] at h
      | some q => simp [hp] at h; subst h; exact hL cs q hp id hid
    case tup cs =>
      cases hp : purL (pur1 rows n) cs with
      | none => simp [hp] at h
      | some q => simp [hp] at h; subst h; exact hL cs q hp id hid
    case fn f cs =>
      cases hp : purL (pur1 rows n) cs with
      | none => simp [hp] at h
      | some q => simp [hp] at h; subst h; exact hL cs q hp id hid
    all_goals first
      | (cases h; simp at hid; done)
      | (simp at h; done)

section ops
variable {ρ : Type} {P : Program} {w0 w : World} {S0 S : Nat → Prop} {B : Ctx} {β : Bet} {og : Nat → Option Nat} {st : St} {a : Act} {o : Oper} {site : Nat} {y : Eff → Option ρ} {r : ρ}
  {K : Act → World → Prop} {Q : Exit → Act → World → Prop}

theorem optInt_some {x : Option Operand} (hR : VRels w S β st.tm a.tmps.toList) (h : optIsInt (x.map (val st.tm)) = true) (d : Int) :
    (x = none ∧ optInt (x.map (val st.tm)) d = d) ∨ ∃ z k, x = some z ∧ a.eval z = .int k (optInt (x.map (val st.tm)) d) := by
  cases x with
  | none => exact .inl ⟨rfl, rfl⟩
  | some z =>
    refine .inr ⟨z, ?_⟩
    have hv := val_rel hR z
    simp only [Option.map_some] at h ⊢
    generalize val st.tm z = v at h hv ⊢
    cases v <;> simp [optIsInt] at h
    rename_i k n
    exact ⟨k, by simp, by rw [hv.int_inv]; rfl⟩

theorem run_sliceBound {k : IntKind} {n : Int} {m : Nat} (c : BoundsCode) (h0 : 0 ≤ n) (h1 : n ≤ (m : Int)) : (Instr.sliceBound (.int k n) m c).run P w = .ok n.toNat w := by
  simp only [Instr.sliceBound, asIntOf, pure_bind]
  rw [if_pos ⟨h0, h1⟩]
  rfl

theorem run_bounds (hR : VRels w S β st.tm a.tmps.toList) {lo hi : Option Operand} (hl : optIsInt (lo.map (val st.tm)) = true) (hh : optIsInt (hi.map (val st.tm)) = true) (sl : Bool) (len cap : Nat) (hlc : len ≤ cap)
    (h : slb (optInt (lo.map (val st.tm)) 0) (optInt (hi.map (val st.tm)) len) len = true) :
    (Instr.sliceBounds sl len cap (lo.map a.eval) (hi.map a.eval) none).run P w = .ok ((optInt (lo.map (val st.tm)) 0).toNat, (optInt (hi.map (val st.tm)) len).toNat, cap) w := by
  simp only [slb, Bool.and_eq_true, decide_eq_true_eq] at h
  obtain ⟨h0, h1, h2⟩ := h
  rcases optInt_some hR hl 0 with ⟨rfl, e0⟩ | ⟨z, k, rfl, e0⟩ <;> rcases optInt_some hR hh len with ⟨rfl, e1⟩ | ⟨z', k', rfl, e1⟩
  · simp [Instr.sliceBounds, optInt]
  · generalize optInt (Option.map (val st.tm) (some z')) len = n at *
    rw [e0] at h1 ⊢
    have hb := fun c => run_sliceBound (P := P) (w := w) (k := k') (n := n) (m := cap) c (by omega) (by omega)
    simp [Instr.sliceBounds, e1, hb]
  · generalize optInt (Option.map (val st.tm) (some z)) 0 = n at *
    rw [e1] at h1 h2 ⊢
    have hb := fun c => run_sliceBound (P := P) (w := w) (k := k) (n := n) (m := len) c (by omega) (by omega)
    simp [Instr.sliceBounds, e0, hb]
  · generalize optInt (Option.map (val st.tm) (some z)) 0 = n at *
    generalize optInt (Option.map (val st.tm) (some z')) len = n' at *
    have hb := fun c => run_sliceBound (P := P) (w := w) (k := k') (n := n') (m := cap) c (by omega) (by omega)
    have hb' := fun c => run_sliceBound (P := P) (w := w) (k := k) (n := n) (m := n'.toNat) c (by omega) (by omega)
    simp [Instr.sliceBounds, e0, e1, hb, hb']

theorem extract_mk (s : List UInt8) (l h : Nat) : (ByteArray.mk s.toArray).extract l h = ⟨((s.drop l).take (h - l)).toArray⟩ := by
  apply ByteArray.ext
  simp

theorem op_slice_str (hR : Rel w S B β og st a) (hO : Out w0 S0 B w S) {t : TypeId} {x : Operand} {lo hi : Option Operand} {s : List UInt8} (ho : o.op = .slice t x lo hi none) (ht : P.underlying t = some .string) (hx : val st.tm x = .str s)
    (hl : optIsInt (lo.map (val st.tm)) = true) (hh : optIsInt (hi.map (val st.tm)) = true) (hb : slb (optInt (lo.map (val st.tm)) 0) (optInt (hi.map (val st.tm)) s.length) s.length = true)
    (hy : y { v := .str ((s.drop (optInt (lo.map (val st.tm)) 0).toNat).take ((optInt (hi.map (val st.tm)) s.length).toNat - (optInt (lo.map (val st.tm)) 0).toNat)) } = some r) (hK : Good w0 S0 B site o st y r K) : o.wp P a w K Q := by
  have h := val_rel hR.tm x
  rw [hx] at h
  refine op_slot hR hO (.str _ _) hy hK ?_
  have hbd := run_bounds (P := P) (w := w) hR.tm hl hh false s.length s.length (Nat.le_refl _) hb
  have hsz : (ByteArray.mk s.toArray).size = s.length := by simp [ByteArray.size]
  simp [execOp, ho, h.str_inv, Instr.sliceAt, run_underlying ht, Instr.slice, hsz, hbd, extract_mk]

theorem sizeOK_spec {e : TypeId} {s : Sh} (h : sizeOK P e s = true) : ∃ i, P.info? e = some i ∧ i.size = s.width := by
  simp only [sizeOK, Bool.and_eq_true, beq_iff_eq] at h
  obtain ⟨i, hi⟩ := Option.isSome_iff_exists.1 h.1
  exact ⟨i, hi, by have := h.2; simpa [Program.cellsOf, hi] using this⟩

theorem op_slice_slv (hR : Rel w S B β og st a) (hO : Out w0 S0 B w S) {rowsV : List (Nat × Row)} (hsub : ∀ id x, lookup rowsV id = some x → lookup st.rows id = some x) {t e : TypeId} {x : Operand} {lo hi : Option Operand} {s : Sh} {es : List AV} {ids : List Nat}
    (ho : o.op = .slice t x lo hi none) (ht : P.underlying t = some (.slice e)) (hx : pur1 rowsV depth (val st.tm x) = some (.slv s es, ids)) (hsz : sizeOK P e s = true)
    (hl : optIsInt (lo.map (val st.tm)) = true) (hh : optIsInt (hi.map (val st.tm)) = true) (hb : slb (optInt (lo.map (val st.tm)) 0) (optInt (hi.map (val st.tm)) es.length) es.length = true)
    (hy : y { v := .slv s ((es.drop (optInt (lo.map (val st.tm)) 0).toNat).take ((optInt (hi.map (val st.tm)) es.length).toNat - (optInt (lo.map (val st.tm)) 0).toNat)), imm := ids } = some r) (hK : Good w0 S0 B site o st y r K) : o.wp P a w K Q := by
  have hp := pur1_sound (w := w) (S := S) (B := B) (β := β) (og := og) (rows := rowsV) (fun id x hx => hR.row id x (hsub _ _ hx)) depth _ _ _ _ hx (val_rel hR.tm x)
  obtain ⟨i, hi', hiw⟩ := sizeOK_spec hsz
  have hb0 := hb
  simp only [slb, Bool.and_eq_true, decide_eq_true_eq] at hb0
  obtain ⟨h0, h1, h2⟩ := hb0
  obtain ⟨A, c, he, hc, hv⟩ := slv_part hp β (l := (optInt (lo.map (val st.tm)) 0).toNat) (hh := (optInt (hi.map (val st.tm)) es.length).toNat) (by omega) (by omega)
  have hin : ∀ id ∈ ids, ∃ r, lookup st.rows id = some r := fun id hid => by obtain ⟨r, hr⟩ := pur1_in _ _ _ hx id hid; exact ⟨r, hsub _ _ hr⟩
  have hF := (hR.freeze ids).put o.dst hv
  refine wp_value (u := .slice (if c = (optInt (lo.map (val st.tm)) 0).toNat then A else A.map (·.add ((optInt (lo.map (val st.tm)) 0).toNat * s.width))) ((optInt (hi.map (val st.tm)) es.length).toNat - (optInt (lo.map (val st.tm)) 0).toNat) (c - (optInt (lo.map (val st.tm)) 0).toNat)) (w' := w) ?_ (hK _ _ _ hy ⟨With S og ids, β, og, ?_, hO.freeze hR ids hin⟩)
  · have hbd := run_bounds (P := P) (w := w) hR.tm hl hh true es.length c hc hb
    simp [execOp, ho, he, Instr.sliceAt, run_underlying ht, Instr.slice, hbd, sizeOf, typeInfo, hi', hiw]
  · have : applyRows site { v := AV.slv s ((es.drop (optInt (lo.map (val st.tm)) 0).toNat).take ((optInt (hi.map (val st.tm)) es.length).toNat - (optInt (lo.map (val st.tm)) 0).toNat)), imm := ids } st.rows = setImm ids st.rows := by
      simp only [applyRows, List.foldl_nil]
      cases ids with
      | nil => rw [setImm_nil]
      | cons i is => rfl
    simp only [apply, this, List.map_nil, List.nil_append]
    exact hF

theorem op_slice_zero (hR : Rel w S B β og st a) (hO : Out w0 S0 B w S) {rowsV : List (Nat × Row)} (hsub : ∀ id x, lookup rowsV id = some x → lookup st.rows id = some x) {t e : TypeId} {x m : Operand} {lo hi : Option Operand} {s : Sh} {es : List AV} {ids : List Nat} {k : IntKind}
    (ho : o.op = .slice t x lo hi (some m)) (ht : P.underlying t = some (.slice e)) (hx : pur1 rowsV depth (val st.tm x) = some (.slv s es, ids)) (hsz : sizeOK P e s = true) (hm : val st.tm m = .int k 0)
    (hl : optIsInt (lo.map (val st.tm)) = true) (hh : optIsInt (hi.map (val st.tm)) = true) (hl0 : optInt (lo.map (val st.tm)) 0 = 0) (hh0 : optInt (hi.map (val st.tm)) 1 = 0)
    (hy : y { v := .slz s } = some r) (hK : Good w0 S0 B site o st y r K) : o.wp P a w K Q := by
  have hp := pur1_sound (w := w) (S := S) (B := B) (β := β) (og := og) (rows := rowsV) (fun id x hx => hR.row id x (hsub _ _ hx)) depth _ _ _ _ hx (val_rel hR.tm x)
  obtain ⟨A, c, ad, xs, he, _, hc, _⟩ := hp.slv_inv
  obtain ⟨i, hi', hiw⟩ := sizeOK_spec hsz
  have hmv := val_rel hR.tm m
  rw [hm] at hmv
  refine op_slot hR hO (.slz _ s A) hy hK ?_
  rcases optInt_some hR.tm hl 0 with ⟨rfl, e0⟩ | ⟨z, k0, rfl, e0⟩ <;> rcases optInt_some hR.tm hh 1 with ⟨rfl, e1⟩ | ⟨z', k', rfl, e1⟩
  · simp [optInt] at hh0
  · rw [hh0] at e1
    simp [execOp, ho, he, Instr.sliceAt, run_underlying ht, Instr.slice, Instr.sliceBounds, Instr.sliceBound, asIntOf, hmv.int_inv, e1, sizeOf, typeInfo, hi']
  · simp [optInt] at hh0
  · rw [hh0] at e1
    rw [hl0] at e0
    simp [execOp, ho, he, Instr.sliceAt, run_underlying ht, Instr.slice, Instr.sliceBounds, Instr.sliceBound, asIntOf, hmv.int_inv, e0, e1, sizeOf, typeInfo, hi']

theorem inb_spec {n : Int} {m : Nat} (h : inb n m = true) : 0 ≤ n ∧ n < m ∧ n.toNat < m := by
  simp only [inb, Bool.and_eq_true, decide_eq_true_eq] at h
  exact ⟨h.1, h.2, by omega⟩

theorem op_indexAddr_slv (hR : Rel w S B β og st a) (hO : Out w0 S0 B w S) {t e : TypeId} {x i : Operand} {s : Sh} {es : List AV} {k : IntKind} {n : Int} (ho : o.op = .indexAddr t x i) (ht : P.underlying t = some (.slice e)) (hx : val st.tm x = .slv s es) (hi : val st.tm i = .int k n)
    (hsz : sizeOK P e s = true) (hb : inb n es.length = true) (hy : y { v := .eref s es n.toNat 0 } = some r) (hK : Good w0 S0 B site o st y r K) : o.wp P a w K Q := by
  have h := val_rel hR.tm x
  rw [hx] at h
  have h' := val_rel hR.tm i
  rw [hi] at h'
  obtain ⟨b0, b1, b2⟩ := inb_spec hb
  obtain ⟨A, c, ad, xs, he, hs, hc, hm, hA, hv, h1, hxs⟩ := h.slv_inv
  obtain ⟨rfl, hS⟩ := hA (by rintro rfl; simp at b2)
  obtain ⟨ii, hii, hiw⟩ := sizeOK_spec hsz
  refine op_slot hR hO (.eref _ s es n.toNat 0 ad xs b2 hs hS hv.1 h1 hxs hv.2) hy hK ?_
  simp [execOp, ho, he, h'.int_inv, Instr.indexAt, asIntOf, run_underlying ht, b0, b1, sizeOf, typeInfo, hii, hiw]

theorem op_indexAddr_own (hR : Rel w S B β og st a) (hO : Out w0 S0 B w S) {t e e' : TypeId} {x i : Operand} {id : Nat} {im : Bool} {s : Sh} {es : List AV} {k : IntKind} {n : Int} (ho : o.op = .indexAddr t x i) (ht : P.underlying t = some (.slice e)) (hx : val st.tm x = .own id)
    {csp : Option (List AV)} (hl : lookup st.rows id = some (.arr im s e' es csp)) (hi : val st.tm i = .int k n)
    (hsz : sizeOK P e s = true) (hb : inb n es.length = true) (hy : y { v := .eptr id n.toNat 0 } = some r) (hK : Good w0 S0 B site o st y r K) : o.wp P a w K Q := by
  have h := val_rel hR.tm x
  rw [hx] at h
  have h' := val_rel hR.tm i
  rw [hi] at h'
  obtain ⟨b0, b1, b2⟩ := inb_spec hb
  obtain ⟨hp, hsh, v, xs, hbt, h1, hvs, hor⟩ := (hR.row id _ hl).arr_old
  obtain ⟨ii, hii, hiw⟩ := sizeOK_spec hsz
  rcases hor with ⟨he0, _⟩ | ⟨g, cap, cur, hog, hvv, _, hh, hc, hm, _⟩
  · subst he0; simp at b2
  · generalize he : a.eval x = u at h
    cases h with
    | own _ _ v' wd hb' =>
      rw [hbt] at hb'
      simp only [Option.some.injEq, Prod.mk.injEq] at hb'
      obtain ⟨rfl, rfl⟩ := hb'
      subst hvv
      refine op_slot hR hO (.eptr _ id n.toNat 0 g _ _ _ hbt) hy hK ?_
      simp [execOp, ho, he, h'.int_inv, Instr.indexAt, asIntOf, run_underlying ht, b0, b1, sizeOf, typeInfo, hii, hiw, add_lit]

theorem op_indexAddr_foc (hR : Rel w S B β og st a) (hO : Out w0 S0 B w S) {t e e' : TypeId} {x i : Operand} {id : Nat} {im : Bool} {s : Sh} {pre cs post : List AV} {k : IntKind} {n : Int} (ho : o.op = .indexAddr t x i) (ht : P.underlying t = some (.slice e)) (hx : val st.tm x = .own id)
    (hl : lookup st.rows id = some (.foc im s e' pre cs post)) (hi : val st.tm i = .int k n)
    (hsz : sizeOK P e s = true) (hb : inb n (pre.length + (post.length + 1)) = true) (hy : y { v := .eptr id n.toNat 0 } = some r) (hK : Good w0 S0 B site o st y r K) : o.wp P a w K Q := by
  have h := val_rel hR.tm x
  rw [hx] at h
  have h' := val_rel hR.tm i
  rw [hi] at h'
  obtain ⟨b0, b1, b2⟩ := inb_spec hb
  obtain ⟨hpos, hcl, g, sp, xs, us, ys, _, _, _, hbt, _⟩ := hR.row id _ hl
  obtain ⟨ii, hii, hiw⟩ := sizeOK_spec hsz
  generalize pre.length + (post.length + 1) = m at hbt b1 b2
  generalize he : a.eval x = u at h
  cases h with
  | own _ _ v' wd hb' =>
    rw [hbt] at hb'
    simp only [Option.some.injEq, Prod.mk.injEq] at hb'
    obtain ⟨rfl, rfl⟩ := hb'
    refine op_slot hR hO (.eptr _ id n.toNat 0 g _ _ _ hbt) hy hK ?_
    simp [execOp, ho, he, h'.int_inv, Instr.indexAt, asIntOf, run_underlying ht, b0, b1, sizeOf, typeInfo, hii, hiw, add_lit]

theorem op_index_str (hR : Rel w S B β og st a) (hO : Out w0 S0 B w S) {t : TypeId} {x i : Operand} {s : List UInt8} {k : IntKind} {n : Int} (ho : o.op = .index t x i) (ht : P.underlying t = some .string) (hx : valT P st.tm t x = .str s) (hi : val st.tm i = .int k n)
    (hb : inb n s.length = true) (hy : y { v := .int .u8 ((s.getD n.toNat 0).toNat) } = some r) (hK : Good w0 S0 B site o st y r K) : o.wp P a w K Q := by
  have h := valT_rel hR.tm P t x
  rw [hx] at h
  have h' := val_rel hR.tm i
  rw [hi] at h'
  obtain ⟨b0, b1, b2⟩ := inb_spec hb
  refine op_slot hR hO (.int _ _ _) hy hK ?_
  have hg : (ByteArray.mk s.toArray)[n.toNat]? = some (s.getD n.toNat 0) := by
    have hlt : n.toNat < (ByteArray.mk s.toArray).size := by simpa [ByteArray.size] using b2
    have h0 := getElem?_pos (ByteArray.mk s.toArray) n.toNat hlt
    rw [h0]
    congr 1
    show s.toArray[n.toNat] = _
    simp [List.getD, List.getElem?_eq_getElem b2]
  simp [execOp, ho, h.str_inv, h'.int_inv, Instr.index, asIntOf, run_underlying ht, b0, hg]

theorem op_index_arr (hR : Rel w S B β og st a) (hO : Out w0 S0 B w S) {t e : TypeId} {x i : Operand} {len : Nat} {cs : List AV} {k : IntKind} {n : Int} (ho : o.op = .index t x i) (ht : P.underlying t = some (.array len e)) (hx : valT P st.tm t x = .agg cs) (hi : val st.tm i = .int k n)
    (hag : isAggT P e = false) (h1 : P.cellsOf e = 1) (hd : (P.underlying e).isSome = true) (hl : len = cs.length) (hall : cs.all (has1 (shOf P depth e)) = true)
    (hb : inb n len = true) (hy : y { v := eta1 (shOf P depth e) (cs.getD n.toNat .unk) } = some r) (hK : Good w0 S0 B site o st y r K) : o.wp P a w K Q := by
  have h := valT_rel hR.tm P t x
  rw [hx] at h
  have h' := val_rel hR.tm i
  rw [hi] at h'
  obtain ⟨b0, b1, b2⟩ := inb_spec hb
  obtain ⟨vs, he, hvs, _⟩ := h.agg_inv
  obtain ⟨d, hd⟩ := Option.isSome_iff_exists.1 hd
  obtain ⟨ii, hii, hiw⟩ := underlying_info hd
  have hc : cs[n.toNat]? = some (cs[n.toNat]'(by omega)) := List.getElem?_eq_getElem (by omega)
  obtain ⟨u, hu, hr⟩ := hvs.at_ hc
  have hgd : cs.getD n.toNat .unk = cs[n.toNat]'(by omega) := by simp [List.getD, hc]
  have hhas : has1 (shOf P depth e) (cs[n.toNat]'(by omega)) = true := by
    rw [List.all_eq_true] at hall
    exact hall _ (List.getElem_mem _)
  refine op_slot hR hO (u := u) (by rw [hgd]; exact eta1_rel hhas hr) hy hK ?_
  simp [execOp, ho, he, h'.int_inv, Instr.index, asIntOf, run_underlying ht, b0, b1, part, run_isAgg hd, hag, sizeOf, typeInfo, hii, hiw, h1, hu]

end ops
end Go.Ev

namespace Go.Ev
open Go.RowKit

section ops
variable {ρ : Type} {P : Program} {w0 w : World} {S0 S : Nat → Prop} {B : Ctx} {β : Bet} {og : Nat → Option Nat} {st : St} {a : Act} {o : Oper} {site : Nat} {y : Eff → Option ρ} {r : ρ}
  {K : Act → World → Prop} {Q : Exit → Act → World → Prop}

theorem size_mk (s : List UInt8) : (ByteArray.mk s.toArray).size = s.length := by simp [ByteArray.size]

theorem map_eval (args : Array Operand) (us : List Value) (h : args.toList.map a.eval = us) : args.map a.eval = us.toArray := by
  apply Array.ext'
  simpa using h

theorem minInt_sound {k : IntKind} : ∀ (rest : List AV) (us : List Value) (x n : Int), minInt k x rest = some n → VRels w S β rest us → (us.foldlM Builtin.min2 (.int k x)).run P w = .ok (.int k n) w
  | [], us, x, n, h, hv => by simp [minInt] at h; rw [hv.inv_nil]; simp [h]
  | c :: rest, us, x, n, h, hv => by
    obtain ⟨u, us', rfl, hu, hs⟩ := hv.inv
    cases c <;> simp only [minInt] at h <;> try (cases h)
    rename_i k' m
    split at h
    · rename_i hk
      subst hk
      rw [hu.int_inv]
      have ih := minInt_sound rest us' _ n h hs
      simp only [List.foldlM_cons, Builtin.min2, pure_bind]
      exact ih
    · cases h
theorem maxInt_sound {k : IntKind} : ∀ (rest : List AV) (us : List Value) (x n : Int), maxInt k x rest = some n → VRels w S β rest us → (us.foldlM Builtin.max2 (.int k x)).run P w = .ok (.int k n) w
  | [], us, x, n, h, hv => by simp [maxInt] at h; rw [hv.inv_nil]; simp [h]
  | c :: rest, us, x, n, h, hv => by
    obtain ⟨u, us', rfl, hu, hs⟩ := hv.inv
    cases c <;> simp only [maxInt] at h <;> try (cases h)
    rename_i k' m
    split at h
    · rename_i hk
      subst hk
      rw [hu.int_inv]
      have ih := maxInt_sound rest us' _ n h hs
      simp only [List.foldlM_cons, Builtin.max2, pure_bind]
      exact ih
    · cases h

/-- What an argument of len or append holds. -/
theorem elems_sound (hR : Rel w S B β og st a) {rowsV : List (Nat × Row)} (hsub : ∀ id x, lookup rowsV id = some x → lookup st.rows id = some x) {z : AV} {s : Sh} {es : List AV} (h : elemsOf rowsV z = some (s, es)) {u : Value} (hv : VRel w S β z u) :
    ∃ (A : Option Addr) (c : Nat) (ad : Addr) (xs : List Value), u = .slice A es.length c ∧ (∀ e ∈ es, hasSh s e = true) ∧ (es ≠ [] → A = some ad) ∧ VRels w S nob (flat es) xs ∧ (∀ u ∈ xs, u.oneCell' = true) ∧
      (∀ (j : Nat) (u : Value), xs[j]? = some u → w.cell? (ad.add j) = some u) ∧ es.length ≤ maxLen := by
  cases z <;> simp only [elemsOf] at h <;> try (cases h)
  · obtain ⟨A, c, ad, xs, rfl, hs, hc, hm, hA, hvs, h1, hx⟩ := hv.slv_inv
    exact ⟨A, c, ad, xs, rfl, hs, fun hne => (hA hne).1, hvs, h1, hx, by omega⟩
  · cases hv with
    | slz _ _ A => exact ⟨A, 0, default, [], rfl, by simp, fun h => absurd rfl h, VRels.nil, by simp, by simp, by simp⟩
  · rename_i id
    split at h
    · rename_i im s' e es' csp hl
      cases h
      obtain ⟨hp, hsh, v, xs, hbt, h1, hvs, hor⟩ := (hR.row id _ (hsub _ _ hl)).arr_old
      cases hv with
      | own _ _ v' wd hb' =>
        rw [hbt] at hb'
        simp only [Option.some.injEq, Prod.mk.injEq] at hb'
        obtain ⟨rfl, rfl⟩ := hb'
        rcases hor with ⟨he0, _, A, rfl⟩ | ⟨g, cap, cur, hog, rfl, _, hh, hc, hm, _, htk, _⟩
        · subst he0
          exact ⟨A, 0, default, xs, rfl, by simp, fun h => absurd rfl h, hvs, h1, fun j u hu => by
            have : xs = [] := by have := hvs.1; simpa [flat] using this
            subst this
            simp at hu, by simp⟩
        · refine ⟨_, cap, ⟨g, 0, none⟩, xs, rfl, hsh, fun _ => rfl, hvs, h1, fun j u hu => ?_, by omega⟩
          rw [add_lit, row_cell hh]
          rw [← htk, List.getElem?_take] at hu
          split at hu
          · simpa using hu
          · cases hu
    · cases h
  · rename_i id lo n
    split at h
    · rename_i im s' e es' csp hl
      split at h
      · rename_i hle
        cases h
        obtain ⟨hp, hsh, v, xs, hbt, h1, hvs, hor⟩ := (hR.row id _ (hsub _ _ hl)).arr_old
        have hlen : ((es'.drop lo).take n).length = n := by simp; omega
        have hfl : flat ((es'.drop lo).take n) = ((flat es').drop (lo * s.width)).take (n * s.width) := by
          rw [flat_take (s := s) _ _ (fun x hx => hsh x (List.mem_of_mem_drop hx)), flat_drop es' lo hsh]
        have hvv := (hvs.drop (lo * s.width)).take (n * s.width)
        rw [← hfl] at hvv
        have hs' : ∀ e ∈ (es'.drop lo).take n, hasSh s e = true := fun e he => hsh e (List.mem_of_mem_drop (List.mem_of_mem_take he))
        have h1' : ∀ u ∈ (xs.drop (lo * s.width)).take (n * s.width), u.oneCell' = true := fun u hu => h1 u (List.mem_of_mem_drop (List.mem_of_mem_take hu))
        cases hv with
        | sub _ _ _ _ A m c wd hb' =>
          rw [hbt] at hb'
          simp only [Option.some.injEq, Prod.mk.injEq] at hb'
          obtain ⟨rfl, rfl⟩ := hb'
          rcases hor with ⟨he0, _, A', hA'⟩ | ⟨g, cap, cur, hog, hvv', _, hh, hc, hm, _, htk, _⟩
          · subst he0
            simp at hle
            obtain ⟨rfl, rfl⟩ := hle
            refine ⟨_, _, default, _, by rw [hlen], hs', fun h => absurd (by simp) h, hvv, h1', fun j u hu => ?_, by simp⟩
            simp at hu
          · cases hvv'
            refine ⟨_, _, ⟨g, lo * s.width, none⟩, _, by rw [hlen], hs', fun hne => ?_, hvv, h1', fun j u hu => ?_, by rw [hlen]; omega⟩
            · have hn : n ≠ 0 := by rintro rfl; simp at hne
              rw [if_neg (by omega)]
              simp [add_lit']
            · rw [List.getElem?_take] at hu
              split at hu
              · rw [List.getElem?_drop] at hu
                rw [add_lit', row_cell hh]
                rw [← htk, List.getElem?_take] at hu
                split at hu
                · simpa using hu
                · cases hu
              · cases hu
      · cases h
    · cases h

theorem op_len (hR : Rel w S B β og st a) (hO : Out w0 S0 B w S) {rowsV : List (Nat × Row)} (hsub : ∀ id x, lookup rowsV id = some x → lookup st.rows id = some x) {args : Array Operand} {ts : Array TypeId} {t : TypeId} {tr : List TypeId} {x : AV}
    (ho : o.op = .call { callee := .builtin .len, args := args, argTypes := ts }) (hts : ts.toList = t :: tr) (hx : valsT P st.tm ts.toList args.toList = [x])
    (h : evLen P rowsV t x y = some r) (hK : Good w0 S0 B site o st y r K) : o.wp P a w K Q := by
  have hv := valsT_rel hR.tm P ts.toList args.toList
  rw [hx] at hv
  obtain ⟨u, us, he, hu, hn⟩ := hv.inv
  rw [hn.inv_nil] at he
  have hm := map_eval args _ he
  have ht0 : ts[0]? = some t := by rw [← Array.getElem?_toList, hts]; rfl
  unfold evLen at h
  split at h
  · rename_i ht
    split at h
    · refine op_slot hR hO (.int _ _ _) h hK ?_
      simp [execOp, ho, resolve, invoke, builtin, hm, Builtin.len_, ht0, run_underlying ht, hu.str_inv, goInt, size_mk]
    · cases h
  · rename_i e ht
    split at h
    · rename_i n hfl
      cases x with
      | own id =>
        simp only [focLen] at hfl
        cases hl : lookup rowsV id with
        | none => rw [hl] at hfl; cases hfl
        | some r0 =>
          cases r0 with
          | box _ _ => rw [hl] at hfl; cases hfl
          | arr _ _ _ _ _ => rw [hl] at hfl; cases hfl
          | foc im s e' pre cs post =>
            simp only [hl, Option.some.injEq] at hfl
            subst hfl
            obtain ⟨hpos, hcl, g, sp, xs, us', ys, _, _, _, hbt, _⟩ := hR.row id _ (hsub _ _ hl)
            generalize pre.length + (post.length + 1) = m at hbt h
            cases hu with
            | own _ _ v' wd hb' =>
              rw [hbt] at hb'
              simp only [Option.some.injEq, Prod.mk.injEq] at hb'
              obtain ⟨rfl, rfl⟩ := hb'
              refine op_slot hR hO (.int _ _ _) h hK ?_
              simp [execOp, ho, resolve, invoke, builtin, hm, Builtin.len_, ht0, run_underlying ht, goInt]
      | _ => simp [focLen] at hfl
    split at h
    · rename_i s es hel
      obtain ⟨A, c, ad, xs, rfl, _⟩ := elems_sound hR hsub hel hu
      refine op_slot hR hO (.int _ _ _) h hK ?_
      simp [execOp, ho, resolve, invoke, builtin, hm, Builtin.len_, ht0, run_underlying ht, goInt]
    · cases h
  · cases h

theorem op_min (hR : Rel w S B β og st a) (hO : Out w0 S0 B w S) {args : Array Operand} {ts : Array TypeId} {k : IntKind} {x n : Int} {rest : List AV}
    (ho : o.op = .call { callee := .builtin .min, args := args, argTypes := ts }) (hx : valsT P st.tm ts.toList args.toList = .int k x :: rest) (hn : minInt k x rest = some n)
    (hy : y { v := .int k n } = some r) (hK : Good w0 S0 B site o st y r K) : o.wp P a w K Q := by
  have hv := valsT_rel hR.tm P ts.toList args.toList
  rw [hx] at hv
  obtain ⟨u, us, he, hu, hs⟩ := hv.inv
  have hm := map_eval args _ he
  refine op_slot hR hO (.int _ _ _) hy hK ?_
  have := minInt_sound (P := P) rest us x n hn hs
  simp [execOp, ho, resolve, invoke, builtin, hm, Builtin.min_, hu.int_inv, this]
theorem op_max (hR : Rel w S B β og st a) (hO : Out w0 S0 B w S) {args : Array Operand} {ts : Array TypeId} {k : IntKind} {x n : Int} {rest : List AV}
    (ho : o.op = .call { callee := .builtin .max, args := args, argTypes := ts }) (hx : valsT P st.tm ts.toList args.toList = .int k x :: rest) (hn : maxInt k x rest = some n)
    (hy : y { v := .int k n } = some r) (hK : Good w0 S0 B site o st y r K) : o.wp P a w K Q := by
  have hv := valsT_rel hR.tm P ts.toList args.toList
  rw [hx] at hv
  obtain ⟨u, us, he, hu, hs⟩ := hv.inv
  have hm := map_eval args _ he
  refine op_slot hR hO (.int _ _ _) hy hK ?_
  have := maxInt_sound (P := P) rest us x n hn hs
  simp [execOp, ho, resolve, invoke, builtin, hm, Builtin.max_, hu.int_inv, this]

/-! ### append -/
theorem elemOK_spec {e : TypeId} (h : elemOK P e = true) : ∃ i z, P.info? e = some i ∧ i.zero = some z ∧ i.size = (shOf P depth e).width ∧ 0 < i.size ∧ z.cells.size = i.size ∧ i.bytes = P.bytesOf e ∧
    ∃ zc, zeroAV P e = some zc ∧ hass (shOf P depth e).cells zc = true := by
  unfold elemOK at h
  cases hi : P.info? e with
  | none => simp [hi] at h
  | some i =>
    simp only [hi, Bool.and_eq_true, beq_iff_eq] at h
    obtain ⟨h1, h2, h3, h4⟩ := h
    cases hz : i.zero with
    | none => simp [hz] at h3
    | some z =>
      simp only [hz, beq_iff_eq] at h3
      cases hza : zeroAV P e with
      | none => simp [hza] at h4
      | some zc =>
        simp only [hza] at h4
        exact ⟨i, z, rfl, hz, h1, Nat.blt_eq ▸ h2, h3, by simp [Program.bytesOf, hi], zc, rfl, h4⟩

theorem range_rep {α : Type} (zs : List α) (d : α) (n : Nat) (hn : zs.length = n) (hpos : 0 < n) : ∀ len : Nat, (List.range (len * n)).map (fun j => zs.getD (j % n) d) = (List.replicate len zs).flatten
  | 0 => by simp
  | len + 1 => by
    have ih := range_rep zs d n hn hpos len
    rw [Nat.add_mul, Nat.one_mul, Nat.add_comm, List.range_add, List.map_append, List.replicate_succ, List.flatten_cons]
    congr 1
    · apply List.ext_getElem?
      intro j
      simp only [List.getElem?_map]
      by_cases hj : j < n
      · simp [List.getElem?_range hj, Nat.mod_eq_of_lt hj, List.getD, List.getElem?_eq_getElem (show j < zs.length by omega)]
      · simp [List.getElem?_eq_none (show (List.range n).length ≤ j by simp; omega), List.getElem?_eq_none (show zs.length ≤ j by omega)]
    · rw [← ih, List.map_map]
      apply List.map_congr_left
      intro j _
      simp

theorem VRels.rep {cs : List AV} {vs : List Value} (h : VRels w S β cs vs) : ∀ len : Nat, VRels w S β (List.replicate len cs).flatten (List.replicate len vs).flatten
  | 0 => by simpa using VRels.nil
  | len + 1 => by
    rw [List.replicate_succ, List.replicate_succ, List.flatten_cons, List.flatten_cons]
    exact h.append (VRels.rep h len)

theorem ofCell_cells (s : Sh) (v : Value) : (ofCell s v).cells = [ofCell s v] := by
  unfold ofCell
  split <;> first | rfl | (split <;> rfl)
theorem ofCells_cells : ∀ (l : List Sh) (vs : List Value), ∀ c ∈ ofCells l vs, c.cells = [c]
  | _, [], c, hc => by simp [ofCells] at hc
  | l, v :: vs, c, hc => by
    simp only [ofCells, List.mem_cons] at hc
    rcases hc with rfl | hc
    · exact ofCell_cells _ _
    · exact ofCells_cells _ vs c hc
theorem ofVal_cells (s : Sh) (v : Value) : ∀ c ∈ (ofVal s v).cells, c.cells = [c] := by
  intro c hc
  unfold ofVal at hc
  split at hc
  · split at hc
    · exact ofCells_cells _ _ c hc
    · simp [AV.cells] at hc; subst hc; rfl
  · split at hc
    · simp [AV.cells] at hc; subst hc; rfl
    · simp [AV.cells] at hc; subst hc; rfl
  · rw [ofCell_cells] at hc
    simp at hc
    subst hc
    exact ofCell_cells _ _

theorem mkAV_zero {s : Sh} {z : List AV} (hl : z.length = s.width) (h1 : ∀ c ∈ z, c.cells = [c]) : (mkAV s z).cells = z := by
  cases s with
  | agg l => rfl
  | _ =>
    match z, hl with
    | [c], _ => exact h1 c (by simp)


theorem mkAV_of {s : Sh} {avs : List AV} (h : hass s.cells avs = true) : (mkAV s avs).cells = avs ∧ hasSh s (mkAV s avs) = true := by
  have one : ∀ s : Sh, s.cells = [s] → (∀ c, hasSh s c = has1 s c) → (mkAV s avs = avs.headD .unk) → hass s.cells avs = true → (mkAV s avs).cells = avs ∧ hasSh s (mkAV s avs) = true := by
    intro s e1 e2 e3 h
    rw [e1] at h
    cases avs with
    | nil => simp [hass] at h
    | cons c cs =>
      cases cs with
      | cons => simp [hass] at h
      | nil =>
        simp only [hass, Bool.and_true] at h
        rw [e3, e2]
        exact ⟨(has1_cells s c h).1, h⟩
  cases s with
  | agg l => exact ⟨rfl, h⟩
  | int k => exact one (.int k) rfl (fun _ => rfl) rfl h
  | bool => exact one .bool rfl (fun _ => rfl) rfl h
  | str => exact one .str rfl (fun _ => rfl) rfl h
  | slice s => exact one (.slice s) rfl (fun _ => rfl) rfl h
  | other => exact one .other rfl (fun _ => rfl) rfl h
theorem zeros_rel {e : TypeId} {i : TypeInfo} {zz : Value} {zc : List AV} (hi : P.info? e = some i) (hzz : i.zero = some zz) (hzs : zz.cells.size = i.size) (hpos : 0 < i.size) (hza : zeroAV P e = some zc) (hh : hass (shOf P depth e).cells zc = true) (w : World) (S : Nat → Prop) (β : Bet) (k : Nat) :
    hasSh (shOf P depth e) (zeroE P e) = true ∧ VRels w S β (flat (List.replicate k (zeroE P e))) (Builtin.zeroCells zz.cells k).toList ∧ ∀ u ∈ (Builtin.zeroCells zz.cells k).toList, u.oneCell' = true := by
  obtain ⟨i', v, hi', hv, hl, hzc⟩ := zeroAV_spec hza
  rw [hi] at hi'
  cases hi'
  rw [hzz] at hv
  cases hv
  obtain ⟨zs, hcz, hzvs, hz1⟩ := (ofVal_rel (w := w) (S := S) (β := nob) (shOf P depth e) zz).laid hl (fun _ _ h => by cases h)
  obtain ⟨m1, m2⟩ := mkAV_of hh
  have hzl : zs.length = i.size := by rw [← hzs, hcz]; simp
  have hzl2 : (Builtin.zeroCells zz.cells k).toList = (List.replicate k zs).flatten := by
    have hr := range_rep zs (default : Value) i.size hzl hpos k
    rw [← hr]
    unfold Builtin.zeroCells
    rw [hcz]
    simp only [List.size_toArray, hzl, Array.toList_map, Array.toList_range]
    apply List.map_congr_left
    intro j _
    have hlt : j % i.size < zs.length := by rw [hzl]; exact Nat.mod_lt _ hpos
    simp [List.getD, List.getElem?_eq_getElem hlt, getElem!_pos zs.toArray (j % i.size) (by simpa using hlt)]
  have hfl : flat (List.replicate k (zeroE P e)) = (List.replicate k zc).flatten := by
    simp [flat, List.flatMap_replicate, zeroE, hza, m1]
  refine ⟨by simpa [zeroE, hza] using m2, ?_, ?_⟩
  · rw [hfl, hzl2, hzc]
    exact (hzvs.mono (fun _ h => h) (fun _ _ => rfl) (fun _ _ h => by cases h)).rep k
  · intro u hu
    rw [hzl2] at hu
    obtain ⟨l, hl, hul⟩ := List.mem_flatten.1 hu
    rw [(List.mem_replicate.1 hl).2] at hul
    exact hz1 u hul

/-- A slice's new array, with zero values behind its elements. -/
theorem rowrel_new (hSlt : ∀ b, S b → b < w.heap.size) (hBlt : ∀ b, B b → b < w.heap.size) {e : TypeId} {i : TypeInfo} {zz : Value} {zc : List AV} (hi : P.info? e = some i) (hzz : i.zero = some zz) (hzs : zz.cells.size = i.size) (hpos : 0 < i.size) (hiw : i.size = (shOf P depth e).width)
    (hza : zeroAV P e = some zc) (hh : hass (shOf P depth e).cells zc = true) {s : Sh} (hse : s = shOf P depth e) {es : List AV} {xs : List Value} (hsh : ∀ x ∈ es, hasSh s x = true) (hvs : VRels w S nob (flat es) xs) (h1 : ∀ u ∈ xs, u.oneCell' = true) {cap : Nat} (hc : es.length ≤ cap) (hm : cap ≤ maxLen)
    {w1 : World} (hw1 : w1.heap = w.heap) {β' : Bet} {id : Nat} (hβ : β' id = some (.slice (some ⟨w.heap.size, 0, none⟩) es.length cap, s.width)) :
    RowRel (w1.alloc (.cells (xs.toArray ++ Builtin.zeroCells zz.cells (cap - es.length)) e)) S B β' id (some w.heap.size) (.arr false s e es none) := by
  have hb := below_alloc w1 (.cells (xs.toArray ++ Builtin.zeroCells zz.cells (cap - es.length)) e)
  rw [hw1] at hb
  obtain ⟨z1, z2, z3⟩ := zeros_rel (P := P) hi hzz hzs hpos hza hh (w1.alloc (.cells (xs.toArray ++ Builtin.zeroCells zz.cells (cap - es.length)) e)) S nob (cap - es.length)
  have hx : (xs.toArray ++ Builtin.zeroCells zz.cells (cap - es.length)) = (xs ++ (Builtin.zeroCells zz.cells (cap - es.length)).toList).toArray := by apply Array.ext'; simp
  refine ⟨by rw [hse, ← hiw]; exact hpos, _, List.replicate (cap - es.length) (zeroE P e), xs ++ (Builtin.zeroCells zz.cells (cap - es.length)).toList, ?_, (fun c h => by cases h), hβ, ?_, ?_, .inr ⟨w.heap.size, rfl, ?_, fun h => Nat.lt_irrefl _ (hBlt _ h), ?_, ?_, fun _ hs => absurd (hSlt _ hs) (Nat.lt_irrefl _), (fun h => by cases h)⟩⟩
  · intro x hx
    rcases List.mem_append.1 hx with h | h
    · exact hsh x h
    · rw [(List.mem_replicate.1 h).2, hse]; exact z1
  · intro u hu
    rcases List.mem_append.1 hu with h | h
    · exact h1 u h
    · exact z3 u h
  · rw [flat_append]
    exact (hvs.mono (fun _ h => h) (fun b hs => by rw [hb.block b (hSlt b hs), hw1]) (fun _ _ h => h)).append z2
  · simp only [List.length_replicate]; congr 1; omega
  · have := heap_alloc_new w1 (.cells (xs.toArray ++ Builtin.zeroCells zz.cells (cap - es.length)) e)
    rw [hw1] at this
    refine Lies.plain ?_
    rw [this, hx]
  · simp only [List.length_replicate]; omega

theorem roomB_spec {n b : Nat} (h : roomB n b = true) : n * b ≤ 140737488355328 ∧ n ≤ 4611686018427387904 := by
  simpa [roomB] using h

/-- The model's append onto a slice without room. -/
theorem run_append_cap0 (t ty e : TypeId) (i : TypeInfo) (z : Value) (ht : P.underlying t = some (.slice e)) (hi : P.info? e = some i) (hz : i.zero = some z) (A : Option Addr)
    (ad : Addr) (n c : Nat) (news : List Value) (hl : news.length = n * i.size) (hnews : ∀ (j : Nat) (v : Value), news[j]? = some v → w.cell? (ad.add j) = some v)
    (h0 : 0 < n) (h63 : (n : Int) ≤ 9223372036854775807) (h48 : n * i.bytes ≤ 140737488355328) :
    (Builtin.append_ #[t, t] ty #[.slice A 0 0, .slice (some ad) n c]).run P w =
      .ok (.slice (some ⟨w.heap.size, 0, none⟩) n (grownCap w n 0 e)) (w.drew.alloc (.cells (news.toArray ++ Builtin.zeroCells z.cells (grownCap w n 0 e - n)) e)) := by
  cases A with
  | none => exact run_append_nil w t ty e i z ht hi hz ad n c news hl hnews h0 h63 (by omega)
  | some b =>
    have := run_append_grow (P := P) w t ty e i z ht hi hz b 0 0 [] (by simp) (by simp) ad n c news hl hnews (by omega) (by simpa using h63) (by
      rw [Nat.zero_add, nextslicecap_zero h0]; omega)
    simpa using this

theorem below_drew_alloc (w : World) (x : Obj) : Below w.heap.size w (w.drew.alloc x) := ((Below.refl _ _).drew).alloc (Nat.le_refl _) x

/-- append onto a slice without room. -/
theorem op_append_new (hR : Rel w S B β og st a) (hO : Out w0 S0 B w S) {rowsV : List (Nat × Row)} (hsub : ∀ id x, lookup rowsV id = some x → lookup st.rows id = some x) (hf : Fresh site st.used) {args : Array Operand} {ts : Array TypeId} {t e : TypeId} {s : Sh} {z : AV} {es2 : List AV}
    (ho : o.op = .call { callee := .builtin .append, args := args, argTypes := ts }) (hts : ts.toList = [t, t]) (hx : valsT P st.tm ts.toList args.toList = [.slz s, z]) (ht : P.underlying t = some (.slice e)) (hz : elemsOf rowsV z = some (s, es2))
    (hse : s = shOf P depth e) (hel : elemOK P e = true) (hroom : roomB es2.length (P.bytesOf e) = true)
    (hy : y { v := .own site, new := some (.arr false s e es2 none) } = some r) (hK : Good w0 S0 B site o st y r K) : o.wp P a w K Q := by
  have hv := valsT_rel hR.tm P ts.toList args.toList
  rw [hx] at hv
  obtain ⟨u, us, he, hu, hs1⟩ := hv.inv
  obtain ⟨u2, us2, rfl, hu2, hn⟩ := hs1.inv
  rw [hn.inv_nil] at he
  have hm := map_eval args _ he
  have htt : ts = #[t, t] := by apply Array.ext'; simpa using hts
  obtain ⟨i, zz, hi, hzz, hiw, hpos, hzs, hby, zc, hza, hhz⟩ := elemOK_spec hel
  obtain ⟨A2, c2, ad, xs, rfl, hsh, hA2, hvs, h1, hcell, hlm⟩ := elems_sound hR hsub hz hu2
  obtain ⟨hb1, hb2⟩ := roomB_spec hroom
  have hlen : xs.length = es2.length * i.size := by rw [hvs.1, flat_length es2 hsh, hiw, hse]
  cases hu with
  | slz _ _ A =>
    rcases es2 with _ | ⟨e0, es2'⟩
    · have hrun : (Builtin.append_ #[t, t] o.type #[.slice A 0 0, .slice A2 0 c2]).run P w = .ok (.slice A 0 0) w := by
        cases A <;> cases A2 <;> simp [Builtin.append_, run_underlying ht, sizeOf, typeInfo, hi, Builtin.lenOf, Builtin.firstCells, loadCells, loadCellsFrom, storeCells]
      refine wp_value (u := .slice A 0 0) (w' := w) (by have hrun' := hrun; simp only [execOp, ho, resolve, invoke, builtin, hm, htt, Sem.run_bind, Sem.run_pure, Result.andThen_ok, List.length_nil, hrun']) (hK _ _ _ hy ⟨S, _, _, hR.new site hf o.dst (Below.refl _ _) (fun _ h => h) (fun _ _ h => h) hR.Slt
        (x := .slice A 0 0) (wd := s.width) (o := none) rfl (fun g hg => by cases hg) ⟨by rw [hse, ← hiw]; exact hpos, .slice A 0 0, [], [], by simp, (fun c h => by cases h), upd_same _ _ _, by simp, VRels.nil, .inl ⟨rfl, rfl, rfl, A, rfl⟩⟩ (.own _ site _ _ (upd_same _ _ _)), hO⟩)
    · have hrun := run_append_cap0 (P := P) (w := w) t o.type e i zz ht hi hzz A ad (e0 :: es2').length c2 xs hlen hcell (by simp) (by omega) (by rw [hby]; exact hb1)
      rw [hA2 (by simp)] at hm
      have hb := below_drew_alloc w (.cells (xs.toArray ++ Builtin.zeroCells zz.cells (grownCap w (e0 :: es2').length 0 e - (e0 :: es2').length)) e)
      refine wp_value (u := .slice (some ⟨w.heap.size, 0, none⟩) (e0 :: es2').length (grownCap w (e0 :: es2').length 0 e)) (by simp only [execOp, ho, resolve, invoke, builtin, hm, htt, Sem.run_bind, Sem.run_pure, Result.andThen_ok, hrun]) (hK _ _ _ hy ⟨S, _, _, hR.new site hf o.dst hb (fun _ h => h) (fun _ _ h => h)
        (fun b hs => by have := hR.Slt b hs; simp; omega) (x := .slice (some ⟨w.heap.size, 0, none⟩) (e0 :: es2').length (grownCap w (e0 :: es2').length 0 e)) (wd := s.width) (o := some w.heap.size) rfl (fun g hg => by cases hg; simp) ?_ (.own _ site _ _ (upd_same _ _ _)), hO.grow hR.Ble hb⟩)
      exact rowrel_new (w := w) hR.Slt hR.Ble hi hzz hzs hpos hiw hza hhz hse hsh hvs h1 (grownCap_ge _ _ _ _) (grownCap_le_maxLen _ _ _ _ hlm) (w1 := w.drew) rfl (upd_same _ _ _)

/-- A row is used up: its block, or a new one, is another row's from now on. -/
theorem Rel.moved (h : Rel w S B β og st a) {id : Nat} (hf : Fresh site st.used) (dst : Option Tmp) {w' : World} {r1 : Row} {v : AV} {u x : Value} {wd : Nat} {o' : Option Nat}
    (hg : w.grownBy w' (og id)) (hnS : ∀ g, og id = some g → ¬ S g) (hx : x.oneCell' = true) (ho : ∀ g, o' = some g → (og id = some g ∨ w.heap.size ≤ g) ∧ g < w'.heap.size)
    (hrow : RowRel w' S B (upd β site (some (x, wd))) site o' r1) (hv : VRel w' S (upd β site (some (x, wd))) v u) :
    Rel w' S B (upd β site (some (x, wd))) (upd (upd og id none) site o') ⟨putTm st.tm dst v, setRow (delRow st.rows id) site r1, site :: st.used⟩ (a.put dst u) := by
  have hβ : ∀ id y, β id = some y → upd β site (some (x, wd)) id = some y := fun id y hy => by
    have hne : id ≠ site := fun e => hf.1 (by rw [← e]; exact h.used id y hy)
    rw [upd_other _ _ _ _ hne]; exact hy
  have hw : ∀ b, S b → w'.heap[b]? = w.heap[b]? := fun b hs => hg.block b (h.Slt b hs) (fun e => hnS b e.symm hs)
  refine ⟨tm_put (h.tm.mono (fun _ h => h) hw hβ) dst hv, by rw [Act.put_defers]; exact h.df, fun i y hy => ?_, fun i i' g hgi hgi' => ?_, fun i g hgi => ?_, fun i y hy => ?_, fun i y hy => ?_, fun b hs => Nat.lt_of_lt_of_le (h.Slt b hs) hg.size, fun b hb => Nat.lt_of_lt_of_le (h.Ble b hb) hg.size, pid_upd h.pid hf.2⟩
  · rw [lookup_setRow] at hy
    by_cases e : i = site
    · subst e
      simp only [if_pos] at hy
      cases hy
      rw [upd_same]
      exact hrow
    · rw [if_neg e, lookup_delRow] at hy
      by_cases e' : i = id
      · rw [if_pos e'] at hy; cases hy
      · rw [if_neg e'] at hy
        rw [upd_other _ _ _ _ e, upd_other _ _ _ _ e']
        refine (h.row i y hy).keep hβ (fun _ h => h) (fun _ _ h => h) hw (fun g hgi => hg.block g (h.lt i g hgi) (fun e2 => e' (h.inj i id g hgi e2.symm)))
  · have aux : ∀ i, i ≠ site → upd (upd og id none) site o' i = some g → og i = some g ∧ i ≠ id := fun i hi hgi => by
      rw [upd_other _ _ _ _ hi] at hgi
      by_cases e' : i = id
      · rw [e', upd_same] at hgi; cases hgi
      · rw [upd_other _ _ _ _ e'] at hgi; exact ⟨hgi, e'⟩
    have fin : ∀ i, i ≠ site → upd (upd og id none) site o' i = some g → o' = some g → False := fun i hi hgi ho' => by
      obtain ⟨h1, h2⟩ := aux i hi hgi
      rcases (ho g ho').1 with h3 | h3
      · exact h2 (h.inj i id g h1 h3)
      · have := h.lt i g h1; omega
    by_cases e : i = site <;> by_cases e' : i' = site
    · rw [e, e']
    · subst e; rw [upd_same] at hgi; exact (fin i' e' hgi' hgi).elim
    · subst e'; rw [upd_same] at hgi'; exact (fin i e hgi hgi').elim
    · exact h.inj i i' g (aux i e hgi).1 (aux i' e' hgi').1
  · by_cases e : i = site
    · subst e; rw [upd_same] at hgi; exact (ho g hgi).2
    · rw [upd_other _ _ _ _ e] at hgi
      by_cases e' : i = id
      · rw [e', upd_same] at hgi; cases hgi
      · rw [upd_other _ _ _ _ e'] at hgi; exact Nat.lt_of_lt_of_le (h.lt i g hgi) hg.size
  · by_cases e : i = site
    · subst e; simp
    · rw [upd_other _ _ _ _ e] at hy; exact List.mem_cons_of_mem _ (h.used i y hy)
  · by_cases e : i = site
    · subst e; rw [upd_same] at hy; cases hy; exact hx
    · rw [upd_other _ _ _ _ e] at hy; exact h.one i y hy

end ops
end Go.Ev
