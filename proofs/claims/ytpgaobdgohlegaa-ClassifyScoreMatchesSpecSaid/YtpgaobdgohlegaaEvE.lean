/-
  The steps of a state: a slot written, a row made or changed; operands.
-/
import Derived.Test.YtpgaobdgohlegaaEvD
namespace Go.Ev
open Go.RowKit

theorem VRels.set {w : World} {S : Nat → Prop} {β : Bet} {cs : List AV} {vs : List Value} (h : VRels w S β cs vs) (d : Nat) {v : AV} {u : Value} (hv : VRel w S β v u) : VRels w S β (cs.set d v) (vs.set d u) := by
  refine ⟨by simp [h.1], fun j c x hc hx => ?_⟩
  rw [List.getElem?_set] at hc hx
  by_cases hd : d = j
  · subst hd
    simp only [if_pos] at hc hx
    split at hc
    · rename_i hlt
      rw [if_pos (by rw [h.1]; exact hlt)] at hx
      cases hc; cases hx; exact hv
    · cases hc
  · rw [if_neg hd] at hc hx
    exact h.2 j c x hc hx

/-- A state, as it stands since the call began in world w0 with what lies in S0 to be looked at. -/
structure Out (w0 : World) (S0 : Nat → Prop) (B : Ctx) (w : World) (S : Nat → Prop) : Prop where
  bel : Kept B w0 w
  sin : ∀ b, S b → S0 b ∨ ¬ B b
  sub : ∀ b, S0 b → S b

def RelX (w0 : World) (S0 : Nat → Prop) (B : Ctx) (st : St) (a : Act) (w : World) : Prop :=
  ∃ S β og, Rel w S B β og st a ∧ Out w0 S0 B w S

theorem Act.put_tmps (a : Act) (dst : Option Tmp) (u : Value) : (a.put dst u).tmps.toList = (match dst with | some d => a.tmps.toList.set d u | none => a.tmps.toList) := by
  cases dst <;> simp [Act.put]
theorem Act.put_defers (a : Act) (dst : Option Tmp) (u : Value) : (a.put dst u).defers = a.defers := by
  cases dst <;> rfl

theorem tm_put {w : World} {S : Nat → Prop} {β : Bet} {tm : List AV} {a : Act} (h : VRels w S β tm a.tmps.toList) (dst : Option Tmp) {v : AV} {u : Value} (hv : VRel w S β v u) :
    VRels w S β (putTm tm dst v) (a.put dst u).tmps.toList := by
  rw [Act.put_tmps]
  cases dst with
  | none => exact h
  | some d => exact h.set d hv

theorem Rel.put {w : World} {S : Nat → Prop} {B : Ctx} {β : Bet} {og : Nat → Option Nat} {st : St} {a : Act} (h : Rel w S B β og st a) (dst : Option Tmp) {v : AV} {u : Value} (hv : VRel w S β v u) :
    Rel w S B β og ⟨putTm st.tm dst v, st.rows, st.used⟩ (a.put dst u) :=
  ⟨tm_put h.tm dst hv, by rw [Act.put_defers]; exact h.df, h.row, h.inj, h.lt, h.used, h.one, h.Slt, h.Ble, h.pid⟩

theorem RowRel.keep {w w' : World} {S S' : Nat → Prop} {B : Nat → Prop} {β β' : Bet} {id : Nat} {og : Option Nat} {r : Row} (h : RowRel w S B β id og r)
    (hβ : ∀ id x, β id = some x → β' id = some x) (hS : ∀ b, S b → S' b) (hS2 : ∀ g, og = some g → S' g → S g) (hw : ∀ b, S b → w'.heap[b]? = w.heap[b]?)
    (hog : ∀ g, og = some g → w'.heap[g]? = w.heap[g]?) : RowRel w' S' B β' id og r := by
  cases r with
  | box imm cs =>
    obtain ⟨g, vs, t, ho, hb, hh, h1, hv, hi, hj, hB⟩ := h
    exact ⟨g, vs, t, ho, hβ _ _ hb, (hog g ho).trans hh, h1, hv.mono hS hw hβ, fun e hs => hi e (hS2 g ho hs), fun e => hS _ (hj e), hB⟩
  | arr imm s e es csp =>
    obtain ⟨hp, v, sp, xs, hsh, hcs, hb, h1, hv, hor⟩ := h
    refine ⟨hp, v, sp, xs, hsh, hcs, hβ _ _ hb, h1, hv.mono hS hw (fun _ _ h => h), ?_⟩
    rcases hor with ⟨he, hs, ho, A, hA⟩ | ⟨g, ho, hvv, hB, hh, hm, hi, hj⟩
    · exact .inl ⟨he, hs, ho, A, hA⟩
    · exact .inr ⟨g, ho, hvv, hB, (hog g ho).trans hh, hm, fun e hs => hi e (hS2 g ho hs), fun e => hS _ (hj e)⟩

/-- The world has grown; nothing that the state speaks of has changed. -/
theorem Rel.grow {w w' : World} {S S' : Nat → Prop} {B : Ctx} {β : Bet} {og : Nat → Option Nat} {st : St} {a : Act} (h : Rel w S B β og st a) (hb : Below w.heap.size w w')
    (hS : ∀ b, S b → S' b) (hS2 : ∀ b, b < w.heap.size → S' b → S b) (hlt : ∀ b, S' b → b < w'.heap.size) : Rel w' S' B β og st a := by
  have hw : ∀ b, S b → w'.heap[b]? = w.heap[b]? := fun b hs => hb.block b (h.Slt b hs)
  exact ⟨h.tm.mono hS hw (fun _ _ h => h), h.df, fun id r hr => (h.row id r hr).keep (fun _ _ h => h) hS (fun g hg => hS2 g (h.lt id g hg)) hw (fun g hg => hb.block g (h.lt id g hg)),
    h.inj, fun id g hg => Nat.lt_of_lt_of_le (h.lt id g hg) hb.size, h.used, h.one, hlt, fun b hb' => Nat.lt_of_lt_of_le (h.Ble b hb') hb.size, h.pid⟩

def upd {α : Type} (f : Nat → Option α) (id : Nat) (x : Option α) : Nat → Option α := fun i => if i = id then x else f i
theorem upd_same {α : Type} (f : Nat → Option α) (id : Nat) (x : Option α) : upd f id x id = x := by simp [upd]
theorem upd_other {α : Type} (f : Nat → Option α) (id i : Nat) (x : Option α) (h : i ≠ id) : upd f id x i = f i := by simp [upd, h]

def Fresh (site : Nat) (used : List Nat) : Prop := site ∉ used ∧ site < PID
theorem fresh_of {site : Nat} {e : Eff} {used : List Nat} {r : Row} (hn : e.new = some r) (h : freshB site e used = true) : Fresh site used := by
  simp only [freshB, hn, Bool.and_eq_true, Bool.not_eq_true'] at h
  obtain ⟨⟨h1, h2⟩, _⟩ := h
  exact ⟨by simpa using h1, Nat.blt_eq ▸ h2⟩
theorem pid_upd {B : Ctx} {β : Bet} {site : Nat} {y : Option (Value × Nat)} (h : ∀ id x, PID ≤ id → β id = some x → B.bet id = some x) (hs : site < PID) : ∀ id x, PID ≤ id → upd β site y id = some x → B.bet id = some x := by
  intro id x hp hx
  rw [upd_other _ _ _ _ (by omega)] at hx
  exact h id x hp hx
/-- A new row in a new block. -/
theorem Rel.new {w : World} {S : Nat → Prop} {B : Ctx} {β : Bet} {og : Nat → Option Nat} {st : St} {a : Act} (h : Rel w S B β og st a) (site : Nat) (hf : Fresh site st.used) (dst : Option Tmp)
    {w' : World} {S' : Nat → Prop} {r : Row} {v : AV} {u x : Value} {wd : Nat} {o : Option Nat} (hb : Below w.heap.size w w') (hS : ∀ b, S b → S' b) (hS2 : ∀ b, b < w.heap.size → S' b → S b) (hlt : ∀ b, S' b → b < w'.heap.size)
    (hx : x.oneCell' = true) (ho : ∀ g, o = some g → w.heap.size ≤ g ∧ g < w'.heap.size)
    (hrow : RowRel w' S' B (upd β site (some (x, wd))) site o r) (hv : VRel w' S' (upd β site (some (x, wd))) v u) :
    Rel w' S' B (upd β site (some (x, wd))) (upd og site o) ⟨putTm st.tm dst v, setRow st.rows site r, site :: st.used⟩ (a.put dst u) := by
  have hβ : ∀ id y, β id = some y → upd β site (some (x, wd)) id = some y := fun id y hy => by
    have hne : id ≠ site := fun e => hf.1 (by rw [← e]; exact h.used id y hy)
    rw [upd_other _ _ _ _ hne]; exact hy
  have hw : ∀ b, S b → w'.heap[b]? = w.heap[b]? := fun b hs => hb.block b (h.Slt b hs)
  refine ⟨tm_put (h.tm.mono hS hw hβ) dst hv, by rw [Act.put_defers]; exact h.df, fun id y hy => ?_, fun id id' g hg hg' => ?_, fun id g hg => ?_, fun id y hy => ?_, fun id y hy => ?_, hlt, fun b hb' => Nat.lt_of_lt_of_le (h.Ble b hb') hb.size, pid_upd h.pid hf.2⟩
  · rw [lookup_setRow] at hy
    by_cases e : id = site
    · subst e
      simp only [if_pos] at hy
      cases hy
      rw [upd_same]
      exact hrow
    · rw [if_neg e] at hy
      rw [upd_other _ _ _ _ e]
      exact (h.row id y hy).keep hβ hS (fun g hg => hS2 g (h.lt id g hg)) hw (fun g hg => hb.block g (h.lt id g hg))
  · by_cases e : id = site <;> by_cases e' : id' = site
    · rw [e, e']
    · subst e
      rw [upd_same] at hg
      rw [upd_other _ _ _ _ e'] at hg'
      have := (ho g hg).1
      have := h.lt id' g hg'
      omega
    · subst e'
      rw [upd_same] at hg'
      rw [upd_other _ _ _ _ e] at hg
      have := (ho g hg').1
      have := h.lt id g hg
      omega
    · rw [upd_other _ _ _ _ e] at hg
      rw [upd_other _ _ _ _ e'] at hg'
      exact h.inj id id' g hg hg'
  · by_cases e : id = site
    · subst e; rw [upd_same] at hg; exact (ho g hg).2
    · rw [upd_other _ _ _ _ e] at hg; exact Nat.lt_of_lt_of_le (h.lt id g hg) hb.size
  · by_cases e : id = site
    · subst e; simp
    · rw [upd_other _ _ _ _ e] at hy; exact List.mem_cons_of_mem _ (h.used id y hy)
  · by_cases e : id = site
    · subst e; rw [upd_same] at hy; cases hy; exact hx
    · rw [upd_other _ _ _ _ e] at hy; exact h.one id y hy

/-! ### Operands -/
theorem ofCell_rel {w : World} {S : Nat → Prop} {β : Bet} (s : Sh) (v : Value) : VRel w S β (ofCell s v) v := by
  unfold ofCell
  split
  · exact .int _ _ _
  · exact .bool _ _
  · rename_i x; exact .str _ x.data.toList
  · split
    · exact .slz _ _ _
    · exact .unk _ _
  · exact .unk _ _
theorem ofCells_rel {w : World} {S : Nat → Prop} {β : Bet} : ∀ (l : List Sh) (vs : List Value), VRels w S β (ofCells l vs) vs
  | _, [] => VRels.nil
  | l, v :: vs => VRels.cons (ofCell_rel _ v) (ofCells_rel l.tail vs)
theorem ofVal_rel {w : World} {S : Nat → Prop} {β : Bet} (s : Sh) (v : Value) : VRel w S β (ofVal s v) v := by
  unfold ofVal
  split
  · rename_i cs
    split
    · rename_i h
      obtain ⟨l⟩ := cs
      have := ofCells_rel (w := w) (S := S) (β := β) s.cells l
      exact .agg _ _ _ this.1 (by simpa using h) this.2
    · exact .unk _ _
  · rename_i vs
    split
    · rename_i h
      have : vs = #[] := Array.eq_empty_of_size_eq_zero h
      subst this
      exact .undef _
    · exact .unk _ _
  · exact ofCell_rel s _
theorem ofLit_rel {w : World} {S : Nat → Prop} {β : Bet} (v : Value) : VRel w S β (ofLit v) v := by
  unfold ofLit
  split
  · exact .int _ _ _
  · exact .bool _ _
  · rename_i x; exact .str _ x.data.toList
  · exact .unk _ _

theorem getD_rel {w : World} {S : Nat → Prop} {β : Bet} {tm : List AV} {tmps : Array Value} (h : VRels w S β tm tmps.toList) (n : Nat) : VRel w S β (tm.getD n .unk) (tmps.getD n undef) := by
  cases hc : tm[n]? with
  | none => simp only [List.getD, hc, Option.getD_none]; exact .unk _ _
  | some c =>
    obtain ⟨u, hu, hv⟩ := h.at_ hc
    have : tmps.getD n undef = u := by
      rw [Array.getD_eq_getD_getElem?]
      have : tmps[n]? = some u := by simpa using hu
      rw [this]; rfl
    rw [this]
    simp only [List.getD, hc, Option.getD_some]
    exact hv

theorem val_rel {w : World} {S : Nat → Prop} {β : Bet} {tm : List AV} {a : Act} (h : VRels w S β tm a.tmps.toList) (x : Operand) : VRel w S β (val tm x) (a.eval x) := by
  cases x with
  | tmp t => exact getD_rel h t
  | const v => exact ofLit_rel v
  | global g => exact .unk _ _
  | func f => exact .fn _ f [] [] rfl (fun j c u hc => by simp at hc)
theorem valT_rel {w : World} {S : Nat → Prop} {β : Bet} {tm : List AV} {a : Act} (h : VRels w S β tm a.tmps.toList) (P : Program) (t : TypeId) (x : Operand) : VRel w S β (valT P tm t x) (a.eval x) := by
  cases x with
  | tmp t => exact getD_rel h t
  | const v => exact ofVal_rel _ v
  | global g => exact .unk _ _
  | func f => exact .fn _ f [] [] rfl (fun j c u hc => by simp at hc)
theorem valsT_rel {w : World} {S : Nat → Prop} {β : Bet} {tm : List AV} {a : Act} (h : VRels w S β tm a.tmps.toList) (P : Program) : ∀ (ts : List TypeId) (xs : List Operand), VRels w S β (valsT P tm ts xs) (xs.map a.eval)
  | _, [] => by unfold valsT; split <;> first | contradiction | exact VRels.nil
  | [], x :: xs => VRels.cons (val_rel h x) (valsT_rel h P [] xs)
  | t :: ts, x :: xs => VRels.cons (valT_rel h P t x) (valsT_rel h P ts xs)

theorem wp_value {P : Program} {o : Oper} {a : Act} {w w' : World} {K : Act → World → Prop} {Q : Exit → Act → World → Prop} {u : Value} (hr : (execOp a.eval o).run P w = .ok (.value u) w') (h : K (a.put o.dst u) w') : o.wp P a w K Q := by
  unfold Oper.wp; rw [hr]; exact h
theorem wp_skip' {P : Program} {o : Oper} {a : Act} {w w' : World} {K : Act → World → Prop} {Q : Exit → Act → World → Prop} (hr : (execOp a.eval o).run P w = .ok .skip w') (h : K (a.put o.dst undef) w') : o.wp P a w K Q := by
  unfold Oper.wp; rw [hr]; exact h

end Go.Ev
