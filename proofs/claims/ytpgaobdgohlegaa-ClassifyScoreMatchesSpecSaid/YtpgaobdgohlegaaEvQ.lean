/-
  A region in whatever order its edges allow. First part: what an operation's outcome hangs on.
-/
import Derived.Test.YtpgaobdgohlegaaEvP
namespace Go.Ev
open Go.RowKit

/-! ### The evaluator's answer goes through its continuation -/
section cps
variable {ρ : Type} {P : Program} {Γ : Env} {site : Nat}

theorem cond_bind {α : Type} (b : Bool) (x : Option α) (y : α → Option ρ) : (bif b then x.bind y else none) = (bif b then x else none).bind y := by cases b <;> rfl
theorem cond_bind' {α : Type} (b : Bool) (x : Option α) (y : α → Option ρ) : (bif b then none else x.bind y) = (bif b then none else x).bind y := by cases b <;> rfl
theorem ite_bind {α : Type} (c : Prop) [Decidable c] (x : Option α) (y : α → Option ρ) : (if c then x.bind y else none) = (if c then x else none).bind y := by split <;> rfl

theorem evLoad_bind (t : TypeId) (cs : List AV) (y : AV → Option ρ) : evLoad P t cs y = (evLoad P t cs some).bind y := by
  unfold evLoad
  repeat' split
  all_goals rfl
theorem binInt_bind (op : BinOp) (k : IntKind) (m n : Int) (y : AV → Option ρ) : binInt op k m n y = (binInt op k m n some).bind y := by
  unfold binInt
  split <;> first | rfl | (generalize decide (n = 0) = b; cases b <;> rfl)
theorem binShift_bind (op : BinOp) (k : IntKind) (m n : Int) (y : AV → Option ρ) : binShift op k m n y = (binShift op k m n some).bind y := by
  unfold binShift
  split <;> first | rfl | (generalize decide (n < 0) = b; cases b <;> rfl)
theorem binStr_bind (op : BinOp) (m n : List UInt8) (y : AV → Option ρ) : binStr op m n y = (binStr op m n some).bind y := by
  unfold binStr
  split <;> first | rfl | (generalize lenB (m.length + n.length) = b; cases b <;> rfl)
theorem evBin_bind (op : BinOp) (t : TypeId) (x z : AV) (y : AV → Option ρ) : evBin P op t x z y = (evBin P op t x z some).bind y := by
  unfold evBin
  repeat' split
  all_goals first | rfl | exact binInt_bind _ _ _ _ _ | exact binShift_bind _ _ _ _ _ | exact binStr_bind _ _ _ _
theorem evNil_bind (op : BinOp) (t : TypeId) (x : AV) (y : AV → Option ρ) : evNil P op t x y = (evNil P op t x some).bind y := by
  unfold evNil
  repeat' split
  all_goals first | rfl | (generalize List.isEmpty _ = b; cases b <;> rfl)
theorem evLen_bind (rows : List (Nat × Row)) (t : TypeId) (x : AV) (y : Eff → Option ρ) : evLen P rows t x y = (evLen P rows t x some).bind y := by
  unfold evLen
  repeat' split
  all_goals rfl
theorem evBuiltin_bind (b : Builtin) (ts : List TypeId) (args : List AV) (rows : List (Nat × Row)) (y : Eff → Option ρ) : evBuiltin P site b ts args rows y = (evBuiltin P site b ts args rows some).bind y := by
  rw [evBuiltin_eq, evBuiltin_eq]
  unfold evBuiltin0
  repeat' split
  all_goals first | rfl | exact evLen_bind _ _ _ _ | (rw [← cond_bind]; rfl)
/-- What follows a call may follow it later. -/
def NatOK (Γ : Env) : Prop := (∀ g F, find Γ g = some F → SNat F) ∧ ∀ g F, findX Γ g = some F → XNat F
theorem evX_bind {F : SummX} (hF : XNat F) (avs : List AV) (rows : List (Nat × Row)) (y : Eff → Option ρ) : evX site F avs rows y = (evX site F avs rows some).bind y := by
  unfold evX
  split
  · rfl
  · split
    · rfl
    · split
      · rw [hF ρ, hF Eff]
        generalize F _ _ _ _ = x
        cases x with
        | none => rfl
        | some x =>
          simp only [Option.bind_some]
          split <;> rfl
      · rfl
theorem evOp_bind (hN : NatOK Γ) (o : Oper) (tm : List AV) (rows : List (Nat × Row)) (y : Eff → Option ρ) : evOp P Γ site o tm rows y = (evOp P Γ site o tm rows some).bind y := by
  have hl : ∀ (t : TypeId) (cs : List AV), evLoad P t cs (fun v => y { v }) = (evLoad P t cs fun v => some { v }).bind y := fun t cs => by
    rw [evLoad_bind (P := P) t cs (fun v => y { v }), evLoad_bind (P := P) t cs (fun v => some ({ v := v } : Eff))]
    cases evLoad P t cs some <;> rfl
  have hb : ∀ (op : BinOp) (t : TypeId) (x z : AV), evBin P op t x z (fun v => y { v }) = (evBin P op t x z fun v => some { v }).bind y := fun op t x z => by
    rw [evBin_bind (P := P) op t x z (fun v => y { v }), evBin_bind (P := P) op t x z (fun v => some ({ v := v } : Eff))]
    cases evBin P op t x z some <;> rfl
  have hn : ∀ (op : BinOp) (t : TypeId) (x : AV), evNil P op t x (fun v => y { v }) = (evNil P op t x fun v => some { v }).bind y := fun op t x => by
    rw [evNil_bind (P := P) op t x (fun v => y { v }), evNil_bind (P := P) op t x (fun v => some ({ v := v } : Eff))]
    cases evNil P op t x some <;> rfl
  unfold evOp
  split
  all_goals repeat' split
  all_goals first
    | rfl
    | exact hl _ _
    | exact hb _ _ _ _
    | exact hn _ _ _
    | exact evBuiltin_bind _ _ _ _ _
    | (rename_i t _; cases t <;> rfl)
    | (rw [← cond_bind]; rw [hl])
    | (rw [← cond_bind]; rfl)
    | (generalize slb _ _ _ = b; cases b <;> simp only [cond_true, cond_false] <;> first | rfl | (rw [← cond_bind]; rfl))
    | (rename_i F hF _; exact evX_bind (hN.2 _ F (xOf_find hF)) _ _ _)
    | (rename_i F hF _; rw [hN.1 _ F hF ρ, hN.1 _ F hF Eff]; generalize F AV _ some = x; cases x <;> rfl)
end cps

/-! ### What an operation looks at -/
section congr
variable {ρ : Type} {P : Program} {Γ : Env} {site : Nat}

theorem val_congr {tm tm' : List AV} {x : Operand} (h : ∀ t, x = .tmp t → tm.getD t .unk = tm'.getD t .unk) : val tm x = val tm' x := by
  cases x with
  | tmp t => exact h t rfl
  | _ => rfl
theorem valT_congr {tm tm' : List AV} {x : Operand} (h : ∀ t, x = .tmp t → tm.getD t .unk = tm'.getD t .unk) (t : TypeId) : valT P tm t x = valT P tm' t x := by
  cases x with
  | tmp t => exact h t rfl
  | _ => rfl
theorem valsT_congr {tm tm' : List AV} : ∀ (ts : List TypeId) (xs : List Operand), (∀ x ∈ xs, ∀ t, x = .tmp t → tm.getD t .unk = tm'.getD t .unk) → valsT P tm ts xs = valsT P tm' ts xs
  | _, [], _ => by unfold valsT; split <;> first | contradiction | rfl
  | [], x :: xs, h => by
    simp only [valsT]
    rw [val_congr (h x (by simp)), valsT_congr [] xs (fun y hy => h y (by simp [hy]))]
  | t :: ts, x :: xs, h => by
    simp only [valsT]
    rw [valT_congr (h x (by simp)), valsT_congr ts xs (fun y hy => h y (by simp [hy]))]

theorem map_val_congr {tm tm' : List AV} (x : Option Operand) (h : ∀ z, x = some z → ∀ t, z = .tmp t → tm.getD t .unk = tm'.getD t .unk) : x.map (val tm) = x.map (val tm') := by
  cases x with
  | none => rfl
  | some z => simp only [Option.map_some]; rw [val_congr (h z rfl)]

/-- Only the operands' slots matter. -/
theorem evOp_tm {tm tm' : List AV} (o : Oper) (rows : List (Nat × Row)) (y : Eff → Option ρ) (h : ∀ x ∈ o.op.operands.toList, ∀ t, x = Operand.tmp t → tm.getD t .unk = tm'.getD t .unk) : evOp P Γ site o tm rows y = evOp P Γ site o tm' rows y := by
  obtain ⟨dst, op, type, pos, after, guard⟩ := o
  simp only at h
  cases op with
  | move x => simp only [evOp]; rw [valT_congr (h x (by simp [Op.operands]))]
  | assign x => simp only [evOp]; rw [valT_congr (h x (by simp [Op.operands]))]
  | pick c x z => simp only [evOp]; rw [val_congr (h c (by simp [Op.operands])), valT_congr (h x (by simp [Op.operands])), valT_congr (h z (by simp [Op.operands]))]
  | alloc t => rfl
  | box t x => simp only [evOp]; rw [valT_congr (h x (by simp [Op.operands]))]
  | build t parts =>
    simp only [evOp]
    have : (parts.toList.map fun p => (p.1, valT P tm (partTypes P t p.1) p.2)) = parts.toList.map fun p => (p.1, valT P tm' (partTypes P t p.1) p.2) := by
      apply List.map_congr_left
      intro p hp
      rw [valT_congr (h p.2 (by simp only [Op.operands, List.mem_map]; exact ⟨p, hp, rfl⟩))]
    rw [this]
  | buildSlice t len parts =>
    simp only [evOp]
    have : ∀ e, (parts.toList.map fun p => valT P tm e p.2) = parts.toList.map fun p => valT P tm' e p.2 := by
      intro e
      apply List.map_congr_left
      intro p hp
      rw [valT_congr (h p.2 (by simp only [Op.operands, List.mem_map]; exact ⟨p, hp, rfl⟩))]
    simp only [this]
  | makeSlice t l c => simp only [evOp]; rw [val_congr (h l (by simp [Op.operands])), val_congr (h c (by simp [Op.operands]))]
  | load t x => simp only [evOp]; rw [val_congr (h x (by simp [Op.operands]))]
  | store t x z => simp only [evOp]; rw [val_congr (h x (by simp [Op.operands])), valT_congr (h z (by simp [Op.operands]))]
  | nilCheck x => simp only [evOp]; rw [val_congr (h x (by simp [Op.operands]))]
  | binOp op t x z t' => simp only [evOp]; rw [valT_congr (h x (by simp [Op.operands])), valT_congr (h z (by simp [Op.operands]))]
  | unOp op t x => simp only [evOp]; rw [valT_congr (h x (by simp [Op.operands]))]
  | convert s d x => simp only [evOp]; rw [valT_congr (h x (by simp [Op.operands]))]
  | makeFunc fn first captured =>
    cases fn <;> simp only [evOp]
    have : captured.toList.map (val tm) = captured.toList.map (val tm') := by
      apply List.map_congr_left
      intro x hx
      rw [val_congr (h x (by simp only [Op.operands, Array.toList_append, List.mem_append]; exact .inr hx))]
    rw [this]
  | slice t x lo hi mx =>
    simp only [evOp]
    have h0 : val tm x = val tm' x := val_congr (h x (by simp [Op.operands]))
    have h1 := map_val_congr (tm := tm) (tm' := tm') lo (fun z hz => h z (by subst hz; simp [Op.operands]))
    have h2 := map_val_congr (tm := tm) (tm' := tm') hi (fun z hz => h z (by subst hz; simp [Op.operands]))
    rw [h0, h1, h2]
    cases mx with
    | none => rfl
    | some m =>
      have h3 : val tm m = val tm' m := val_congr (h m (by simp [Op.operands]))
      simp only [h3]
  | fieldAddr t x f => simp only [evOp]; rw [val_congr (h x (by simp [Op.operands]))]
  | field t x f => simp only [evOp]; rw [valT_congr (h x (by simp [Op.operands]))]
  | indexAddr t x i => simp only [evOp]; rw [val_congr (h x (by simp [Op.operands])), val_congr (h i (by simp [Op.operands]))]
  | index t x i => simp only [evOp]; rw [valT_congr (h x (by simp [Op.operands])), val_congr (h i (by simp [Op.operands]))]
  | extract x i => simp only [evOp]; rw [val_congr (h x (by simp [Op.operands]))]
  | call c =>
    obtain ⟨callee, args, ts⟩ := c
    cases callee with
    | builtin b =>
      simp only [evOp]
      rw [valsT_congr ts.toList args.toList (fun x hx => h x (by simp only [Op.operands, Call.operands, Array.toList_append, List.mem_append]; exact .inr hx))]
    | value f =>
      simp only [evOp]
      rw [valsT_congr ts.toList args.toList (fun x hx => h x (by simp only [Op.operands, Call.operands, Array.toList_append, List.mem_append]; exact .inr hx)), val_congr (h f (by simp [Op.operands, Call.operands]))]
    | invoke r m => rfl
  | _ => rfl

/-! Rows, up to whether they may still be written. -/
def Row.core : Row → Row := Row.freeze
def coreEq (rows rows' : List (Nat × Row)) : Prop := ∀ id, (lookup rows id).map Row.core = (lookup rows' id).map Row.core

theorem coreEq.box {rows rows' : List (Nat × Row)} (h : coreEq rows rows') (id : Nat) : (∃ cs im im', lookup rows id = some (.box im cs) ∧ lookup rows' id = some (.box im' cs)) ∨ (∃ s e es sp im im', lookup rows id = some (.arr im s e es sp) ∧ lookup rows' id = some (.arr im' s e es sp)) ∨ (lookup rows id = none ∧ lookup rows' id = none) := by
  have := h id
  cases h1 : lookup rows id with
  | none => cases h2 : lookup rows' id with
    | none => exact .inr (.inr ⟨rfl, rfl⟩)
    | some r => simp [h1, h2] at this
  | some r => cases h2 : lookup rows' id with
    | none => simp [h1, h2] at this
    | some r' =>
      simp only [h1, h2, Option.map_some, Option.some.injEq] at this
      cases r <;> cases r' <;> simp [Row.core, Row.freeze] at this
      · subst this; exact .inl ⟨_, _, _, rfl, rfl⟩
      · obtain ⟨rfl, rfl, rfl, rfl⟩ := this; exact .inr (.inl ⟨_, _, _, _, _, _, rfl, rfl⟩)

theorem purL_congr {f g : AV → Option (AV × List Nat)} (h : ∀ v, f v = g v) : ∀ cs, purL f cs = purL g cs := fun cs => by rw [show f = g from funext h]

theorem pur1_core {rows rows' : List (Nat × Row)} (h : coreEq rows rows') : ∀ (n : Nat) (v : AV), pur1 rows n v = pur1 rows' n v := by
  intro n
  induction n with
  | zero => intro v; rfl
  | succ n ih =>
    intro v
    have hL := purL_congr ih
    cases v <;> simp only [pur1]
    case ptr id off => rcases h.box id with ⟨cs, im, im', h1, h2⟩ | ⟨s, e, es, sp, im, im', h1, h2⟩ | ⟨h1, h2⟩ <;> simp only [h1, h2, hL]
    case eptr id i off => rcases h.box id with ⟨cs, im, im', h1, h2⟩ | ⟨s, e, es, sp, im, im', h1, h2⟩ | ⟨h1, h2⟩ <;> simp only [h1, h2]
    case own id => rcases h.box id with ⟨cs, im, im', h1, h2⟩ | ⟨s, e, es, sp, im, im', h1, h2⟩ | ⟨h1, h2⟩ <;> simp only [h1, h2]
    case sub id lo n => rcases h.box id with ⟨cs, im, im', h1, h2⟩ | ⟨s, e, es, sp, im, im', h1, h2⟩ | ⟨h1, h2⟩ <;> simp only [h1, h2]
    case agg cs => rw [hL]
    case tup cs => rw [hL]
    case fn f cs => rw [hL]

theorem elemsOf_core {rows rows' : List (Nat × Row)} (h : coreEq rows rows') (v : AV) : elemsOf rows v = elemsOf rows' v := by
  cases v <;> simp only [elemsOf]
  case own id => rcases h.box id with ⟨cs, im, im', h1, h2⟩ | ⟨s, e, es, sp, im, im', h1, h2⟩ | ⟨h1, h2⟩ <;> simp only [h1, h2]
  case sub id lo n => rcases h.box id with ⟨cs, im, im', h1, h2⟩ | ⟨s, e, es, sp, im, im', h1, h2⟩ | ⟨h1, h2⟩ <;> simp only [h1, h2]

theorem subOf_core {rows rows' : List (Nat × Row)} (h : coreEq rows rows') (x : AV) (mx : Option Operand) : (subOf x mx rows).map (fun p => (p.1, p.2.core)) = (subOf x mx rows').map (fun p => (p.1, p.2.core)) := by
  unfold subOf
  split
  · rename_i id
    have := h id
    cases h1 : lookup rows id <;> cases h2 : lookup rows' id <;> simp_all
  · rfl
theorem xOf_none {f : Operand} {g : Nat} {caps : List AV} {tm : List AV} {args : Array Operand} {ts : Array TypeId} (hc : changes Γ (.call { callee := .value f, args := args, argTypes := ts }) = false) (hf : val tm f = .fn g caps) : xOf Γ f g = none := by
  cases f with
  | func g0 =>
    simp only [val, AV.fn.injEq] at hf
    obtain ⟨rfl, _⟩ := hf
    simp only [changes, Option.isSome_eq_false_iff, Option.isNone_iff_eq_none] at hc
    exact hc
  | tmp t => simp only [changes] at hc; simp [xOf, hc]
  | const v => simp only [changes] at hc; simp [xOf, hc]
  | global v => simp only [changes] at hc; simp [xOf, hc]

/-- Whether a row may still be written matters to stores and appends alone. -/
theorem evOp_core {rows rows' : List (Nat × Row)} (h : coreEq rows rows') (o : Oper) (hc : changes Γ o.op = false) (tm : List AV) (y : Eff → Option ρ) : evOp P Γ site o tm rows y = evOp P Γ site o tm rows' y := by
  obtain ⟨dst, op, type, pos, after, guard⟩ := o
  simp only at hc
  have hp := pur1_core h depth
  have hpL := purL_congr hp
  cases op with
  | buildSlice t len parts => simp only [evOp, hpL]
  | load t x =>
    simp only [evOp]
    cases val tm x <;> simp only []
    case ptr id off => rcases h.box id with ⟨cs, im, im', h1, h2⟩ | ⟨s, e, es, sp, im, im', h1, h2⟩ | ⟨h1, h2⟩ <;> simp only [h1, h2]
    case eptr id i off => rcases h.box id with ⟨cs, im, im', h1, h2⟩ | ⟨s, e, es, sp, im, im', h1, h2⟩ | ⟨h1, h2⟩ <;> simp only [h1, h2]
  | store t x z => simp [changes] at hc
  | slice t x lo hi mx =>
    have hext : (Γ.ext.contains site && lo.isNone) = false := by
      simp only [changes] at hc
      cases lo with
      | some _ => simp
      | none =>
        cases he : Γ.ext with
        | nil => simp
        | cons a l => rw [he] at hc; simp at hc
    have hs := subOf_core h (val tm x) mx
    simp only [evOp, hp, hext]
    split
    · split
      · rfl
      · cases h1 : subOf (val tm x) mx rows with
        | none =>
          cases h2 : subOf (val tm x) mx rows' with
          | none => rfl
          | some q => rw [h1, h2] at hs; simp at hs
        | some p =>
          cases h2 : subOf (val tm x) mx rows' with
          | none => rw [h1, h2] at hs; simp at hs
          | some q =>
            rw [h1, h2] at hs
            obtain ⟨id, r⟩ := p
            obtain ⟨id', r'⟩ := q
            simp only [Option.map_some, Option.some.injEq, Prod.mk.injEq] at hs
            obtain ⟨rfl, hs⟩ := hs
            cases r <;> cases r' <;> simp [Row.core, Row.freeze] at hs
            · rfl
            · obtain ⟨rfl, rfl, rfl, rfl⟩ := hs
              rename_i im s e es sp im'
              rfl
      · rfl
    · rfl
  | indexAddr t x i =>
    simp only [evOp]
    cases val tm i <;> simp only []
    cases P.underlying t with
    | none => rfl
    | some d =>
      cases d <;> try rfl
      cases val tm x <;> try rfl
      case own id => rcases h.box id with ⟨cs, im, im', h1, h2⟩ | ⟨s, e, es, sp, im, im', h1, h2⟩ | ⟨h1, h2⟩ <;> simp only [h1, h2]
      case sub id lo len => rcases h.box id with ⟨cs, im, im', h1, h2⟩ | ⟨s, e, es, sp, im, im', h1, h2⟩ | ⟨h1, h2⟩ <;> simp only [h1, h2]
  | call c =>
    obtain ⟨callee, args, ts⟩ := c
    cases callee with
    | builtin b =>
      simp only [evOp]
      rw [evBuiltin_eq, evBuiltin_eq]
      unfold evBuiltin0
      split
      · simp only [evLen, elemsOf_core h]
      · rfl
      · rfl
      · rename_i id _ _
        rcases h.box id with ⟨cs, im, im', h1, h2⟩ | ⟨s, e, es, sp, im, im', h1, h2⟩ | ⟨h1, h2⟩
        · simp only [h1, h2]
        · simp only [h1, h2]; cases sp <;> rfl
        · simp only [h1, h2]
      all_goals first | (simp [changes] at hc; done) | rfl
    | value f =>
      simp only [evOp, hpL]
      split
      · rename_i g caps hf
        rw [xOf_none hc hf]
      · rfl
    | invoke r m => rfl
  | makeFunc fn first captured => cases fn <;> rfl
  | _ => rfl

theorem pur1_free {rows rows' : List (Nat × Row)} : ∀ (n : Nat) (v : AV), v.refs = [] → pur1 rows n v = pur1 rows' n v := by
  intro n
  induction n with
  | zero => intro v _; rfl
  | succ n ih =>
    intro v hv
    have hL : ∀ cs : List AV, AV.refss cs = [] → purL (pur1 rows n) cs = purL (pur1 rows' n) cs := by
      intro cs
      induction cs with
      | nil => intro _; rfl
      | cons c cs ihc =>
        intro h
        simp only [AV.refss, List.append_eq_nil_iff] at h
        simp only [purL, ih c h.1, ihc h.2]
    cases v <;> simp only [pur1] <;> try rfl
    case ptr => simp [AV.refs] at hv
    case eptr => simp [AV.refs] at hv
    case own => simp [AV.refs] at hv
    case sub => simp [AV.refs] at hv
    case agg cs => rw [hL cs hv]
    case tup cs => rw [hL cs hv]
    case fn f cs => rw [hL cs hv]
theorem purL_free {rows rows' : List (Nat × Row)} (n : Nat) : ∀ cs : List AV, (∀ c ∈ cs, c.refs = []) → purL (pur1 rows n) cs = purL (pur1 rows' n) cs
  | [], _ => rfl
  | c :: cs, h => by
    have h1 := pur1_free (rows := rows) (rows' := rows') n c (h c (by simp))
    have h2 := purL_free (rows := rows) (rows' := rows') n cs (fun x hx => h x (by simp [hx]))
    simp only [purL, h1, h2]
theorem ofCell_refs (s : Sh) (v : Value) : (ofCell s v).refs = [] := by
  unfold ofCell
  split <;> first | rfl | (split <;> rfl)
theorem ofCells_refs : ∀ (l : List Sh) (vs : List Value), AV.refss (ofCells l vs) = []
  | _, [] => rfl
  | l, v :: vs => by simp [ofCells, AV.refss, ofCell_refs, ofCells_refs]
theorem ofVal_refs (s : Sh) (v : Value) : (ofVal s v).refs = [] := by
  unfold ofVal
  split
  · split
    · exact ofCells_refs _ _
    · rfl
  · split <;> rfl
  · exact ofCell_refs _ _
theorem ofLit_refs (v : Value) : (ofLit v).refs = [] := by unfold ofLit; split <;> rfl
theorem valsT_const (tm : List AV) : ∀ (ts : List TypeId) (xs : List Operand), xs.all isConst = true → ∀ c ∈ valsT P tm ts xs, c.refs = []
  | _, [], _, c, hc => by
    unfold valsT at hc
    split at hc <;> first | contradiction | simp at hc
  | [], x :: xs, h, c, hc => by
    simp only [List.all_cons, Bool.and_eq_true] at h
    simp only [valsT, List.mem_cons] at hc
    rcases hc with rfl | hc
    · cases x <;> simp [isConst] at h
      exact ofLit_refs _
    · exact valsT_const tm [] xs h.2 c hc
  | t :: ts, x :: xs, h, c, hc => by
    simp only [List.all_cons, Bool.and_eq_true] at h
    simp only [valsT, List.mem_cons] at hc
    rcases hc with rfl | hc
    · cases x <;> simp [isConst] at h
      exact ofVal_refs _ _
    · exact valsT_const tm ts xs h.2 c hc

/-- Operations that look at no row. -/
theorem evOp_free {rows rows' : List (Nat × Row)} (o : Oper) (hc : touches Γ o.op = false) (tm : List AV) (y : Eff → Option ρ) : evOp P Γ site o tm rows y = evOp P Γ site o tm rows' y := by
  obtain ⟨dst, op, type, pos, after, guard⟩ := o
  simp only at hc
  cases op <;> first | rfl | (simp [touches] at hc; done) | skip
  · rename_i fn first captured
    cases fn <;> rfl
  · rename_i c
    obtain ⟨callee, args, ts⟩ := c
    cases callee with
    | builtin b => simp [touches] at hc
    | invoke r m => simp [touches] at hc
    | value f =>
      cases f with
      | tmp t => simp [touches] at hc
      | const v => simp [touches] at hc
      | global v => simp [touches] at hc
      | func g =>
        simp only [touches, Bool.or_eq_false_iff, Option.isSome_eq_false_iff, Option.isNone_iff_eq_none, Bool.not_eq_false'] at hc
        obtain ⟨h1, h2⟩ := hc
        have hx : xOf Γ (.func g) g = none := h1
        simp only [evOp, val, hx, List.append_nil]
        rw [purL_free (rows := rows) (rows' := rows') depth _ (valsT_const tm ts.toList args.toList (by simpa using h2))]

theorem lookupEq_core {rows rows' : List (Nat × Row)} (h : ∀ id, lookup rows id = lookup rows' id) : coreEq rows rows' := fun id => by rw [h id]

theorem opn1_look {rows rows' : List (Nat × Row)} (h : ∀ id, lookup rows id = lookup rows' id) : ∀ (n : Nat) (v : AV), opn1 rows n v = opn1 rows' n v := by
  have hp := pur1_core (lookupEq_core h) depth
  intro n
  induction n with
  | zero => intro v; rfl
  | succ n ih =>
    intro v
    have hL := purL_congr ih
    cases v <;> simp only [opn1, h, hp, hL]
theorem reachF_look {rows rows' : List (Nat × Row)} (h : ∀ id, lookup rows id = lookup rows' id) {f f' : List AV → List Nat → List Nat} (hf : ∀ cs acc, f cs acc = f' cs acc) : ∀ (is acc : List Nat), reachF rows f is acc = reachF rows' f' is acc
  | [], _ => rfl
  | i :: is, acc => by simp only [reachF, h, hf, reachF_look h hf is]
theorem reach_look {rows rows' : List (Nat × Row)} (h : ∀ id, lookup rows id = lookup rows' id) : ∀ (n : Nat) (avs : List AV) (acc : List Nat), reach rows n avs acc = reach rows' n avs acc
  | 0, _, _ => rfl
  | n + 1, _, _ => reachF_look h (reach_look h n) _ _
theorem rowsAt_look {rows rows' : List (Nat × Row)} (h : ∀ id, lookup rows id = lookup rows' id) : ∀ (ids : List Nat), rowsAt rows ids = rowsAt rows' ids
  | [] => rfl
  | i :: is => by simp only [rowsAt, h, rowsAt_look h is, purL_congr (opn1_look h depth)]
theorem evX_look {rows rows' : List (Nat × Row)} (h : ∀ id, lookup rows id = lookup rows' id) (F : SummX) (avs : List AV) (y : Eff → Option ρ) : evX site F avs rows y = evX site F avs rows' y := by
  simp only [evX, purL_congr (opn1_look h depth), reach_look h, rowsAt_look h]

theorem evOp_look {rows rows' : List (Nat × Row)} (h : ∀ id, lookup rows id = lookup rows' id) (o : Oper) (tm : List AV) (y : Eff → Option ρ) : evOp P Γ site o tm rows y = evOp P Γ site o tm rows' y := by
  by_cases hc : changes Γ o.op = false
  · exact evOp_core (lookupEq_core h) o hc tm y
  · obtain ⟨dst, op, type, pos, after, guard⟩ := o
    simp only [Bool.not_eq_false] at hc
    have hp := pur1_core (lookupEq_core h) depth
    cases op with
    | store t x z => simp only [evOp, h, hp]
    | call c =>
      obtain ⟨callee, args, ts⟩ := c
      cases callee with
      | builtin b =>
        simp only [evOp]
        rw [evBuiltin_eq, evBuiltin_eq]
        unfold evBuiltin0
        simp only [h, elemsOf_core (lookupEq_core h), evLen]
      | value f => simp only [evOp, evX_look h, purL_congr hp]
      | invoke r m => simp [changes] at hc
    | slice t x lo hi mx => simp only [evOp, subOf, h, hp]
    | _ => simp [changes] at hc
end congr

end Go.Ev
