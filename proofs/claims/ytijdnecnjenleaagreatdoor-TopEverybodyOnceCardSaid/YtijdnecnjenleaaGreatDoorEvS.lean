/-
 A region in whatever order its edges allow. Third part.
-/
import Derived.Test.YtijdnecnjenleaaGreatDoorEvP

namespace Go.Ev
open Go.RowKit
section cps
variable {ρ : Type} {P : Program} {Γ : Env} {site : Nat}
theorem cond_bind {α : Type} (b : Bool) (x : Option α) (y : α → Option ρ) : (bif b then x.bind y else none) = (bif b then x else none).bind y:=by cases b <;> rfl
theorem evLoad_bind (t : TypeId) (cs : List AV) (y : AV → Option ρ) : evLoad P t cs y = (evLoad P t cs some).bind y:=by
 unfold evLoad
 repeat' split
 all_goals rfl
theorem binInt_bind (op : BinOp) (k : IntKind) (m n : Int) (y : AV → Option ρ) : binInt op k m n y = (binInt op k m n some).bind y:=by
 unfold binInt
 split <;> first | rfl | (generalize decide (n = 0) = b;cases b <;> rfl)
theorem binShift_bind (op : BinOp) (k : IntKind) (m n : Int) (y : AV → Option ρ) : binShift op k m n y = (binShift op k m n some).bind y:=by
 unfold binShift
 split <;> first | rfl | (generalize decide (n < 0) = b;cases b <;> rfl)
theorem binStr_bind (op : BinOp) (m n : List UInt8) (y : AV → Option ρ) : binStr op m n y = (binStr op m n some).bind y:=by
 unfold binStr
 split <;> first | rfl | (generalize lenB (m.length + n.length) = b;cases b <;> rfl)
theorem evBin_bind (op : BinOp) (t : TypeId) (x z : AV) (y : AV → Option ρ) : evBin P op t x z y = (evBin P op t x z some).bind y:=by
 unfold evBin
 repeat' split
 all_goals first | rfl | exact binInt_bind _ _ _ _ _ | exact binShift_bind _ _ _ _ _ | exact binStr_bind _ _ _ _
theorem evNil_bind (op : BinOp) (t : TypeId) (x : AV) (y : AV → Option ρ) : evNil P op t x y = (evNil P op t x some).bind y:=by
 unfold evNil
 repeat' split
 all_goals first | rfl | (generalize List.isEmpty _ = b;cases b <;> rfl)
theorem evLen_bind (rows : List (Nat × Row)) (t : TypeId) (x : AV) (y : Eff → Option ρ) : evLen P rows t x y = (evLen P rows t x some).bind y:=by
 unfold evLen
 repeat' split
 all_goals rfl
theorem evBuiltin_bind (b : Builtin) (ts : List TypeId) (args : List AV) (rows : List (Nat × Row)) (y : Eff → Option ρ) : evBuiltin P site b ts args rows y = (evBuiltin P site b ts args rows some).bind y:=by
 rw [evBuiltin_eq,evBuiltin_eq]
 unfold evBuiltin0
 repeat' split
 all_goals first | rfl | exact evLen_bind _ _ _ _ | (rw [← cond_bind];rfl)
def NatOK (Γ : Env) : Prop:=(∀ g F,find Γ g = some F → SNat F) ∧ (∀ g F,findX Γ g = some F → XNat F) ∧ ∀ key np F,Γ.yld = some (key,np,F) → XNat F
theorem evX_bind {F : SummX} (hF : XNat F) (avs : List AV) (rows : List (Nat × Row)) (y : Eff → Option ρ) : evX site F avs rows y = (evX site F avs rows some).bind y:=by
 unfold evX
 split
 ·rfl
 ·split
  ·rfl
  ·split
   ·rw [hF ρ,hF Eff]
    generalize F _ _ _ _ = x
    cases x with
    | none=>rfl
    | some x =>
     simp only [Option.bind_some]
     split <;> rfl
   ·rfl
theorem cond_bind2 {α : Type} (b : Bool) (x z : Option α) (y : α → Option ρ) : (bif b then x else z).bind y = bif b then x.bind y else z.bind y:=by cases b <;> rfl
theorem cond_eq {α : Type} {b : Bool} {x x' z z' : α} (h : x = x') (h' : z = z') : (bif b then x else z) = bif b then x' else z':=by rw [h,h']
theorem evOp_bind (hN : NatOK Γ) (o : Oper) (tm : List AV) (rows : List (Nat × Row)) (y : Eff → Option ρ) : evOp P Γ site o tm rows y = (evOp P Γ site o tm rows some).bind y:=by
 have hl : ∀ (t : TypeId) (cs : List AV),evLoad P t cs (fun v=>y { v }) = (evLoad P t cs fun v=>some { v }).bind y:=fun t cs=>by
  rw [evLoad_bind (P:=P) t cs (fun v=>y { v }),evLoad_bind (P:=P) t cs (fun v=>some ({ v:=v } : Eff))]
  cases evLoad P t cs some <;> rfl
 have hb : ∀ (op : BinOp) (t : TypeId) (x z : AV),evBin P op t x z (fun v=>y { v }) = (evBin P op t x z fun v=>some { v }).bind y:=fun op t x z=>by
  rw [evBin_bind (P:=P) op t x z (fun v=>y { v }),evBin_bind (P:=P) op t x z (fun v=>some ({ v:=v } : Eff))]
  cases evBin P op t x z some <;> rfl
 have hn : ∀ (op : BinOp) (t : TypeId) (x : AV),evNil P op t x (fun v=>y { v }) = (evNil P op t x fun v=>some { v }).bind y:=fun op t x=>by
  rw [evNil_bind (P:=P) op t x (fun v=>y { v }),evNil_bind (P:=P) op t x (fun v=>some ({ v:=v } : Eff))]
  cases evNil P op t x some <;> rfl
 unfold evOp
 split
 all_goals repeat' split
 all_goals first
  | rfl
  | exact hl _ _
  | exact hb _ _ _ _
  | exact hn _ _ _
  | exact evBuiltin_bind _ _ _ _ _
  | (rename_i t _;cases t <;> rfl)
  | (rw [← cond_bind];rw [hl])
  | (rw [← cond_bind];rfl)
  | (generalize slb _ _ _ = b;cases b <;> simp only [cond_true,cond_false] <;> first | rfl | (rw [← cond_bind];rfl))
  | (rw [elemsK_def,elemsK_def];split <;> first | rfl | (split <;> rfl))
  | (rename_i F hF _;exact evX_bind (hN.2.1 _ F (xOf_find hF)) _ _ _)
  | (exact evX_bind (hN.2.2 _ _ _ (by assumption)) _ _ _)
  | (rename_i F hF _;rw [hN.1 _ F hF ρ,hN.1 _ F hF Eff];generalize F AV _ some = x;cases x <;> rfl)
  | skip
 all_goals try simp only [AV.force_eq]
 all_goals repeat' (first | exact hl _ _ | (rw [cond_bind2];refine cond_eq ?_ ?_) | rfl | split)
end cps
section congr
variable {ρ : Type} {P : Program} {Γ : Env} {site : Nat}
theorem val_congr {tm tm' : List AV} {x : Operand} (h : ∀ t,x = .tmp t → tm.getD t .unk = tm'.getD t .unk) : val tm x = val tm' x:=by
 cases x with
 | tmp t=>exact h t rfl
 | _=>rfl
theorem valT_congr {tm tm' : List AV} {x : Operand} (h : ∀ t,x = .tmp t → tm.getD t .unk = tm'.getD t .unk) (t : TypeId) : valT P tm t x = valT P tm' t x:=by
 cases x with
 | tmp t=>exact h t rfl
 | _=>rfl
theorem valsT_congr {tm tm' : List AV} : ∀ (ts : List TypeId) (xs : List Operand),(∀ x ∈ xs,∀ t,x = .tmp t → tm.getD t .unk = tm'.getD t .unk) → valsT P tm ts xs = valsT P tm' ts xs
 | _,[],_=>by unfold valsT;split <;> first | contradiction | rfl
 | [],x :: xs,h=>by
  simp only [valsT]
  rw [val_congr (h x (by simp)),valsT_congr [] xs (fun y hy=>h y (by simp [hy]))]
 | t :: ts,x :: xs,h=>by
  simp only [valsT]
  rw [valT_congr (h x (by simp)),valsT_congr ts xs (fun y hy=>h y (by simp [hy]))]
theorem map_val_congr {tm tm' : List AV} (x : Option Operand) (h : ∀ z,x = some z → ∀ t,z = .tmp t → tm.getD t .unk = tm'.getD t .unk) : x.map (val tm) = x.map (val tm'):=by
 cases x with
 | none=>rfl
 | some z=>simp only [Option.map_some];rw [val_congr (h z rfl)]
theorem evOp_tm {tm tm' : List AV} (o : Oper) (rows : List (Nat × Row)) (y : Eff → Option ρ) (h : ∀ x ∈ o.op.operands.toList,∀ t,x = Operand.tmp t → tm.getD t .unk = tm'.getD t .unk) : evOp P Γ site o tm rows y = evOp P Γ site o tm' rows y:=by
 obtain ⟨dst,op,type,pos,after,guard⟩:=o
 simp only at h
 cases op with
 | move x=>simp only [evOp];rw [valT_congr (h x (by simp [Op.operands]))]
 | assign x=>simp only [evOp];rw [valT_congr (h x (by simp [Op.operands]))]
 | pick c x z=>simp only [evOp];rw [val_congr (h c (by simp [Op.operands])),valT_congr (h x (by simp [Op.operands])),valT_congr (h z (by simp [Op.operands]))]
 | alloc t=>rfl
 | box t x=>simp only [evOp];rw [valT_congr (h x (by simp [Op.operands]))]
 | build t parts =>
  simp only [evOp]
  have : (parts.toList.map fun p=>(p.1,valT P tm (partTypes P t p.1) p.2)) = parts.toList.map fun p=>(p.1,valT P tm' (partTypes P t p.1) p.2):=by
   apply List.map_congr_left
   intro p hp
   rw [valT_congr (h p.2 (by simp only [Op.operands,List.mem_map];exact ⟨p,hp,rfl⟩))]
  rw [this]
 | buildSlice t len parts =>
  simp only [evOp]
  have : ∀ e,(parts.toList.map fun p=>valT P tm e p.2) = parts.toList.map fun p=>valT P tm' e p.2:=by
   intro e
   apply List.map_congr_left
   intro p hp
   rw [valT_congr (h p.2 (by simp only [Op.operands,List.mem_map];exact ⟨p,hp,rfl⟩))]
  simp only [this]
 | makeInterface t x=>simp only [evOp];rw [valT_congr (h x (by simp [Op.operands]))]
 | makeSlice t l c=>simp only [evOp];rw [val_congr (h l (by simp [Op.operands])),val_congr (h c (by simp [Op.operands]))]
 | makeMap t r=>cases r <;> rfl
 | lookup t x k ok =>
  have hk : ∀ t,valT P tm t k = valT P tm' t k:=fun t=>valT_congr (h k (by simp [Op.operands])) t
  simp only [evOp,hk,val_congr (h x (by simp [Op.operands]))]
 | mapUpdate t m k x =>
  have hk : ∀ t,valT P tm t k = valT P tm' t k:=fun t=>valT_congr (h k (by simp [Op.operands])) t
  have hx : ∀ t,valT P tm t x = valT P tm' t x:=fun t=>valT_congr (h x (by simp [Op.operands])) t
  simp only [evOp,hk,hx,val_congr (h m (by simp [Op.operands]))]
 | mapEntry t m k =>
  have hk : ∀ t,valT P tm t k = valT P tm' t k:=fun t=>valT_congr (h k (by simp [Op.operands])) t
  simp only [evOp,hk,val_congr (h m (by simp [Op.operands]))]
 | entryStore t m s x =>
  have hx : ∀ t,valT P tm t x = valT P tm' t x:=fun t=>valT_congr (h x (by simp [Op.operands])) t
  simp only [evOp,hx,val_congr (h m (by simp [Op.operands])),val_congr (h s (by simp [Op.operands]))]
 | load t x=>simp only [evOp];rw [val_congr (h x (by simp [Op.operands]))]
 | store t x z=>simp only [evOp];rw [val_congr (h x (by simp [Op.operands])),valT_congr (h z (by simp [Op.operands]))]
 | nilCheck x=>simp only [evOp];rw [val_congr (h x (by simp [Op.operands]))]
 | binOp op t x z t'=>simp only [evOp];rw [valT_congr (h x (by simp [Op.operands])),valT_congr (h z (by simp [Op.operands]))]
 | unOp op t x=>simp only [evOp];rw [valT_congr (h x (by simp [Op.operands]))]
 | convert s d x=>simp only [evOp];rw [valT_congr (h x (by simp [Op.operands]))]
 | makeFunc fn first captured =>
  cases fn <;> simp only [evOp]
  have : captured.toList.map (val tm) = captured.toList.map (val tm'):=by
   apply List.map_congr_left
   intro x hx
   rw [val_congr (h x (by simp only [Op.operands,Array.toList_append,List.mem_append];exact .inr hx))]
  rw [this]
 | slice t x lo hi mx =>
  simp only [evOp]
  have h0 : val tm x = val tm' x:=val_congr (h x (by simp [Op.operands]))
  have h1:=map_val_congr (tm:=tm) (tm':=tm') lo (fun z hz=>h z (by subst hz;simp [Op.operands]))
  have h2:=map_val_congr (tm:=tm) (tm':=tm') hi (fun z hz=>h z (by subst hz;simp [Op.operands]))
  rw [h0,h1,h2]
  cases mx with
  | none=>rfl
  | some m =>
   have h3 : val tm m = val tm' m:=val_congr (h m (by simp [Op.operands]))
   cases m <;> first | simp only [h3] | rfl
 | fieldAddr t x f=>simp only [evOp];rw [val_congr (h x (by simp [Op.operands]))]
 | field t x f=>simp only [evOp];rw [valT_congr (h x (by simp [Op.operands]))]
 | indexAddr t x i=>simp only [evOp];rw [val_congr (h x (by simp [Op.operands])),val_congr (h i (by simp [Op.operands]))]
 | index t x i=>simp only [evOp];rw [valT_congr (h x (by simp [Op.operands])),val_congr (h i (by simp [Op.operands]))]
 | extract x i=>simp only [evOp];rw [val_congr (h x (by simp [Op.operands]))]
 | range t x=>simp only [evOp];rw [valT_congr (h x (by simp [Op.operands]))]
 | next x b =>
  cases b
  ·rfl
  ·simp only [evOp];rw [val_congr (h x (by simp [Op.operands]))]
 | call c =>
  obtain ⟨callee,args,ts⟩:=c
  cases callee with
  | builtin b =>
   simp only [evOp]
   rw [valsT_congr ts.toList args.toList (fun x hx=>h x (by simp only [Op.operands,Call.operands,Array.toList_append,List.mem_append];exact .inr hx))]
  | value f =>
   simp only [evOp]
   rw [valsT_congr ts.toList args.toList (fun x hx=>h x (by simp only [Op.operands,Call.operands,Array.toList_append,List.mem_append];exact .inr hx)),val_congr (h f (by simp [Op.operands,Call.operands]))]
  | invoke r m=>rfl
 | _=>rfl
def Row.core : Row → Row:=Row.freeze
def coreEq (rows rows' : List (Nat × Row)) : Prop:=∀ id,(lookup rows id).map Row.core = (lookup rows' id).map Row.core
theorem coreEq.box {rows rows' : List (Nat × Row)} (h : coreEq rows rows') (id : Nat) : (∃ cs im im',lookup rows id = some (.box im cs) ∧ lookup rows' id = some (.box im' cs)) ∨ (∃ s e es sp im im',lookup rows id = some (.arr im s e es sp) ∧ lookup rows' id = some (.arr im' s e es sp)) ∨ (lookup rows id = none ∧ lookup rows' id = none) ∨ (∃ s e pre cs post im im',lookup rows id = some (.foc im s e pre cs post) ∧ lookup rows' id = some (.foc im' s e pre cs post)):=by
 have:=h id
 cases h1 : lookup rows id with
 | none=>cases h2 : lookup rows' id with
  | none=>exact .inr (.inr (.inl ⟨rfl,rfl⟩))
  | some r=>simp [h1,h2] at this
 | some r=>cases h2 : lookup rows' id with
  | none=>simp [h1,h2] at this
  | some r' =>
   simp only [h1,h2,Option.map_some,Option.some.injEq] at this
   cases r <;> cases r' <;> simp [Row.core,Row.freeze] at this
   ·subst this;exact .inl ⟨_,_,_,rfl,rfl⟩
   ·obtain ⟨rfl,rfl,rfl,rfl⟩:=this;exact .inr (.inl ⟨_,_,_,_,_,_,rfl,rfl⟩)
   ·obtain ⟨rfl,rfl,rfl,rfl,rfl⟩:=this;exact .inr (.inr (.inr ⟨_,_,_,_,_,_,_,rfl,rfl⟩))
theorem purL_congr {f g : AV → Option (AV × List Nat)} (h : ∀ v,f v = g v) : ∀ cs,purL f cs = purL g cs:=fun cs=>by rw [show f = g from funext h]
theorem pur1_core {rows rows' : List (Nat × Row)} (h : coreEq rows rows') : ∀ (n : Nat) (v : AV),pur1 rows n v = pur1 rows' n v:=by
 intro n
 induction n with
 | zero=>intro v;rfl
 | succ n ih =>
  intro v
  have hL:=purL_congr ih
  cases v <;> simp only [pur1]
  case ptr id off=>rcases h.box id with ⟨cs,im,im',h1,h2⟩ | ⟨s,e,es,sp,im,im',h1,h2⟩ | ⟨h1,h2⟩ | ⟨s,e,p,cs,q,im,im',h1,h2⟩ <;> simp only [h1,h2,hL]
  case eptr id i off=>rcases h.box id with ⟨cs,im,im',h1,h2⟩ | ⟨s,e,es,sp,im,im',h1,h2⟩ | ⟨h1,h2⟩ | ⟨s,e,p,cs,q,im,im',h1,h2⟩ <;> simp only [h1,h2]
  case own id=>rcases h.box id with ⟨cs,im,im',h1,h2⟩ | ⟨s,e,es,sp,im,im',h1,h2⟩ | ⟨h1,h2⟩ | ⟨s,e,p,cs,q,im,im',h1,h2⟩ <;> simp only [h1,h2,hL]
  case sub id lo n=>rcases h.box id with ⟨cs,im,im',h1,h2⟩ | ⟨s,e,es,sp,im,im',h1,h2⟩ | ⟨h1,h2⟩ | ⟨s,e,p,cs,q,im,im',h1,h2⟩ <;> simp only [h1,h2]
  case agg cs=>rw [hL]
  case tup cs=>rw [hL]
  case fn f cs=>rw [hL]
theorem elemsOf_core {rows rows' : List (Nat × Row)} (h : coreEq rows rows') (v : AV) : elemsOf rows v = elemsOf rows' v:=by
 cases v <;> simp only [elemsOf]
 case own id=>rcases h.box id with ⟨cs,im,im',h1,h2⟩ | ⟨s,e,es,sp,im,im',h1,h2⟩ | ⟨h1,h2⟩ | ⟨s,e,p,cs,q,im,im',h1,h2⟩ <;> simp only [h1,h2]
 case sub id lo n=>rcases h.box id with ⟨cs,im,im',h1,h2⟩ | ⟨s,e,es,sp,im,im',h1,h2⟩ | ⟨h1,h2⟩ | ⟨s,e,p,cs,q,im,im',h1,h2⟩ <;> simp only [h1,h2]
theorem focLen_core {rows rows' : List (Nat × Row)} (h : coreEq rows rows') (v : AV) : focLen rows v = focLen rows' v:=by
 cases v <;> simp only [focLen]
 case own id=>rcases h.box id with ⟨cs,im,im',h1,h2⟩ | ⟨s,e,es,sp,im,im',h1,h2⟩ | ⟨h1,h2⟩ | ⟨s,e,p,cs,q,im,im',h1,h2⟩ <;> simp only [h1,h2]
theorem subOf_core {rows rows' : List (Nat × Row)} (h : coreEq rows rows') (x : AV) (mx : Option Operand) : (subOf x mx rows).map (fun p=>(p.1,p.2.core)) = (subOf x mx rows').map (fun p=>(p.1,p.2.core)):=by
 unfold subOf
 split
 ·rename_i id
  have:=h id
  cases h1 : lookup rows id <;> cases h2 : lookup rows' id <;> simp_all
 ·rfl
theorem xOf_none {f : Operand} {g : Nat} {caps : List AV} {tm : List AV} {args : Array Operand} {ts : Array TypeId} (hc : changes Γ (.call { callee:=.value f,args:=args,argTypes:=ts }) = false) (hf : val tm f = .fn g caps) : xOf Γ f g = none:=by
 cases f with
 | func g0 =>
  simp only [val,AV.fn.injEq] at hf
  obtain ⟨rfl,_⟩:=hf
  simp only [changes,Option.isSome_eq_false_iff,Option.isNone_iff_eq_none] at hc
  exact hc
 | tmp t=>simp only [changes,Bool.or_eq_false_iff] at hc;simp [xOf,hc.1]
 | const v=>simp only [changes,Bool.or_eq_false_iff] at hc;simp [xOf,hc.1]
 | global v=>simp only [changes,Bool.or_eq_false_iff] at hc;simp [xOf,hc.1]
theorem yld_none {f : Operand} {id : Nat} {tm : List AV} {args : Array Operand} {ts : Array TypeId} (hc : changes Γ (.call { callee:=.value f,args:=args,argTypes:=ts }) = false) (hf : val tm f = .own id) : Γ.yld = none:=by
 cases f with
 | func g0=>simp [val] at hf
 | tmp t=>simp only [changes,Bool.or_eq_false_iff] at hc;simpa using hc.2
 | const v=>simp only [changes,Bool.or_eq_false_iff] at hc;simpa using hc.2
 | global v=>simp only [changes,Bool.or_eq_false_iff] at hc;simpa using hc.2
theorem mapOf_core {rows rows' : List (Nat × Row)} (h : coreEq rows rows') (t : TypeId) (x : AV) : (mapOf P rows t x = none ∧ mapOf P rows' t x = none) ∨ ∃ kt et id im im' es,mapOf P rows t x = some (kt,et,id,im,es) ∧ mapOf P rows' t x = some (kt,et,id,im',es):=by
 unfold mapOf
 split
 ·rename_i kt et id ht
  rcases h.box id with ⟨cs,im,im',h1,h2⟩ | ⟨s,e,es,sp,im,im',h1,h2⟩ | ⟨h1,h2⟩ | ⟨s,e,p,cs,q,im,im',h1,h2⟩
  ·rw [h1,h2]
   match cs with
   | [.mpv es] =>
    by_cases hk : keyT P kt = true
    ·exact .inr ⟨kt,et,id,im,im',es,by simp [hk],by simp [hk]⟩
    ·exact .inl ⟨by simp [hk],by simp [hk]⟩
   | []=>exact .inl ⟨rfl,rfl⟩
   | _ :: _ :: _=>exact .inl ⟨by split <;> simp_all,by split <;> simp_all⟩
   | [c] =>
    cases c with
    | mpv es =>
     by_cases hk : keyT P kt = true
     ·exact .inr ⟨kt,et,id,im,im',es,by simp [hk],by simp [hk]⟩
     ·exact .inl ⟨by simp [hk],by simp [hk]⟩
    | _=>exact .inl ⟨rfl,rfl⟩
  ·rw [h1,h2];exact .inl ⟨rfl,rfl⟩
  ·rw [h1,h2];exact .inl ⟨rfl,rfl⟩
  ·rw [h1,h2];exact .inl ⟨rfl,rfl⟩
 ·exact .inl ⟨rfl,rfl⟩
theorem evOp_core {rows rows' : List (Nat × Row)} (h : coreEq rows rows') (o : Oper) (hc : changes Γ o.op = false) (tm : List AV) (y : Eff → Option ρ) : evOp P Γ site o tm rows y = evOp P Γ site o tm rows' y:=by
 obtain ⟨dst,op,type,pos,after,guard⟩:=o
 simp only at hc
 have hp:=pur1_core h depth
 have hpL:=purL_congr hp
 cases op with
 | buildSlice t len parts=>simp only [evOp,hpL]
 | load t x =>
  simp only [evOp]
  cases val tm x <;> simp only []
  case ptr id off=>rcases h.box id with ⟨cs,im,im',h1,h2⟩ | ⟨s,e,es,sp,im,im',h1,h2⟩ | ⟨h1,h2⟩ | ⟨s,e,p,cs,q,im,im',h1,h2⟩ <;> simp only [h1,h2]
  case eptr id i off=>rcases h.box id with ⟨cs,im,im',h1,h2⟩ | ⟨s,e,es,sp,im,im',h1,h2⟩ | ⟨h1,h2⟩ | ⟨s,e,p,cs,q,im,im',h1,h2⟩ <;> simp only [h1,h2]
 | store t x z=>simp [changes] at hc
 | makeInterface t x=>simp only [evOp,hp]
 | slice t x lo hi mx =>
  have hext : Γ.ext.contains site = false:=by
   simp only [changes] at hc
   cases he : Γ.ext with
   | nil=>simp
   | cons a l=>rw [he] at hc;simp at hc
  have hs:=subOf_core h (val tm x) mx
  simp only [evOp,hp,hext,Bool.false_and,Bool.false_eq_true,if_false]
  split
  ·split
   ·rfl
   ·rfl
   ·cases h1 : subOf (val tm x) mx rows with
    | none =>
     cases h2 : subOf (val tm x) mx rows' with
     | none=>rfl
     | some q=>rw [h1,h2] at hs;simp at hs
    | some p =>
     cases h2 : subOf (val tm x) mx rows' with
     | none=>rw [h1,h2] at hs;simp at hs
     | some q =>
      rw [h1,h2] at hs
      obtain ⟨id,r⟩:=p
      obtain ⟨id',r'⟩:=q
      simp only [Option.map_some,Option.some.injEq,Prod.mk.injEq] at hs
      obtain ⟨rfl,hs⟩:=hs
      cases r <;> cases r' <;> simp [Row.core,Row.freeze] at hs
      ·rfl
      ·obtain ⟨rfl,rfl,rfl,rfl⟩:=hs
       rename_i im s e es sp im'
       rfl
      ·rfl
   ·rfl
  ·rfl
 | indexAddr t x i =>
  simp only [evOp]
  cases val tm i <;> simp only []
  cases P.underlying t with
  | none=>rfl
  | some d =>
   cases d <;> try rfl
   case array=>cases val tm x <;> rfl
   cases val tm x <;> try rfl
   case own id=>rcases h.box id with ⟨cs,im,im',h1,h2⟩ | ⟨s,e,es,sp,im,im',h1,h2⟩ | ⟨h1,h2⟩ | ⟨s,e,p,cs,q,im,im',h1,h2⟩ <;> simp only [h1,h2]
   case sub id lo len=>rcases h.box id with ⟨cs,im,im',h1,h2⟩ | ⟨s,e,es,sp,im,im',h1,h2⟩ | ⟨h1,h2⟩ | ⟨s,e,p,cs,q,im,im',h1,h2⟩ <;> simp only [h1,h2]
 | call c =>
  obtain ⟨callee,args,ts⟩:=c
  cases callee with
  | builtin b =>
   simp only [evOp]
   rw [evBuiltin_eq,evBuiltin_eq]
   unfold evBuiltin0
   split
   ·simp only [evLen,elemsOf_core h,focLen_core h]
   ·rfl
   ·rfl
   ·rename_i id _ _
    rcases h.box id with ⟨cs,im,im',h1,h2⟩ | ⟨s,e,es,sp,im,im',h1,h2⟩ | ⟨h1,h2⟩ | ⟨s,e,p,cs,q,im,im',h1,h2⟩
    ·simp only [h1,h2]
    ·simp only [h1,h2];cases sp <;> rfl
    ·simp only [h1,h2]
    ·simp only [h1,h2]
   all_goals first | (simp [changes] at hc;done) | rfl
  | value f =>
   simp only [evOp,hpL]
   split
   ·rename_i g caps hf
    rw [xOf_none hc hf]
   ·rename_i id hf
    rw [yld_none hc hf]
   ·rfl
  | invoke r m=>rfl
 | makeFunc fn first captured=>cases fn <;> rfl
 | convert s d x =>
  have hc' : (Γ.conv && s == d) = false:=hc
  simp only [evOp,elemsK_def,elemsOf_core h,← Bool.and_assoc,hc',Bool.false_and,Bool.false_eq_true,if_false]
 | next x b=>simp [changes] at hc
 | makeMap t r=>cases r <;> rfl
 | lookup t x k ok =>
  simp only [evOp]
  rcases mapOf_core (P:=P) h t (val tm x) with ⟨h1,h2⟩ | ⟨kt,et,id,im,im',es,h1,h2⟩ <;> rw [h1,h2]
 | mapUpdate t m k x=>simp [changes] at hc
 | mapEntry t m k=>simp [changes] at hc
 | entryStore t m s x=>simp [changes] at hc
 | _=>rfl
theorem pur1_free {rows rows' : List (Nat × Row)} : ∀ (n : Nat) (v : AV),v.refs = [] → pur1 rows n v = pur1 rows' n v:=by
 intro n
 induction n with
 | zero=>intro v _;rfl
 | succ n ih =>
  intro v hv
  have hL : ∀ cs : List AV,AV.refss cs = [] → purL (pur1 rows n) cs = purL (pur1 rows' n) cs:=by
   intro cs
   induction cs with
   | nil=>intro _;rfl
   | cons c cs ihc =>
    intro h
    simp only [AV.refss,List.append_eq_nil_iff] at h
    simp only [purL,ih c h.1,ihc h.2]
  cases v <;> simp only [pur1] <;> try rfl
  case ptr=>simp [AV.refs] at hv
  case eptr=>simp [AV.refs] at hv
  case own=>simp [AV.refs] at hv
  case sub=>simp [AV.refs] at hv
  case agg cs=>rw [hL cs hv]
  case tup cs=>rw [hL cs hv]
  case fn f cs=>rw [hL cs hv]
theorem purL_free {rows rows' : List (Nat × Row)} (n : Nat) : ∀ cs : List AV,(∀ c ∈ cs,c.refs = []) → purL (pur1 rows n) cs = purL (pur1 rows' n) cs
 | [],_=>rfl
 | c :: cs,h=>by
  have h1:=pur1_free (rows:=rows) (rows':=rows') n c (h c (by simp))
  have h2:=purL_free (rows:=rows) (rows':=rows') n cs (fun x hx=>h x (by simp [hx]))
  simp only [purL,h1,h2]
theorem ofCell_refs (s : Sh) (v : Value) : (ofCell s v).refs = []:=by
 unfold ofCell
 split <;> first | rfl | (split <;> rfl)
theorem ofCells_refs : ∀ (l : List Sh) (vs : List Value),AV.refss (ofCells l vs) = []
 | _,[]=>rfl
 | l,v :: vs=>by simp [ofCells,AV.refss,ofCell_refs,ofCells_refs]
theorem ofVal_refs (s : Sh) (v : Value) : (ofVal s v).refs = []:=by
 unfold ofVal
 split
 ·split
  ·exact ofCells_refs _ _
  ·rfl
 ·split <;> rfl
 ·exact ofCell_refs _ _
theorem ofLit_refs (v : Value) : (ofLit v).refs = []:=by unfold ofLit;split <;> rfl
theorem valsT_const (tm : List AV) : ∀ (ts : List TypeId) (xs : List Operand),xs.all isConst = true → ∀ c ∈ valsT P tm ts xs,c.refs = []
 | _,[],_,c,hc=>by
  unfold valsT at hc
  split at hc <;> first | contradiction | simp at hc
 | [],x :: xs,h,c,hc=>by
  simp only [List.all_cons,Bool.and_eq_true] at h
  simp only [valsT,List.mem_cons] at hc
  rcases hc with rfl | hc
  ·cases x <;> simp [isConst] at h
   exact ofLit_refs _
  ·exact valsT_const tm [] xs h.2 c hc
 | t :: ts,x :: xs,h,c,hc=>by
  simp only [List.all_cons,Bool.and_eq_true] at h
  simp only [valsT,List.mem_cons] at hc
  rcases hc with rfl | hc
  ·cases x <;> simp [isConst] at h
   exact ofVal_refs _ _
  ·exact valsT_const tm ts xs h.2 c hc
theorem evOp_free {rows rows' : List (Nat × Row)} (o : Oper) (hc : touches Γ o.op = false) (tm : List AV) (y : Eff → Option ρ) : evOp P Γ site o tm rows y = evOp P Γ site o tm rows' y:=by
 obtain ⟨dst,op,type,pos,after,guard⟩:=o
 simp only at hc
 cases op <;> first | rfl | (simp [touches] at hc;done) | skip
 ·have hc : Γ.conv = false:=hc
  simp only [evOp,hc,Bool.false_and]
  rfl
 ·rename_i fn first captured
  cases fn <;> rfl
 ·rename_i c
  obtain ⟨callee,args,ts⟩:=c
  cases callee with
  | builtin b=>simp [touches] at hc
  | invoke r m=>simp [touches] at hc
  | value f =>
   cases f with
   | tmp t=>simp [touches] at hc
   | const v=>simp [touches] at hc
   | global v=>simp [touches] at hc
   | func g =>
    simp only [touches,Bool.or_eq_false_iff,Option.isSome_eq_false_iff,Option.isNone_iff_eq_none,Bool.not_eq_false'] at hc
    obtain ⟨h1,h2⟩:=hc
    have hx : xOf Γ (.func g) g = none:=h1
    simp only [evOp,val,hx,List.append_nil]
    rw [purL_free (rows:=rows) (rows':=rows') depth _ (valsT_const tm ts.toList args.toList (by simpa using h2))]
theorem lookupEq_core {rows rows' : List (Nat × Row)} (h : ∀ id,lookup rows id = lookup rows' id) : coreEq rows rows':=fun id=>by rw [h id]
theorem opn1_look {rows rows' : List (Nat × Row)} (h : ∀ id,lookup rows id = lookup rows' id) : ∀ (n : Nat) (v : AV),opn1 rows n v = opn1 rows' n v:=by
 have hp:=pur1_core (lookupEq_core h) depth
 intro n
 induction n with
 | zero=>intro v;rfl
 | succ n ih =>
  intro v
  have hL:=purL_congr ih
  cases v <;> simp only [opn1,h,hp,hL]
theorem reachF_look {rows rows' : List (Nat × Row)} (h : ∀ id,lookup rows id = lookup rows' id) {f f' : List AV → List Nat → List Nat} (hf : ∀ cs acc,f cs acc = f' cs acc) : ∀ (is acc : List Nat),reachF rows f is acc = reachF rows' f' is acc
 | [],_=>rfl
 | i :: is,acc=>by simp only [reachF,h,hf,reachF_look h hf is]
theorem reach_look {rows rows' : List (Nat × Row)} (h : ∀ id,lookup rows id = lookup rows' id) : ∀ (n : Nat) (avs : List AV) (acc : List Nat),reach rows n avs acc = reach rows' n avs acc
 | 0,_,_=>rfl
 | n + 1,_,_=>reachF_look h (reach_look h n) _ _
theorem rowsAt_look {rows rows' : List (Nat × Row)} (h : ∀ id,lookup rows id = lookup rows' id) : ∀ (ids : List Nat),rowsAt rows ids = rowsAt rows' ids
 | []=>rfl
 | i :: is=>by simp only [rowsAt,h,rowsAt_look h is,purL_congr (opn1_look h depth)]
theorem evX_look {rows rows' : List (Nat × Row)} (h : ∀ id,lookup rows id = lookup rows' id) (F : SummX) (avs : List AV) (y : Eff → Option ρ) : evX site F avs rows y = evX site F avs rows' y:=by
 simp only [evX,purL_congr (opn1_look h depth),reach_look h,rowsAt_look h]
theorem evOp_look {rows rows' : List (Nat × Row)} (h : ∀ id,lookup rows id = lookup rows' id) (o : Oper) (tm : List AV) (y : Eff → Option ρ) : evOp P Γ site o tm rows y = evOp P Γ site o tm rows' y:=by
 by_cases hc : changes Γ o.op = false
 ·exact evOp_core (lookupEq_core h) o hc tm y
 ·obtain ⟨dst,op,type,pos,after,guard⟩:=o
  simp only [Bool.not_eq_false] at hc
  have hp:=pur1_core (lookupEq_core h) depth
  cases op with
  | store t x z=>simp only [evOp,focOf,h,hp]
  | call c =>
   obtain ⟨callee,args,ts⟩:=c
   cases callee with
   | builtin b =>
    simp only [evOp]
    rw [evBuiltin_eq,evBuiltin_eq]
    unfold evBuiltin0
    simp only [h,elemsOf_core (lookupEq_core h),srcOf,focLen_core (lookupEq_core h),evLen]
   | value f=>simp only [evOp,evX_look h,purL_congr hp,h]
   | invoke r m=>simp [changes] at hc
  | slice t x lo hi mx=>simp only [evOp,subOf,h,hp]
  | convert src dst x=>simp only [evOp,h,elemsK_def,elemsOf_core (lookupEq_core h)]
  | next x b=>cases b <;> simp only [evOp,h]
  | mapUpdate t m k x=>simp only [evOp,mapOf,h,hp]
  | mapEntry t m k=>simp only [evOp,mapOf,h]
  | entryStore t m s x=>simp only [evOp,mapOf,h,hp]
  | _=>simp [changes] at hc
end congr
end Go.Ev


namespace Go.Ev
open Go.RowKit
section shape
variable {P : Program} {Γ : Env} {site : Nat}
def Shape (Γ : Env) (o : Oper) (rows : List (Nat × Row)) (e : Eff) : Prop :=
 (changes Γ o.op = false → e.mod = none ∧ e.del = none ∧ e.dels = [] ∧ e.mods = [] ∧ e.news = []) ∧ (touches Γ o.op = false → e.new = none ∧ e.imm = []) ∧ ∀ id ∈ e.imm,∃ r,lookup rows id = some r
theorem shape_slot (o : Oper) (rows : List (Nat × Row)) (v : AV) : Shape Γ o rows { v }:=⟨fun _=>⟨rfl,rfl,rfl,rfl,rfl⟩,fun _=>⟨rfl,rfl⟩,fun id h=>by simp at h⟩
theorem shape_load (o : Oper) (rows : List (Nat × Row)) {t : TypeId} {cs : List AV} {e : Eff} (h : evLoad P t cs (fun v=>some ({ v } : Eff)) = some e) : Shape Γ o rows e:=by
 rw [evLoad_bind] at h
 cases hl : evLoad P t cs some with
 | none=>simp [hl] at h
 | some v=>simp [hl] at h;subst h;exact shape_slot o rows v
theorem shape_nil (o : Oper) (rows : List (Nat × Row)) {op : BinOp} {t : TypeId} {x : AV} {e : Eff} (h : evNil P op t x (fun v=>some ({ v } : Eff)) = some e) : Shape Γ o rows e:=by
 rw [evNil_bind] at h
 cases hl : evNil P op t x some with
 | none=>simp [hl] at h
 | some v=>simp [hl] at h;subst h;exact shape_slot o rows v
theorem shape_bin (o : Oper) (rows : List (Nat × Row)) {op : BinOp} {t : TypeId} {x z : AV} {e : Eff} (h : evBin P op t x z (fun v=>some ({ v } : Eff)) = some e) : Shape Γ o rows e:=by
 rw [evBin_bind] at h
 cases hl : evBin P op t x z some with
 | none=>simp [hl] at h
 | some v=>simp [hl] at h;subst h;exact shape_slot o rows v
theorem changes_touches {op : Op} (h : touches Γ op = false) : changes Γ op = false:=by
 cases op <;> first | rfl | (simp [touches] at h;done) | skip
 ·have h' : Γ.conv = false:=h
  simp only [changes,h',Bool.false_and]
 ·rename_i c
  obtain ⟨callee,args,ts⟩:=c
  cases callee with
  | builtin b=>simp [touches] at h
  | invoke r m=>simp [touches] at h
  | value f =>
   cases f with
   | func g=>simp only [touches,Bool.or_eq_false_iff] at h;simp only [changes];exact h.1
   | tmp t=>simp [touches] at h
   | const t=>simp [touches] at h
   | global t=>simp [touches] at h
theorem pur1_nil {rows : List (Nat × Row)} : ∀ (n : Nat) (v : AV) (p : AV × List Nat),v.refs = [] → pur1 rows n v = some p → p.2 = []:=by
 intro n
 induction n with
 | zero=>intro v p _ h;simp [pur1] at h
 | succ n ih =>
  intro v p hv h
  have hL : ∀ (cs : List AV) (q : List AV × List Nat),AV.refss cs = [] → purL (pur1 rows n) cs = some q → q.2 = []:=by
   intro cs
   induction cs with
   | nil=>intro q _ h;simp [purL] at h;subst h;rfl
   | cons c cs ihc =>
    intro q hr h
    simp only [AV.refss,List.append_eq_nil_iff] at hr
    simp only [purL] at h
    cases h1 : pur1 rows n c with
    | none=>simp [h1] at h
    | some p1 =>
     cases h2 : purL (pur1 rows n) cs with
     | none=>simp [h1,h2] at h
     | some p2 =>
      simp [h1,h2] at h
      subst h
      simp [ih c p1 hr.1 h1,ihc p2 hr.2 h2]
  cases v <;> simp only [pur1] at h
  case ptr=>simp [AV.refs] at hv
  case eptr=>simp [AV.refs] at hv
  case own=>simp [AV.refs] at hv
  case sub=>simp [AV.refs] at hv
  case agg cs =>
   cases hp : purL (pur1 rows n) cs with
   | none=>simp [hp] at h
   | some q=>simp [hp] at h;subst h;exact hL cs q hv hp
  case tup cs =>
   cases hp : purL (pur1 rows n) cs with
   | none=>simp [hp] at h
   | some q=>simp [hp] at h;subst h;exact hL cs q hv hp
  case fn f cs =>
   cases hp : purL (pur1 rows n) cs with
   | none=>simp [hp] at h
   | some q=>simp [hp] at h;subst h;exact hL cs q hv hp
  all_goals first | (cases h;rfl) | cases h
theorem purL_nil {rows : List (Nat × Row)} (n : Nat) : ∀ (cs : List AV) {q : List AV × List Nat},(∀ c ∈ cs,c.refs = []) → purL (pur1 rows n) cs = some q → q.2 = []
 | [],q,_,h=>by simp [purL] at h;subst h;rfl
 | c :: cs,q,hr,h=>by
  simp only [purL] at h
  cases h1 : pur1 rows n c with
  | none=>simp [h1] at h
  | some p1 =>
   cases h2 : purL (pur1 rows n) cs with
   | none=>simp [h1,h2] at h
   | some p2 =>
    simp [h1,h2] at h
    subst h
    simp [pur1_nil n c p1 (hr c (by simp)) h1,purL_nil n cs (fun x hx=>hr x (by simp [hx])) h2]
theorem bif_cases {α : Type} {b : Bool} {x z : Option α} {r : α} (h : (bif b then x else z) = some r) : x = some r ∨ z = some r:=by
 cases b
 ·exact .inr h
 ·exact .inl h
theorem eff_shape (hN : NatOK Γ) {o : Oper} {tm : List AV} {rows : List (Nat × Row)} {e : Eff} (h : evOp P Γ site o tm rows some = some e) : Shape Γ o rows e:=by
 unfold evOp at h
 split at h
 ·cases h;exact shape_slot _ _ _
 ·cases h;exact shape_slot _ _ _
 ·split at h
  ·rename_i t _;cases t <;> (cases h;exact shape_slot _ _ _)
  ·cases h
 ·rename_i t ho
  split at h
  ·cases h;exact ⟨fun _=>⟨rfl,rfl,rfl,rfl,rfl⟩,fun hc=>by simp [ho,touches] at hc,fun id h=>by simp at h⟩
  ·cases h
 ·rename_i t x ho
  split at h
  ·cases h;exact ⟨fun _=>⟨rfl,rfl,rfl,rfl,rfl⟩,fun hc=>by simp [ho,touches] at hc,fun id h=>by simp at h⟩
  ·cases h
 ·split at h
  ·split at h
   ·split at h
    ·cases h;exact shape_slot _ _ _
    ·cases h
   ·cases h
  ·cases h
 ·rename_i t len parts ho
  split at h
  ·split at h
   ·split at h
    ·cases h;exact shape_slot _ _ _
    ·cases h
   ·split at h
    ·cases h
    ·split at h
     ·split at h
      ·rename_i q hq
       split at h
       ·split at h
        ·cases h
         exact ⟨fun _=>⟨rfl,rfl,rfl,rfl,rfl⟩,fun hc=>by simp [ho,touches] at hc,purL_in (rows:=rows) (pur1_in depth) _ _ hq⟩
        ·cases h
       ·cases h
      ·cases h
     ·cases h
  ·cases h
 ·split at h
  ·split at h
   ·exact shape_load _ _ h
   ·cases h
  ·exact shape_load _ _ h
  ·exact shape_load _ _ h
  ·split at h
   ·obtain ⟨_,h⟩:=bif_some h;exact shape_load _ _ h
   ·rcases bif_cases h with h | h
    ·exact shape_load _ _ h
    ·split at h
     ·cases h
     rcases bif_cases h with h | h
     ·exact shape_load _ _ h
     ·obtain ⟨_,h⟩:=bif_some h;exact shape_load _ _ h
   ·cases h
  ·cases h
 ·rename_i t x z ho
  split at h
  ·split at h
   ·split at h
    ·split at h
     ·cases h
      exact ⟨fun hc=>by simp [ho,changes] at hc,fun hc=>by simp [ho,touches] at hc,fun id h=>by simp at h⟩
     ·cases h
    ·cases h
   ·split at h
    ·rcases bif_cases h with h | h
     ·split at h
      ·cases h
       exact ⟨fun hc=>by simp [ho,changes] at hc,fun hc=>by simp [ho,touches] at hc,fun id h=>by simp at h⟩
      ·cases h
     ·split at h
      ·cases h
      split at h
      ·rename_i p hp
       split at h
       ·rcases bif_cases h with h | h
        ·split at h
         ·cases h
          exact ⟨fun hc=>by simp [ho,changes] at hc,fun hc=>by simp [ho,touches] at hc,pur1_in _ _ _ hp⟩
         ·cases h
        ·obtain ⟨_,h⟩:=bif_some h
         split at h
         ·cases h
          exact ⟨fun hc=>by simp [ho,changes] at hc,fun hc=>by simp [ho,touches] at hc,pur1_in _ _ _ hp⟩
         ·cases h
       ·cases h
      ·cases h
    split at h
    ·rename_i p hp
     split at h
     ·split at h
      ·obtain ⟨_,h⟩:=bif_some h
       cases h
       exact ⟨fun hc=>by simp [ho,changes] at hc,fun hc=>by simp [ho,touches] at hc,pur1_in _ _ _ hp⟩
      ·cases h
     ·cases h
    ·cases h
   ·cases h
  ·cases h
 ·split at h <;> first | (cases h;exact shape_slot _ _ _) | cases h
 ·split at h
  ·exact shape_nil _ _ h
  ·exact shape_bin _ _ h
 ·split at h <;> first | (cases h;exact shape_slot _ _ _) | cases h
 ·rename_i src dst x ho
  split at h
  ·cases h;exact shape_slot _ _ _
  ·cases h;exact shape_slot _ _ _
  ·cases h;exact shape_slot _ _ _
  ·split at h
   ·rename_i hc
    simp only [Bool.and_eq_true] at hc
    have hto : touches Γ o.op = true:=by rw [ho];exact hc.1
    have hch : changes Γ o.op = true:=by rw [ho];show (Γ.conv && src == dst) = true;rw [hc.1,hc.2.1];rfl
    split at h
    ·split at h
     ·cases h
      exact ⟨fun hc'=>absurd (hch.symm.trans hc') (by simp),fun hc'=>absurd (hto.symm.trans hc') (by simp),fun id h=>by simp at h⟩
     ·cases h
    ·cases h
   ·cases h
  ·split at h
   ·rename_i hc
    simp only [Bool.and_eq_true] at hc
    have hto : touches Γ o.op = true:=by rw [ho];exact hc.1
    obtain ⟨_,h⟩:=bif_some h
    cases h
    exact ⟨fun _=>⟨rfl,rfl,rfl,rfl,rfl⟩,fun hc'=>absurd (hto.symm.trans hc') (by simp),fun id h=>by simp at h⟩
   ·split at h
    ·rename_i hc
     simp only [Bool.and_eq_true] at hc
     have hto : touches Γ o.op = true:=by rw [ho];exact hc.1
     obtain ⟨_,h⟩:=bif_some h
     cases h
     exact ⟨fun _=>⟨rfl,rfl,rfl,rfl,rfl⟩,fun hc'=>absurd (hto.symm.trans hc') (by simp),fun id h=>by simp at h⟩
    ·cases h
  ·split at h
   ·rw [elemsK_def] at h
    split at h
    ·cases h
    ·split at h
     ·cases h;exact shape_slot _ _ _
     ·cases h
   ·split at h
    ·rw [elemsK_def] at h
     split at h
     ·cases h
     ·split at h
      ·cases h;exact shape_slot _ _ _
      ·cases h
    ·cases h
  ·cases h
 ·split at h <;> first | (cases h;exact shape_slot _ _ _) | cases h
 ·rename_i t x lo hi mx ho
  split at h
  ·split at h
   ·split at h
    ·obtain ⟨_,h⟩:=bif_some h;cases h;exact shape_slot _ _ _
    ·cases h
   ·split at h
    ·split at h
     ·rename_i hp
      split at h
      ·cases h
       exact ⟨fun _=>⟨rfl,rfl,rfl,rfl,rfl⟩,fun hc=>by simp [ho,touches] at hc,pur1_in _ _ _ hp⟩
      ·cases h
     ·cases h
    ·cases h
   ·split at h
    ·split at h
     ·cases h
     ·rename_i im s e' es sp _ _
      split at h
      ·rename_i hx2
       have hext : (!Γ.ext.isEmpty) = true:=by
        simp only [Bool.and_eq_true] at hx2
        cases he : Γ.ext with
        | nil=>rw [he] at hx2;simp at hx2
        | cons a l=>rfl
       split at h
       ·obtain ⟨_,h⟩:=bif_some h
        cases h
        exact ⟨fun hc=>by (rw [ho] at hc;simp only [changes] at hc;rw [hc] at hext;cases hext),fun hc=>by simp [ho,touches] at hc,fun id h=>by simp at h⟩
       ·cases h
      ·split at h
       ·rename_i hx2
        have hext : (!Γ.ext.isEmpty) = true:=by
         cases he : Γ.ext with
         | nil=>rw [he] at hx2;simp at hx2
         | cons a l=>rfl
        split at h
        ·split at h
         ·obtain ⟨_,h⟩:=bif_some h
          cases h
          exact ⟨fun hc=>by (rw [ho] at hc;simp only [changes] at hc;rw [hc] at hext;cases hext),fun hc=>by simp [ho,touches] at hc,fun id h=>by simp at h⟩
         ·cases h
        ·cases h
       ·obtain ⟨_,h⟩:=bif_some h;cases h;exact shape_slot _ _ _
    ·cases h
    split at h
    ·rename_i hp
     split at h
     ·cases h
     ·split at h
      ·obtain ⟨_,h⟩:=bif_some h
       cases h
       exact ⟨fun _=>⟨rfl,rfl,rfl,rfl,rfl⟩,fun hc=>by simp [ho,touches] at hc,pur1_in _ _ _ hp⟩
      ·split at h
       ·obtain ⟨_,h⟩:=bif_some h
        cases h
        exact ⟨fun _=>⟨rfl,rfl,rfl,rfl,rfl⟩,fun hc=>by simp [ho,touches] at hc,pur1_in _ _ _ hp⟩
       ·cases h
      ·split at h
       ·split at h
        ·cases h;exact shape_slot _ _ _
        ·cases h
       ·cases h
    ·cases h
   ·cases h
  ·cases h
 ·split at h
  ·split at h
   ·cases h
   ·split at h <;> first | (cases h;exact shape_slot _ _ _) | cases h
  ·cases h
 ·split at h
  ·split at h
   ·split at h
    ·split at h
     ·cases h;exact shape_slot _ _ _
     ·cases h
    ·split at h
     ·split at h
      ·cases h;exact shape_slot _ _ _
      ·cases h
     ·cases h
   ·cases h
  ·cases h
 ·split at h
  ·split at h
   ·split at h
    ·obtain ⟨_,h⟩:=bif_some h;cases h;exact shape_slot _ _ _
    ·cases h
   ·split at h
    ·split at h
     ·obtain ⟨_,h⟩:=bif_some h;cases h;exact shape_slot _ _ _
     ·cases h
    ·split at h
     ·obtain ⟨_,h⟩:=bif_some h;cases h;exact shape_slot _ _ _
     ·cases h
    ·cases h
   ·split at h
    ·split at h
     ·obtain ⟨_,h⟩:=bif_some h;cases h;exact shape_slot _ _ _
     ·cases h
    ·cases h
   ·split at h
    ·obtain ⟨_,h⟩:=bif_some h;cases h;exact shape_slot _ _ _
    ·cases h
   ·split at h
    ·obtain ⟨_,h⟩:=bif_some h;cases h;exact shape_slot _ _ _
    ·cases h
   ·cases h
  ·cases h
 ·split at h
  ·split at h
   ·obtain ⟨_,h⟩:=bif_some h;cases h;exact shape_slot _ _ _
   ·split at h
    ·cases h
    ·split at h
     ·obtain ⟨_,h⟩:=bif_some h;cases h;exact shape_slot _ _ _
     ·cases h
   ·cases h
  ·cases h
 ·split at h
  ·split at h
   ·cases h;exact shape_slot _ _ _
   ·cases h
  ·cases h
 ·rename_i t x ho
  split at h
  ·cases h;exact ⟨fun _=>⟨rfl,rfl,rfl,rfl,rfl⟩,fun hc=>by simp [ho,touches] at hc,fun id h=>by simp at h⟩
  ·cases h
 ·rename_i x ho
  split at h
  ·split at h
   ·rcases bif_cases h with h | h
    ·cases h;exact ⟨fun hc=>by simp [ho,changes] at hc,fun hc=>by simp [ho,touches] at hc,fun id h=>by simp at h⟩
    ·cases h;exact shape_slot _ _ _
   ·cases h
  ·cases h
 ·rename_i t x ho
  split at h
  ·split at h
   ·rename_i cs ids hp
    cases h
    exact ⟨fun _=>⟨rfl,rfl,rfl,rfl,rfl⟩,fun hc=>by simp [ho,touches] at hc,pur1_in _ _ _ hp⟩
   ·cases h
  ·cases h
 ·rename_i t l c ho
  split at h
  ·split at h
   ·obtain ⟨_,h⟩:=bif_some h;cases h;exact ⟨fun _=>⟨rfl,rfl,rfl,rfl,rfl⟩,fun hc=>by simp [ho,touches] at hc,fun id h=>by simp at h⟩
   ·cases h
  ·cases h
 ·rename_i t ho
  split at h
  ·cases h;exact ⟨fun _=>⟨rfl,rfl,rfl,rfl,rfl⟩,fun hc=>by simp [ho,touches] at hc,fun id h=>by simp at h⟩
  ·cases h
 ·rename_i t x k ok ho
  split at h
  ·split at h
   ·simp only [AV.force_eq] at h
    obtain ⟨_,h⟩:=bif_some h
    rcases bif_cases h with h | h
    ·cases ok <;> (cases h;exact shape_slot _ _ _)
    ·split at h
     ·cases ok <;> (cases h;exact shape_slot _ _ _)
     ·cases h
   ·cases h
  ·cases h
 ·rename_i t m k x ho
  split at h
  ·split at h
   ·split at h
    ·rename_i p hp
     split at h
     ·simp only [AV.force_eq] at h
      obtain ⟨_,h⟩:=bif_some h
      cases h
      exact ⟨fun hc=>by simp [ho,changes] at hc,fun hc=>by simp [ho,touches] at hc,pur1_in _ _ _ hp⟩
     ·cases h
    ·cases h
   ·cases h
  ·cases h
 ·rename_i t m k ho
  split at h
  ·split at h
   ·simp only [AV.force_eq] at h
    obtain ⟨_,h⟩:=bif_some h
    rcases bif_cases h with h | h
    ·cases h;exact ⟨fun hc=>by simp [ho,changes] at hc,fun hc=>by simp [ho,touches] at hc,fun id h=>by simp at h⟩
    ·split at h
     ·split at h
      ·cases h;exact ⟨fun hc=>by simp [ho,changes] at hc,fun hc=>by simp [ho,touches] at hc,fun id h=>by simp at h⟩
      ·cases h
     ·cases h
   ·cases h
  ·cases h
 ·rename_i t m s x ho
  split at h
  ·split at h
   ·rename_i p hp
    split at h
    ·simp only [AV.force_eq] at h
     obtain ⟨_,h⟩:=bif_some h
     cases h
     exact ⟨fun hc=>by simp [ho,changes] at hc,fun hc=>by simp [ho,touches] at hc,pur1_in _ _ _ hp⟩
    ·cases h
   ·cases h
  ·cases h
 ·rename_i b args ts ho
  rw [evBuiltin_eq] at h
  unfold evBuiltin0 at h
  split at h
  ·unfold evLen at h
   repeat' split at h
   all_goals first | (cases h;exact shape_slot _ _ _) | cases h
  ·split at h <;> first | (cases h;exact shape_slot _ _ _) | cases h
  ·split at h <;> first | (cases h;exact shape_slot _ _ _) | cases h
  ·repeat' split at h
   all_goals first | (cases h;exact shape_slot _ _ _) | cases h
  ·have hch : changes Γ o.op = true:=by rw [ho];rfl
   have hto : touches Γ o.op = true:=by rw [ho];rfl
   have hno : ∀ e : Eff,e.imm = [] → Shape Γ o rows e:=fun e he=>⟨fun hc=>absurd (hch.symm.trans hc) (by simp),fun hc=>absurd (hto.symm.trans hc) (by simp),fun id h=>by rw [he] at h;simp at h⟩
   repeat' split at h
   all_goals first | cases h | (obtain ⟨_,h⟩:=bif_some h;cases h;exact hno _ rfl)
  ·have hch : changes Γ o.op = true:=by rw [ho];rfl
   have hto : touches Γ o.op = true:=by rw [ho];rfl
   have hno : ∀ e : Eff,e.imm = [] → Shape Γ o rows e:=fun e he=>⟨fun hc=>absurd (hch.symm.trans hc) (by simp),fun hc=>absurd (hto.symm.trans hc) (by simp),fun id h=>by rw [he] at h;simp at h⟩
   repeat' split at h
   all_goals first | cases h | (obtain ⟨_,h⟩:=bif_some h;cases h;exact hno _ rfl)
  ·have hch : changes Γ o.op = true:=by rw [ho];rfl
   have hto : touches Γ o.op = true:=by rw [ho];rfl
   have hno : ∀ e : Eff,e.imm = [] → Shape Γ o rows e:=fun e he=>⟨fun hc=>absurd (hch.symm.trans hc) (by simp),fun hc=>absurd (hto.symm.trans hc) (by simp),fun id h=>by rw [he] at h;simp at h⟩
   repeat' split at h
   all_goals first | cases h | (obtain ⟨_,h⟩:=bif_some h;cases h;exact hno _ rfl)
  ·have hch : changes Γ o.op = true:=by rw [ho];rfl
   have hto : touches Γ o.op = true:=by rw [ho];rfl
   have hno : ∀ e : Eff,e.imm = [] → Shape Γ o rows e:=fun e he=>⟨fun hc=>absurd (hch.symm.trans hc) (by simp),fun hc=>absurd (hto.symm.trans hc) (by simp),fun id h=>by rw [he] at h;simp at h⟩
   split at h
   ·split at h
    ·cases h
    ·split at h
     ·split at h
      ·obtain ⟨_,h⟩:=bif_some h;cases h;exact hno _ rfl
      ·cases h
     ·split at h
      ·split at h
       ·obtain ⟨_,h⟩:=bif_some h;cases h;exact hno _ rfl
       ·cases h
      ·cases h
     ·cases h
   ·cases h
  ·cases h
 ·rename_i f args ts ho
  split at h
  ·rename_i g caps hfv
   split at h
   ·rename_i F hF
    have hch : changes Γ o.op = true:=by
     rw [ho]
     cases hcc : changes Γ (.call { callee:=.value f,args:=args,argTypes:=ts }) with
     | true=>rfl
     | false=>rw [xOf_none hcc hfv] at hF;cases hF
    have hto : touches Γ o.op = true:=by
     cases htt : touches Γ o.op with
     | true=>rfl
     | false=>rw [changes_touches htt] at hch;cases hch
    split at h
    ·refine ⟨fun hc=>absurd (hch.symm.trans hc) (by simp),fun hc=>absurd (hto.symm.trans hc) (by simp),?_⟩
     unfold evX at h
     split at h
     ·cases h
     ·rename_i p hp
      split at h
      ·cases h
      ·rename_i q hq
       split at h
       ·rw [hN.2.1 _ F (xOf_find hF) Eff] at h
        generalize F _ _ _ _ = x at h
        cases x with
        | none=>cases h
        | some x =>
         simp only [Option.bind_some] at h
         split at h
         ·cases h
          intro id hid
          simp only [List.mem_append] at hid
          rcases hid with hid | hid
          ·exact purL_in (rows:=rows) (opn1_in depth) _ _ hp id hid
          ·exact rowsAt_in _ _ hq id hid
         ·cases h
       ·cases h
    ·cases h
   split at h
   ·rename_i p hp
    split at h
    ·rename_i F hF
     split at h
     ·rw [hN.1 _ F hF Eff] at h
      generalize F AV (AV.nzs p.1) some = x at h
      cases x with
      | none=>cases h
      | some x =>
      cases h
      refine ⟨fun _=>⟨rfl,rfl,rfl,rfl,rfl⟩,fun hc=>?_,fun id hid=>?_⟩
      ·rw [ho] at hc
       cases f with
       | tmp t=>simp [touches] at hc
       | const t=>simp [touches] at hc
       | global t=>simp [touches] at hc
       | func g0 =>
        simp only [touches,Bool.or_eq_false_iff,Bool.not_eq_false'] at hc
        simp only [val,AV.fn.injEq] at hfv
        obtain ⟨rfl,rfl⟩:=hfv
        rw [List.append_nil] at hp
        have:=purL_nil depth _ (valsT_const tm ts.toList args.toList (by simpa using hc.2)) hp
        refine ⟨rfl,?_⟩
        show (if _ then _ else p.2) = []
        rw [this]
        split <;> rfl
      simp only at hid
      split at hid
      ·simp at hid
      ·exact purL_in (rows:=rows) (pur1_in depth) _ _ hp id hid
     ·cases h
    ·cases h
   ·cases h
  ·rename_i id0 hfv
   split at h
   ·rename_i key np F hF
    have hch : changes Γ o.op = true:=by
     rw [ho]
     cases hcc : changes Γ (.call { callee:=.value f,args:=args,argTypes:=ts }) with
     | true=>rfl
     | false=>rw [yld_none hcc hfv] at hF;cases hF
    have hto : touches Γ o.op = true:=by
     cases htt : touches Γ o.op with
     | true=>rfl
     | false=>rw [changes_touches htt] at hch;cases hch
    split at h
    ·split at h
     ·refine ⟨fun hc=>absurd (hch.symm.trans hc) (by simp),fun hc=>absurd (hto.symm.trans hc) (by simp),?_⟩
      unfold evX at h
      split at h
      ·cases h
      ·rename_i p hp
       split at h
       ·cases h
       ·rename_i q hq
        split at h
        ·rw [hN.2.2 _ _ F hF Eff] at h
         generalize F _ _ _ _ = x at h
         cases x with
         | none=>cases h
         | some x =>
          simp only [Option.bind_some] at h
          split at h
          ·cases h
           intro id hid
           simp only [List.mem_append] at hid
           rcases hid with hid | hid
           ·exact purL_in (rows:=rows) (opn1_in depth) _ _ hp id hid
           ·exact rowsAt_in _ _ hq id hid
          ·cases h
        ·cases h
     ·cases h
    ·cases h
   ·cases h
  ·cases h
 ·cases h
end shape
section steps
variable {P : Program} {Γ : Env} {rid : Nat} {ops : Array Oper} {tab : List (List Nat)}
def runAt (P : Program) (Γ : Env) (rid : Nat) (tab : List (List Nat)) (i : Nat) (o : Oper) (st : St) : Option St :=
 (evOp P Γ (rid * 64 + i) o st.tm (visible rid (tab.getD i []) st.rows) some).bind fun e=>if freshB (rid * 64 + i) e st.used then some (apply (rid * 64 + i) o.dst e st) else none
def skipAt (o : Oper) (st : St) : St:=⟨putTm st.tm o.dst .undef,st.rows,st.used⟩
def stepD (P : Program) (Γ : Env) (rid : Nat) (ops : Array Oper) (tab : List (List Nat)) (i : Nat) (st : St) : Option St :=
 match ops[i]? with
 | none=>some st
 | some o =>
  match o.guard with
  | none=>runAt P Γ rid tab i o st
  | some (j,want) =>
   match guardAt ops.toList st.tm j with
   | .bool b=>if b == want then runAt P Γ rid tab i o st else some (skipAt o st)
   | .undef=>some (skipAt o st)
   | _=>none
def runL (P : Program) (Γ : Env) (rid : Nat) (ops : Array Oper) (tab : List (List Nat)) : List Nat → St → Option St
 | [],st=>some st
 | i :: l,st=>(stepD P Γ rid ops tab i st).bind (runL P Γ rid ops tab l)
theorem evOps_runL (hN : NatOK Γ) {ρ : Type} {k : St → Option ρ} {r : ρ} : ∀ (l : List Oper) (i : Nat) (st : St),(∀ j,l[j]? = ops[i + j]?) → evOps P Γ rid ops.toList (some tab) k i l st = some r → ∃ st',runL P Γ rid ops tab (List.range' i l.length) st = some st' ∧ k st' = some r
 | [],i,st,_,h=>⟨st,rfl,h⟩
 | o :: rest,i,st,hl,h=>by
  have ho : ops[i]? = some o:=by have:=hl 0;simpa using this.symm
  have hl' : ∀ j,rest[j]? = ops[i + 1 + j]?:=fun j=>by have:=hl (j + 1);simpa [Nat.add_assoc,Nat.add_comm 1 j] using this
  have run : evOp P Γ (rid * 64 + i) o st.tm (visible rid (tab.getD i []) st.rows) (fun e=>if freshB (rid * 64 + i) e st.used then (apply (rid * 64 + i) o.dst e st).force fun st1=>decideAt ops.toList i o.dst st1 (evOps P Γ rid ops.toList (some tab) k (i + 1) rest) else none) = some r →
    ∃ s1,runAt P Γ rid tab i o st = some s1 ∧ ∃ st',runL P Γ rid ops tab (List.range' (i + 1) rest.length) s1 = some st' ∧ k st' = some r:=fun hr=>by
   rw [evOp_bind hN] at hr
   cases he : evOp P Γ (rid * 64 + i) o st.tm (visible rid (tab.getD i []) st.rows) some with
   | none=>rw [he] at hr;cases hr
   | some e =>
    simp only [he,Option.bind_some] at hr
    by_cases hf : freshB (rid * 64 + i) e st.used = true
    ·simp only [hf,if_true,St.force_eq] at hr
     exact ⟨_,by simp only [runAt,he,Option.bind_some,hf,if_true],evOps_runL hN rest (i + 1) _ hl' (decideAt_eq hr)⟩
    ·simp [hf] at hr
  simp only [evOps] at h
  simp only [List.length_cons,List.range'_succ,runL,stepD,ho]
  split at h
  ·rename_i hg
   obtain ⟨s1,h1,h2⟩:=run h
   simp only [hg,h1,Option.bind_some]
   exact h2
  ·rename_i j want hg
   split at h
   ·rename_i b hb
    cases hbw : (b == want) with
    | true =>
     simp only [hbw,cond_true] at h
     obtain ⟨s1,h1,h2⟩:=run h
     simp only [hg,hb,hbw,if_true,h1,Option.bind_some]
     exact h2
    | false =>
     simp only [hbw,cond_false] at h
     simp only [hg,hb,hbw]
     exact evOps_runL hN rest (i + 1) _ hl' h
   ·rename_i hb
    simp only [hg,hb,Option.bind_some]
    exact evOps_runL hN rest (i + 1) _ hl' h
   ·cases h
structure Eqv (s t : St) : Prop where
 tm : s.tm = t.tm
 rows : ∀ id,lookup s.rows id = lookup t.rows id
 used : ∀ id,id ∈ s.used ↔ id ∈ t.used
theorem Eqv.refl (s : St) : Eqv s s:=⟨rfl,fun _=>rfl,fun _=>Iff.rfl⟩
theorem Eqv.symm {s t : St} (h : Eqv s t) : Eqv t s:=⟨h.tm.symm,fun i=>(h.rows i).symm,fun i=>(h.used i).symm⟩
theorem Eqv.trans {s t u : St} (h : Eqv s t) (h' : Eqv t u) : Eqv s u:=⟨h.tm.trans h'.tm,fun i=>(h.rows i).trans (h'.rows i),fun i=>(h.used i).trans (h'.used i)⟩
theorem RelX.eqv {w0 : World} {S0 : Nat → Prop} {B : Ctx} {s t : St} {a : Act} {w : World} (h : RelX w0 S0 B s a w) (e : Eqv s t) : RelX w0 S0 B t a w:=by
 obtain ⟨S,β,og,hR,hO⟩:=h
 exact ⟨S,β,og,⟨e.tm ▸ hR.tm,hR.df,fun id r hr=>hR.row id r ((e.rows id).trans hr),hR.inj,hR.lt,fun id x hx=>(e.used id).1 (hR.used id x hx),hR.one,hR.Slt,hR.Ble,hR.pid⟩,hO⟩
theorem lookup_visible (rid : Nat) (bef : List Nat) (rows : List (Nat × Row)) (id : Nat) : lookup (visible rid bef rows) id = if !ofReg rid id || bef.contains (id % 64) then lookup rows id else none:=by
 induction rows with
 | nil=>simp [visible,lookup]
 | cons x rest ih =>
  obtain ⟨i,r⟩:=x
  simp only [visible]
  by_cases hv : (!ofReg rid i || bef.contains (i % 64)) = true
  ·rw [if_pos hv]
   simp only [lookup]
   by_cases e : i = id
   ·subst e;rw [if_pos rfl,if_pos hv,if_pos rfl]
   ·rw [if_neg e,if_neg e,ih]
  ·rw [if_neg hv]
   simp only [lookup]
   by_cases e : i = id
   ·subst e;rw [if_neg hv] at ih;rw [ih,if_neg hv]
   ·rw [if_neg e,ih]
def frz (ids : List Nat) (id : Nat) (r : Row) : Row:=if ids.contains id then r.freeze else r
theorem freeze_freeze (r : Row) : r.freeze.freeze = r.freeze:=by cases r <;> rfl
theorem foldl_set_look : ∀ (l : List (Nat × Row)) {a b : List (Nat × Row)},(∀ id,lookup a id = lookup b id) → ∀ id,lookup (l.foldl (fun rs p=>setRow rs p.1 p.2) a) id = lookup (l.foldl (fun rs p=>setRow rs p.1 p.2) b) id
 | [],_,_,h,id=>h id
 | (i,r) :: l,_,_,h,id=>foldl_set_look l (fun k=>by simp only [lookup_setRow,h]) id
theorem foldl_del_look : ∀ (l : List Nat) {a b : List (Nat × Row)},(∀ id,lookup a id = lookup b id) → ∀ id,lookup (l.foldl delRow a) id = lookup (l.foldl delRow b) id
 | [],_,_,h,id=>h id
 | i :: l,_,_,h,id=>foldl_del_look l (fun k=>by simp only [lookup_delRow,h]) id
theorem lookup_apply (site : Nat) (e : Eff) (h1 : e.dels = []) (h2 : e.mods = []) (h3 : e.news = []) (rows : List (Nat × Row)) (id : Nat) : lookup (applyRows site e rows) id =
  match e.new with
  | some r=>if id = site then some r else (match e.mod with | some p=>if id = p.1 then some p.2 else (match e.del with | some d=>if id = d then none else lookup rows id | none=>lookup rows id) | none=>(match e.del with | some d=>if id = d then none else lookup rows id | none=>lookup rows id)).map (frz e.imm id)
  | none=>(match e.mod with | some p=>if id = p.1 then some p.2 else (match e.del with | some d=>if id = d then none else lookup rows id | none=>lookup rows id) | none=>(match e.del with | some d=>if id = d then none else lookup rows id | none=>lookup rows id)).map (frz e.imm id):=by
 have hnil : ∀ x : Option Row,x.map (frz [] id) = x:=fun x=>by cases x <;> rfl
 have hcons : ∀ (i : Nat) (is : List Nat) (rs : List (Nat × Row)),lookup (setImm (i :: is) rs) id = (lookup rs id).map (frz (i :: is) id):=fun i is rs=>by rw [lookup_setImm];rfl
 unfold applyRows
 rw [h1,h2,h3]
 cases hn : e.new <;> cases hm : e.mod <;> cases hd : e.del <;> cases hi : e.imm <;> simp only [List.foldl_nil,lookup_setRow,hcons,hnil,lookup_delRow]
theorem applyRows_look (site : Nat) (e : Eff) {a b : List (Nat × Row)} (h : ∀ id,lookup a id = lookup b id) : ∀ id,lookup (applyRows site e a) id = lookup (applyRows site e b) id:=by
 unfold applyRows
 refine foldl_set_look _ (foldl_set_look _ (foldl_del_look _ fun id=>?_))
 cases e.new <;> cases e.mod <;> cases e.del <;> cases e.imm <;> simp only [lookup_setRow,lookup_setImm,lookup_delRow,h]
theorem apply_eqv {s t : St} (h : Eqv s t) (site : Nat) (dst : Option Tmp) (e : Eff) : Eqv (apply site dst e s) (apply site dst e t):=by
 refine ⟨by simp only [apply,h.tm],applyRows_look site e h.rows,fun id=>?_⟩
 simp only [apply,List.mem_append]
 cases e.new with
 | none=>simp only [h.used id]
 | some r=>simp only [List.mem_cons,h.used id]
theorem fresh_eqv {s t : St} (h : Eqv s t) (site : Nat) (e : Eff) : freshB site e s.used = freshB site e t.used:=by
 have hc : ∀ i,s.used.contains i = t.used.contains i:=fun i=>by
  rw [Bool.eq_iff_iff]
  simpa using h.used i
 unfold freshB
 simp only [hc]
theorem runAt_eqv {s t s' : St} (h : Eqv s t) {i : Nat} {o : Oper} (hr : runAt P Γ rid tab i o s = some s') : ∃ t',runAt P Γ rid tab i o t = some t' ∧ Eqv s' t':=by
 unfold runAt at hr ⊢
 have hev : evOp P Γ (rid * 64 + i) o t.tm (visible rid (tab.getD i []) t.rows) some = evOp P Γ (rid * 64 + i) o s.tm (visible rid (tab.getD i []) s.rows) some:=by
  rw [← h.tm]
  exact evOp_look (fun id=>by rw [lookup_visible,lookup_visible,h.rows id]) o s.tm some
 rw [hev]
 cases he : evOp P Γ (rid * 64 + i) o s.tm (visible rid (tab.getD i []) s.rows) some with
 | none=>rw [he] at hr;cases hr
 | some e =>
  simp only [he,Option.bind_some] at hr ⊢
  rw [← fresh_eqv h]
  split at hr
  ·rename_i hf
   cases hr
   exact ⟨_,by rw [if_pos hf],apply_eqv h _ _ _⟩
  ·cases hr
theorem skip_eqv {s t : St} (h : Eqv s t) (o : Oper) : Eqv (skipAt o s) (skipAt o t):=⟨by simp only [skipAt,h.tm],h.rows,h.used⟩
theorem stepD_eqv {s t s' : St} (h : Eqv s t) {i : Nat} (hr : stepD P Γ rid ops tab i s = some s') : ∃ t',stepD P Γ rid ops tab i t = some t' ∧ Eqv s' t':=by
 unfold stepD at hr ⊢
 split at hr
 ·cases hr;exact ⟨t,rfl,h⟩
 ·rename_i o ho
  split at hr
  ·rename_i hg
   obtain ⟨t',h1,h2⟩:=runAt_eqv h hr
   exact ⟨t',h1,h2⟩
  ·rename_i j want hg
   rw [h.tm] at hr
   split at hr
   ·rename_i b hb
    split at hr
    ·rename_i hbw
     obtain ⟨t',h1,h2⟩:=runAt_eqv h hr
     exact ⟨t',by simp only [hbw,if_true];exact h1,h2⟩
    ·rename_i hbw
     cases hr
     exact ⟨_,by simp only [hbw];rfl,skip_eqv h o⟩
   ·cases hr;exact ⟨_,rfl,skip_eqv h o⟩
   ·cases hr
theorem runL_eqv : ∀ (l : List Nat) {s t s' : St},Eqv s t → runL P Γ rid ops tab l s = some s' → ∃ t',runL P Γ rid ops tab l t = some t' ∧ Eqv s' t'
 | [],s,t,s',h,hr=>by simp [runL] at hr;subst hr;exact ⟨t,rfl,h⟩
 | i :: l,s,t,s',h,hr=>by
  simp only [runL] at hr ⊢
  cases h1 : stepD P Γ rid ops tab i s with
  | none=>simp [h1] at hr
  | some s1 =>
   simp only [h1,Option.bind_some] at hr
   obtain ⟨t1,h2,h3⟩:=stepD_eqv h h1
   obtain ⟨t',h4,h5⟩:=runL_eqv l h3 hr
   exact ⟨t',by rw [h2,Option.bind_some];exact h4,h5⟩
end steps
end Go.Ev

namespace Go.Ev
open Go.RowKit
section swap
variable {P : Program} {Γ : Env} {rid : Nat} {ops : Array Oper} {tab : List (List Nat)}
def eD (P : Program) (Γ : Env) (rid : Nat) (ops : Array Oper) (tab : List (List Nat)) (i : Nat) (o : Oper) (tm : List AV) (rows : List (Nat × Row)) : Option Eff :=
 match o.guard with
 | none=>evOp P Γ (rid * 64 + i) o tm (visible rid (tab.getD i []) rows) some
 | some (j,want) =>
  match guardAt ops.toList tm j with
  | .bool b=>if b == want then evOp P Γ (rid * 64 + i) o tm (visible rid (tab.getD i []) rows) some else some { v:=.undef }
  | .undef=>some { v:=.undef }
  | _=>none
theorem stepD_eq {i : Nat} {o : Oper} (ho : ops[i]? = some o) (st : St) : stepD P Γ rid ops tab i st = (eD P Γ rid ops tab i o st.tm st.rows).bind fun e=>if freshB (rid * 64 + i) e st.used then some (apply (rid * 64 + i) o.dst e st) else none:=by
 unfold stepD eD
 simp only [ho]
 cases hg : o.guard with
 | none=>rfl
 | some p =>
  obtain ⟨j,want⟩:=p
  simp only
  cases hga : guardAt ops.toList st.tm j <;> simp only [Option.bind_none,Option.bind_some]
  all_goals first | rfl | skip
  ·split <;> rfl
theorem eD_shape (hN : NatOK Γ) {i : Nat} {o : Oper} {tm : List AV} {rows : List (Nat × Row)} {e : Eff} (h : eD P Γ rid ops tab i o tm rows = some e) : Shape Γ o (visible rid (tab.getD i []) rows) e:=by
 unfold eD at h
 split at h
 ·exact eff_shape hN h
 ·split at h
  ·split at h
   ·exact eff_shape hN h
   ·cases h;exact shape_slot _ _ _
  ·cases h;exact shape_slot _ _ _
  ·cases h
theorem getD_put {tm : List AV} {dst : Option Tmp} {v : AV} {d : Nat} (h : dst ≠ some d) : (putTm tm dst v).getD d .unk = tm.getD d .unk:=by
 cases dst with
 | none=>rfl
 | some d' =>
  have hne : d' ≠ d:=fun e=>h (by rw [e])
  simp only [putTm,List.getD,List.getElem?_set_ne hne]
theorem fixed_ne {t i : Nat} {o : Oper} (h : fixedB ops t = true) (ho : ops[i]? = some o) : o.dst ≠ some t:=fun hd=>by
 unfold fixedB at h
 have:=List.all_eq_true.1 h o (by simpa using Array.mem_of_getElem? ho)
 rw [hd] at this
 simp at this
def LoadAt (ops : Array Oper) (tm0 : List AV) (o : Oper) (i : Nat) : Prop:=∃ ty s off,o.op = .load ty (.tmp s) ∧ fixedB ops s = true ∧ tm0.getD s .unk = .ptr i off
def StoreAt (ops : Array Oper) (tm0 : List AV) (o : Oper) (j : Nat) : Prop:=∃ ty t z off,o.op = .store ty (.tmp t) z ∧ fixedB ops t = true ∧ tm0.getD t .unk = .ptr j off
def LocV (rid : Nat) (bef : List Nat) (v : AV) : Prop:=uxB v = true ∨ (∃ s,v = .slz s) ∨ ∃ k,k < 64 ∧ k ∉ bef ∧ v = .own (rid * 64 + k)
structure Fx (rid : Nat) (ops : Array Oper) (tm0 tm : List AV) : Prop where
 fx : ∀ t,fixedB ops t = true → tm.getD t .unk = tm0.getD t .unk
 bx : ∀ s,boxB ops tm0 s = true → bxB (tm.getD s .unk) = true
 lc : ∀ bef s,locB ops tm0 bef s = true → LocV rid bef (tm.getD s .unk)
def BoxAt (ops : Array Oper) (tm0 : List AV) (o : Oper) : Prop:=∃ ty s,o.op = .load ty (.tmp s) ∧ boxB ops tm0 s = true
def AppAt (o : Oper) : Prop:=∃ args ts,o.op = .call { callee:=.builtin .append,args:=args,argTypes:=ts }
def Quiet (Γ : Env) (ops : Array Oper) (tm0 : List AV) (x y : Oper) : Prop:=touches Γ y.op = false ∨ (∃ i j,i ≠ j ∧ LoadAt ops tm0 y i ∧ StoreAt ops tm0 x j) ∨ (BoxAt ops tm0 y ∧ AppAt x)
theorem load_eff {site : Nat} {o : Oper} {ty : TypeId} {a : Operand} {tm : List AV} {rows : List (Nat × Row)} {e : Eff} (ho : o.op = .load ty a) (h : evOp P Γ site o tm rows some = some e) : e.new = none ∧ e.imm = []:=by
 have key : ∀ cs,evLoad P ty cs (fun v=>some ({ v } : Eff)) = some e → e.new = none ∧ e.imm = []:=fun cs h=>by
  rw [evLoad_bind] at h
  cases hl : evLoad P ty cs some with
  | none=>simp [hl] at h
  | some v=>simp [hl] at h;subst h;exact ⟨rfl,rfl⟩
 unfold evOp at h
 simp only [ho] at h
 split at h
 ·split at h
  ·exact key _ h
  ·cases h
 ·exact key _ h
 ·exact key _ h
 ·split at h
  ·obtain ⟨_,h⟩:=bif_some h
   exact key _ h
  ·rcases bif_cases h with h | h
   ·exact key _ h
   ·split at h
    ·cases h
    rcases bif_cases h with h | h
    ·exact key _ h
    ·obtain ⟨_,h⟩:=bif_some h
     exact key _ h
  ·cases h
 ·cases h
theorem load_dep {site : Nat} {o : Oper} {ty : TypeId} {s i off : Nat} {tm : List AV} {rows rows' : List (Nat × Row)} {ρ : Type} {y : Eff → Option ρ} (ho : o.op = .load ty (.tmp s)) (hv : tm.getD s .unk = .ptr i off) (hl : lookup rows i = lookup rows' i) : evOp P Γ site o tm rows y = evOp P Γ site o tm rows' y:=by
 unfold evOp
 simp only [ho,val,hv,hl]
theorem load_box {site : Nat} {o : Oper} {ty : TypeId} {s i off : Nat} {tm : List AV} {rows rows' : List (Nat × Row)} {ρ : Type} {y : Eff → Option ρ} (ho : o.op = .load ty (.tmp s)) (hv : tm.getD s .unk = .ptr i off) (hl : ∀ b cs,lookup rows i = some (.box b cs) ↔ lookup rows' i = some (.box b cs)) : evOp P Γ site o tm rows y = evOp P Γ site o tm rows' y:=by
 unfold evOp
 simp only [ho,val,hv]
 cases h1 : lookup rows i with
 | none =>
  cases h2 : lookup rows' i with
  | none=>rfl
  | some r'=>cases r' with
   | box b cs=>rw [(hl b cs).2 h2] at h1;cases h1
   | _=>rfl
 | some r=>cases r with
  | box b cs=>rw [(hl b cs).1 h1]
  | _=>cases h2 : lookup rows' i with
   | none=>rfl
   | some r'=>cases r' with
    | box b cs=>rw [(hl b cs).2 h2] at h1;cases h1
    | _=>rfl
theorem app_eff {site : Nat} {o : Oper} {args : Array Operand} {ts : Array TypeId} {tm : List AV} {rows : List (Nat × Row)} {e : Eff} (ho : o.op = .call { callee:=.builtin .append,args:=args,argTypes:=ts }) (h : evOp P Γ site o tm rows some = some e) :
  e.mod = none ∧ e.imm = [] ∧ e.dels = [] ∧ e.mods = [] ∧ e.news = [] ∧ ∀ id,e.del = some id → ∃ b s e' es sp,lookup rows id = some (.arr b s e' es sp):=by
 unfold evOp at h
 simp only [ho] at h
 rw [evBuiltin_eq] at h
 unfold evBuiltin0 at h
 repeat' split at h
 all_goals first
  | contradiction
  | cases h;done
  | (rcases bif_cases h with h | h <;> first
    | cases h;done
    | (cases h;refine ⟨rfl,rfl,rfl,rfl,rfl,fun id hd=>?_⟩;first | cases hd;done | (cases hd;exact ⟨_,_,_,_,_,by assumption⟩)))
theorem store_eff {site : Nat} {o : Oper} {ty : TypeId} {t j off : Nat} {z : Operand} {tm : List AV} {rows : List (Nat × Row)} {e : Eff} (ho : o.op = .store ty (.tmp t) z) (hv : tm.getD t .unk = .ptr j off) (h : evOp P Γ site o tm rows some = some e) : e.new = none ∧ e.imm = [] ∧ e.del = none ∧ e.dels = [] ∧ e.mods = [] ∧ e.news = [] ∧ ∃ r,e.mod = some (j,r):=by
 unfold evOp at h
 simp only [ho,val,hv] at h
 split at h
 ·split at h
  ·split at h
   ·cases h;exact ⟨rfl,rfl,rfl,rfl,rfl,rfl,_,rfl⟩
   ·cases h
  ·cases h
 ·cases h
theorem eD_cases {i : Nat} {o : Oper} {tm : List AV} {rows : List (Nat × Row)} {e : Eff} (h : eD P Γ rid ops tab i o tm rows = some e) : evOp P Γ (rid * 64 + i) o tm (visible rid (tab.getD i []) rows) some = some e ∨ e = { v:=.undef }:=by
 unfold eD at h
 split at h
 ·exact .inl h
 ·split at h
  ·split at h
   ·exact .inl h
   ·cases h;exact .inr rfl
  ·cases h;exact .inr rfl
  ·cases h
theorem quiet_pure (hN : NatOK Γ) {i : Nat} {x y : Oper} {tm0 tm : List AV} {rows : List (Nat × Row)} {f : Eff} (hq : Quiet Γ ops tm0 x y) (h : eD P Γ rid ops tab i y tm rows = some f) : changes Γ y.op = false ∧ f.new = none ∧ f.imm = []:=by
 rcases hq with hq | ⟨_,_,_,⟨ty,s,off,ho,_,_⟩,_⟩ | ⟨⟨ty,s,ho,_⟩,_⟩
 ·exact ⟨changes_touches hq,(eD_shape hN h).2.1 hq⟩
 ·refine ⟨by rw [ho];rfl,?_⟩
  rcases eD_cases h with h | rfl
  ·exact load_eff ho h
  ·exact ⟨rfl,rfl⟩
 ·refine ⟨by rw [ho];rfl,?_⟩
  rcases eD_cases h with h | rfl
  ·exact load_eff ho h
  ·exact ⟨rfl,rfl⟩
theorem store_look {i : Nat} {x : Oper} {tm0 tm : List AV} {rows : List (Nat × Row)} {e : Eff} {j id : Nat} (hfx : Fx rid ops tm0 tm) (hs : StoreAt ops tm0 x j) (h : eD P Γ rid ops tab i x tm rows = some e) (hne : id ≠ j) (rows' : List (Nat × Row)) : lookup (applyRows (rid * 64 + i) e rows') id = lookup rows' id:=by
 obtain ⟨ty,t,z,off,ho,hf,hv⟩:=hs
 have hnil : ∀ x : Option Row,x.map (frz [] id) = x:=fun x=>by cases x <;> rfl
 rcases eD_cases h with h | rfl
 ·obtain ⟨h1,h2,h3,h4,h5,h6,r,h7⟩:=store_eff ho (by rw [hfx.fx t hf];exact hv) h
  rw [lookup_apply _ _ h4 h5 h6,h1,h2,h3,h7]
  simp only [if_neg hne]
  exact hnil _
 ·rw [lookup_apply _ _ rfl rfl rfl]
  exact hnil _
theorem mk_eff {site : Nat} {o : Oper} {tm : List AV} {rows : List (Nat × Row)} {e : Eff} (hm : mkB o.op = true) (h : evOp P Γ site o tm rows some = some e) : (∃ s,e.v = .slz s) ∨ e.v = .own site:=by
 unfold mkB at hm
 unfold evOp at h
 split at hm
 ·rename_i ho
  simp only [ho] at h
  repeat' split at h
  all_goals first
   | (cases h;done)
   | (cases h;exact .inl ⟨_,rfl⟩)
   | (cases h;exact .inr rfl)
 ·rename_i ho
  simp only [ho] at h
  repeat' split at h
  all_goals first
   | (cases h;done)
   | (obtain ⟨_,h⟩:=bif_some h;cases h;exact .inr rfl)
 ·rename_i ho
  simp only [ho] at h
  rw [evBuiltin_eq] at h
  unfold evBuiltin0 at h
  repeat' split at h
  all_goals first
   | contradiction
   | (cases h;done)
   | (obtain ⟨_,h⟩:=bif_some h;cases h;exact .inr rfl)
 ·cases hm
theorem locs_at {bef : List Nat} {s : Nat} : ∀ (os : List Oper) (i j : Nat) (o : Oper),locs bef s i os = true → os[j]? = some o → o.dst = some s → mkB o.op = true ∧ i + j ∉ bef
 | [],_,_,_,_,h,_=>by simp at h
 | o' :: os,i,0,o,h,ho,hd=>by
  simp only [List.getElem?_cons_zero,Option.some.injEq] at ho
  subst ho
  unfold locs at h
  rw [hd] at h
  simp only [Bool.and_eq_true,Bool.or_eq_true,Bool.not_eq_true',beq_eq_false_iff_ne,ne_eq,not_true_eq_false,false_or] at h
  exact ⟨h.1.1,by simpa using h.1.2⟩
 | o' :: os,i,j + 1,o,h,ho,hd=>by
  unfold locs at h
  simp only [Bool.and_eq_true] at h
  have:=locs_at os (i + 1) j o h.2 (by simpa using ho) hd
  rw [show i + (j + 1) = i + 1 + j by omega]
  exact this
theorem stepD_fx {i : Nat} (hi : i < 64) {tm0 : List AV} {st s : St} (hfx : Fx rid ops tm0 st.tm) (h : stepD P Γ rid ops tab i st = some s) : Fx rid ops tm0 s.tm:=by
 cases ho : ops[i]? with
 | none=>unfold stepD at h;simp only [ho] at h;cases h;exact hfx
 | some o =>
  rw [stepD_eq ho] at h
  cases he : eD P Γ rid ops tab i o st.tm st.rows with
  | none=>rw [he] at h;cases h
  | some e =>
   simp only [he,Option.bind_some] at h
   split at h
   ·cases h
    refine ⟨fun t ht=>?_,fun s hs=>?_,fun bef s hs=>?_⟩
    ·show (putTm st.tm o.dst e.v).getD t .unk = _
     rw [getD_put (fixed_ne ht ho)]
     exact hfx.fx t ht
    ·show bxB ((putTm st.tm o.dst e.v).getD s .unk) = true
     by_cases hd : o.dst = some s
     ·have hb:=hs
      unfold boxB at hb
      simp only [Bool.and_eq_true] at hb
      have h2:=List.all_eq_true.1 hb.2 o (by simpa using Array.mem_of_getElem? ho)
      rw [hd] at h2
      simp only [beq_self_eq_true,Bool.not_true,Bool.false_or] at h2
      have hbv : bxB e.v = true:=by
       split at h2
       ·rename_i ty x f hop
        simp only [Bool.and_eq_true] at h2
        obtain ⟨hf,hp⟩:=h2
        rw [← hfx.fx x hf] at hp
        rcases eD_cases he with h | rfl
        ·unfold evOp at h
         simp only [hop,val] at h
         split at h
         ·split at h
          ·cases h
          ·split at h
           ·cases h;rfl
           ·rename_i hv;rw [hv] at hp;cases hp
           ·rename_i hv;rw [hv] at hp;cases hp
           ·rename_i hv;rw [hv] at hp;cases hp
           ·cases h
         ·cases h
        ·rfl
       ·cases h2
      rw [hd]
      by_cases hlt : s < st.tm.length
      ·have : (putTm st.tm (some s) e.v).getD s .unk = e.v:=by
        simp only [putTm,List.getD,List.getElem?_set_self hlt,Option.getD_some]
       rw [this];exact hbv
      ·have : (putTm st.tm (some s) e.v).getD s .unk = .unk:=by
        simp only [putTm,List.getD]
        rw [List.getElem?_eq_none (by rw [List.length_set];omega)]
        rfl
       rw [this];rfl
     ·rw [getD_put hd]
      exact hfx.bx s hs
    ·show LocV rid bef ((putTm st.tm o.dst e.v).getD s .unk)
     by_cases hd : o.dst = some s
     ·have hb:=hs
      unfold locB at hb
      simp only [Bool.and_eq_true] at hb
      obtain ⟨hmk,hnb⟩:=locs_at ops.toList 0 i o hb.2 (by simpa using ho) hd
      rw [Nat.zero_add] at hnb
      have hev : LocV rid bef e.v:=by
       rcases eD_cases he with h | rfl
       ·rcases mk_eff hmk h with h | h
        ·exact .inr (.inl h)
        ·exact .inr (.inr ⟨i,hi,hnb,h⟩)
       ·exact .inl rfl
      rw [hd]
      by_cases hlt : s < st.tm.length
      ·have : (putTm st.tm (some s) e.v).getD s .unk = e.v:=by
        simp only [putTm,List.getD,List.getElem?_set_self hlt,Option.getD_some]
       rw [this];exact hev
      ·have : (putTm st.tm (some s) e.v).getD s .unk = .unk:=by
        simp only [putTm,List.getD]
        rw [List.getElem?_eq_none (by rw [List.length_set];omega)]
        rfl
       rw [this];exact .inl rfl
     ·rw [getD_put hd]
      exact hfx.lc bef s hs
   ·cases h
inductive Kind (Γ : Env) (ops : Array Oper) (tab : List (List Nat)) (tm0 : List AV) (i j : Nat) (x y : Oper) : Prop where
 | old (c1 : changes Γ x.op = true → Quiet Γ ops tm0 x y) (c2 : changes Γ y.op = true → Quiet Γ ops tm0 y x)
 | loc (c1 : changes Γ x.op = true → locOp ops tm0 (tab.getD j []) x.op = true) (c2 : changes Γ y.op = true → locOp ops tm0 (tab.getD i []) y.op = true)
 | made1 (h1 : madeB y.op = true) (h2 : simB x.op = true)
 | made2 (h1 : madeB x.op = true) (h2 : simB y.op = true)
theorem Kind.symm {tm0 : List AV} {i j : Nat} {x y : Oper} (h : Kind Γ ops tab tm0 i j x y) : Kind Γ ops tab tm0 j i y x:=by
 cases h with
 | old c1 c2=>exact .old c2 c1
 | loc c1 c2=>exact .loc c2 c1
 | made1 h1 h2=>exact .made2 h1 h2
 | made2 h1 h2=>exact .made1 h1 h2
structure Indep (Γ : Env) (rid : Nat) (ops : Array Oper) (tab : List (List Nat)) (tm0 : List AV) (i j : Nat) (x y : Oper) : Prop where
 ne : i ≠ j
 ilt : i < 64
 jlt : j < 64
 nij : i ∉ tab.getD j []
 nji : j ∉ tab.getD i []
 xy : ∀ d,x.dst = some d → d ∉ y.looksAt ops
 yx : ∀ d,y.dst = some d → d ∉ x.looksAt ops
 dd : ∀ d,x.dst = some d → y.dst ≠ some d
 kind : Kind Γ ops tab tm0 i j x y
 rlt : rid < 67108864
theorem Indep.symm {tm0 : List AV} {i j : Nat} {x y : Oper} (h : Indep Γ rid ops tab tm0 i j x y) : Indep Γ rid ops tab tm0 j i y x :=
 ⟨h.ne.symm,h.jlt,h.ilt,h.nji,h.nij,h.yx,h.xy,fun d hd hx=>h.dd d hx hd,h.kind.symm,h.rlt⟩
theorem ofReg_site {rid i : Nat} (hr : rid < 67108864) (hi : i < 64) : ofReg rid (rid * 64 + i) = true:=by
 have h1 : (rid * 64 + i) % 4294967296 / 64 = rid:=by omega
 have h2 : rid * 64 + i < PID:=by show rid * 64 + i < 1125899906842624;omega
 unfold ofReg
 rw [h1]
 simp [Nat.blt_eq,h2]
theorem vis_core {i j : Nat} {e : Eff} {rows : List (Nat × Row)} (hr : rid < 67108864) (hi : i < 64) (hn : i ∉ tab.getD j []) (hs : e.mod = none ∧ e.del = none ∧ e.dels = [] ∧ e.mods = [] ∧ e.news = []) :
  coreEq (visible rid (tab.getD j []) (applyRows (rid * 64 + i) e rows)) (visible rid (tab.getD j []) rows):=by
 obtain ⟨hm,hd,e1,e2,e3⟩:=hs
 intro id
 rw [lookup_visible,lookup_visible]
 split
 ·rename_i hv
  have hne : id ≠ rid * 64 + i:=by
   rintro rfl
   have h2 : (rid * 64 + i) % 64 = i:=by omega
   rw [ofReg_site hr hi,h2] at hv
   simp at hv
   exact hn (by simpa using hv)
  rw [lookup_apply _ _ e1 e2 e3]
  have hfz : ∀ x : Option Row,(x.map (frz e.imm id)).map Row.core = x.map Row.core:=fun x=>by
   cases x with
   | none=>rfl
   | some r =>
    simp only [Option.map_some,Option.some.injEq,frz]
    split
    ·exact freeze_freeze r
    ·rfl
  cases e.new with
  | none=>simp only [hm,hd];exact hfz _
  | some r=>simp only [hm,hd,if_neg hne];exact hfz _
 ·rfl
theorem apply_pure {site : Nat} {e : Eff} {rows : List (Nat × Row)} (hs : e.mod = none ∧ e.del = none ∧ e.dels = [] ∧ e.mods = [] ∧ e.news = []) (hn : e.new = none ∧ e.imm = []) (id : Nat) : lookup (applyRows site e rows) id = lookup rows id:=by
 obtain ⟨hm,hd,e1,e2,e3⟩:=hs
 obtain ⟨hn,hi⟩:=hn
 rw [lookup_apply _ _ e1 e2 e3]
 simp only [hn,hm,hd,hi]
 cases lookup rows id <;> rfl
theorem app_look {i j : Nat} {x : Oper} {e : Eff} {tm : List AV} {rows : List (Nat × Row)} (hr : rid < 67108864) (hi : i < 64) (hn : i ∉ tab.getD j []) (ha : AppAt x) (hee : eD P Γ rid ops tab i x tm rows = some e) (id : Nat) (b : Bool) (cs : List AV) :
  lookup (visible rid (tab.getD j []) (applyRows (rid * 64 + i) e rows)) id = some (.box b cs) ↔ lookup (visible rid (tab.getD j []) rows) id = some (.box b cs):=by
 obtain ⟨args,ts,ho⟩:=ha
 have key : e.mod = none ∧ e.imm = [] ∧ e.dels = [] ∧ e.mods = [] ∧ e.news = [] ∧ ∀ id,e.del = some id → ∃ b s e' es sp,lookup rows id = some (.arr b s e' es sp):=by
  rcases eD_cases hee with h | rfl
  ·obtain ⟨h1,h2,h3,h4,h5,h6⟩:=app_eff ho h
   refine ⟨h1,h2,h3,h4,h5,fun id hd=>?_⟩
   obtain ⟨b,s,e',es,sp,hl⟩:=h6 id hd
   rw [lookup_visible] at hl
   split at hl
   ·exact ⟨b,s,e',es,sp,hl⟩
   ·cases hl
  ·exact ⟨rfl,rfl,rfl,rfl,rfl,fun id hd=>by cases hd⟩
 obtain ⟨hm,him,e1,e2,e3,hdel⟩:=key
 rw [lookup_visible,lookup_visible]
 split
 ·rename_i hv
  have hne : id ≠ rid * 64 + i:=by
   rintro rfl
   have h2 : (rid * 64 + i) % 64 = i:=by omega
   rw [ofReg_site hr hi,h2] at hv
   simp at hv
   exact hn (by simpa using hv)
  rw [lookup_apply _ _ e1 e2 e3,him]
  have hnil : ∀ x : Option Row,x.map (frz [] id) = x:=fun x=>by cases x <;> rfl
  rw [hnil]
  cases hd : e.del with
  | none=>cases e.new <;> simp only [hm,if_neg hne]
  | some d =>
   by_cases hid : id = d
   ·subst hid
    obtain ⟨b',s',e',es,sp,hl⟩:=hdel id hd
    cases e.new <;> simp [hm,hne,hl]
   ·cases e.new <;> simp [hm,hne,hid]
 ·rfl
theorem frz_comm (l l' : List Nat) (id : Nat) (r : Row) : frz l id (frz l' id r) = frz l' id (frz l id r):=by
 unfold frz
 split <;> split <;> rfl
def Hid (rid : Nat) (bef : List Nat) (id : Nat) : Prop:=ofReg rid id = true ∧ id % 64 ∉ bef
theorem hid_look {bef : List Nat} {id : Nat} (h : Hid rid bef id) (rows : List (Nat × Row)) : lookup (visible rid bef rows) id = none:=by
 rw [lookup_visible,if_neg]
 simp only [h.1,Bool.not_true,Bool.false_or,List.contains_iff_mem]
 exact h.2
theorem seen_look {bef : List Nat} {id : Nat} (h : ¬ Hid rid bef id) (rows : List (Nat × Row)) : lookup (visible rid bef rows) id = lookup rows id:=by
 rw [lookup_visible,if_pos]
 unfold Hid at h
 cases h1 : ofReg rid id
 ·rfl
 ·rw [h1] at h
  simp only [Bool.not_true,Bool.false_or,List.contains_iff_mem]
  exact Classical.byContradiction fun hn=>h ⟨rfl,hn⟩
theorem hid_not {bef : List Nat} {id : Nat} {rows : List (Nat × Row)} {r : Row} (h : lookup (visible rid bef rows) id = some r) : ¬ Hid rid bef id:=fun hh=>by
 rw [hid_look hh] at h;cases h
theorem hid_site {bef : List Nat} {k : Nat} (hr : rid < 67108864) (hk : k < 64) (hn : k ∉ bef) : Hid rid bef (rid * 64 + k):=⟨ofReg_site hr hk,by
 have h2 : (rid * 64 + k) % 64 = k:=by omega
 rw [h2];exact hn⟩
structure Mild (rid : Nat) (bi bj : List Nat) (rows : List (Nat × Row)) (e : Eff) : Prop where
 d : e.dels = []
 m : e.mods = []
 n : e.news = []
 del : ∀ id,e.del = some id → (∃ r,lookup (visible rid bi rows) id = some r) ∧ Hid rid bj id
 mod : ∀ p,e.mod = some p → (∃ r,lookup (visible rid bi rows) p.1 = some r) ∧ Hid rid bj p.1
 imm : ∀ id ∈ e.imm,∃ r,lookup (visible rid bi rows) id = some r
theorem valsT_cons (tm : List AV) (ts : List TypeId) (s : Nat) (xs : List Operand) : ∃ vs,valsT P tm ts (.tmp s :: xs) = tm.getD s .unk :: vs:=by
 cases ts with
 | nil=>exact ⟨_,rfl⟩
 | cons t ts=>exact ⟨_,rfl⟩
theorem app_del {site : Nat} {o : Oper} {args : Array Operand} {ts : Array TypeId} {tm : List AV} {rows : List (Nat × Row)} {e : Eff} (ho : o.op = .call { callee:=.builtin .append,args:=args,argTypes:=ts }) (h : evOp P Γ site o tm rows some = some e) :
  ∀ id,e.del = some id → ∃ z,valsT P tm ts.toList args.toList = [.own id,z]:=by
 unfold evOp at h
 simp only [ho] at h
 rw [evBuiltin_eq] at h
 intro id hd
 generalize valsT P tm ts.toList args.toList = avs at h ⊢
 unfold evBuiltin0 at h
 repeat' split at h
 all_goals first
  | contradiction
  | (cases h;done)
  | (obtain ⟨_,h⟩:=bif_some h;cases h;first | (cases hd;done) | (cases hd;exact ⟨_,rfl⟩))
theorem conv_eff {site : Nat} {o : Oper} {src dst : TypeId} {x : Operand} {tm : List AV} {rows : List (Nat × Row)} {e : Eff} (ho : o.op = .convert src dst x) (h : evOp P Γ site o tm rows some = some e) :
  e.del = none ∧ e.imm = [] ∧ e.dels = [] ∧ e.mods = [] ∧ e.news = [] ∧ ∀ p,e.mod = some p → valT P tm src x = .own p.1 ∧ ∃ r,lookup rows p.1 = some r:=by
 unfold evOp at h
 simp only [ho,elemsK_def] at h
 repeat' split at h
 all_goals first
  | contradiction
  | (cases h;done)
  | (cases h;refine ⟨rfl,rfl,rfl,rfl,rfl,fun p hp=>?_⟩;first | (cases hp;done) | (cases hp;exact ⟨by assumption,_,by assumption⟩))
  | (obtain ⟨_,h⟩:=bif_some h;cases h;refine ⟨rfl,rfl,rfl,rfl,rfl,fun p hp=>?_⟩;cases hp)
theorem loc_mild {i : Nat} {x : Oper} {tm0 tm : List AV} {rows : List (Nat × Row)} {bj : List Nat} {e : Eff} (hr : rid < 67108864) (hfx : Fx rid ops tm0 tm) (hl : locOp ops tm0 bj x.op = true) (h : eD P Γ rid ops tab i x tm rows = some e) : Mild rid (tab.getD i []) bj rows e ∧ e.imm = []:=by
 rcases eD_cases h with h | rfl
 ·unfold locOp at hl
  split at hl
  ·rename_i args ts ho
   obtain ⟨h1,h2,h3,h4,h5,h6⟩:=app_eff ho h
   refine ⟨⟨h3,h4,h5,fun id hd=>?_,fun p hp=>(by rw [h1] at hp;cases hp),fun id hid=>(by rw [h2] at hid;cases hid)⟩,h2⟩
   obtain ⟨b,s,e',es,sp,hk⟩:=h6 id hd
   refine ⟨⟨_,hk⟩,?_⟩
   obtain ⟨z,hz⟩:=app_del ho h id hd
   split at hl
   ·rename_i s' rest hargs
    obtain ⟨vs,hv⟩:=valsT_cons (P:=P) tm ts.toList s' rest
    rw [hargs,hv] at hz
    have hz1 : tm.getD s' .unk = .own id:=(List.cons.inj hz).1
    rcases hfx.lc _ _ hl with hu | ⟨_,hu⟩ | ⟨k,hk1,hk2,hu⟩
    ·rw [hz1] at hu;cases hu
    ·rw [hz1] at hu;cases hu
    ·rw [hz1] at hu
     cases hu
     exact hid_site hr hk1 hk2
   ·cases hl
  ·rename_i src dst s' ho
   obtain ⟨h1,h2,h3,h4,h5,h6⟩:=conv_eff ho h
   refine ⟨⟨h3,h4,h5,fun id hd=>(by rw [h1] at hd;cases hd),fun p hp=>?_,fun id hid=>(by rw [h2] at hid;cases hid)⟩,h2⟩
   obtain ⟨hv,hk⟩:=h6 p hp
   refine ⟨hk,?_⟩
   have hz1 : tm.getD s' .unk = .own p.1:=hv
   rcases hfx.lc _ _ hl with hu | ⟨_,hu⟩ | ⟨k,hk1,hk2,hu⟩
   ·rw [hz1] at hu;cases hu
   ·rw [hz1] at hu;cases hu
   ·rw [hz1] at hu
    rw [AV.own.inj hu]
    exact hid_site hr hk1 hk2
  ·cases hl
 ·exact ⟨⟨rfl,rfl,rfl,fun id hd=>(by cases hd),fun p hp=>(by cases hp),fun id hid=>(by cases hid)⟩,rfl⟩
theorem calm_mild (hN : NatOK Γ) {i : Nat} {x : Oper} {tm : List AV} {rows : List (Nat × Row)} {e : Eff} (bj : List Nat) (hc : changes Γ x.op = false) (h : eD P Γ rid ops tab i x tm rows = some e) : Mild rid (tab.getD i []) bj rows e:=by
 obtain ⟨h1,h2,h3⟩:=eD_shape hN h
 obtain ⟨a1,a2,a3,a4,a5⟩:=h1 hc
 exact ⟨a3,a4,a5,fun id hd=>(by rw [a2] at hd;cases hd),fun p hp=>(by rw [a1] at hp;cases hp),h3⟩
theorem mild_keep {j : Nat} {bj bi : List Nat} {f : Eff} {rows : List (Nat × Row)} (hf : Mild rid bj bi rows f) {id : Nat} (hid : Hid rid bj id) (hne : id ≠ rid * 64 + j) (R : List (Nat × Row)) : lookup (applyRows (rid * 64 + j) f R) id = lookup R id:=by
 rw [lookup_apply _ _ hf.d hf.m hf.n]
 have hd : ∀ d,f.del = some d → id ≠ d:=fun d hd he=>by
  obtain ⟨⟨r,hr⟩,_⟩:=hf.del d hd
  exact hid_not hr (he ▸ hid)
 have hm : ∀ p,f.mod = some p → id ≠ p.1:=fun p hp he=>by
  obtain ⟨⟨r,hr⟩,_⟩:=hf.mod p hp
  exact hid_not hr (he ▸ hid)
 have hi : ∀ r,frz f.imm id r = r:=fun r=>by
  unfold frz
  rw [if_neg]
  intro hc
  obtain ⟨r',hr⟩:=hf.imm id (by simpa using hc)
  exact hid_not hr hid
 have hmap : ∀ x : Option Row,x.map (frz f.imm id) = x:=fun x=>by
  cases x with
  | none=>rfl
  | some r=>rw [Option.map_some,hi]
 have hcore : (match f.mod with | some p=>if id = p.1 then some p.2 else (match f.del with | some d=>if id = d then none else lookup R id | none=>lookup R id) | none=>(match f.del with | some d=>if id = d then none else lookup R id | none=>lookup R id)) = lookup R id:=by
  cases hfm : f.mod with
  | none=>cases hfd : f.del with
   | none=>rfl
   | some d=>simp only [if_neg (hd d hfd)]
  | some p =>
   simp only [if_neg (hm p hfm)]
   cases hfd : f.del with
   | none=>rfl
   | some d=>simp only [if_neg (hd d hfd)]
 cases f.new with
 | none=>simp only [hmap];exact hcore
 | some r=>simp only [if_neg hne,hmap];exact hcore
theorem apply_else {site : Nat} {e : Eff} (h1 : e.dels = []) (h2 : e.mods = []) (h3 : e.news = []) {id : Nat} (hs : id ≠ site) (hd : e.del ≠ some id) (hm : ∀ p,e.mod = some p → p.1 ≠ id) (R : List (Nat × Row)) : lookup (applyRows site e R) id = (lookup R id).map (frz e.imm id):=by
 rw [lookup_apply _ _ h1 h2 h3]
 have hcore : (match e.mod with | some p=>if id = p.1 then some p.2 else (match e.del with | some d=>if id = d then none else lookup R id | none=>lookup R id) | none=>(match e.del with | some d=>if id = d then none else lookup R id | none=>lookup R id)) = lookup R id:=by
  cases hfm : e.mod with
  | none=>cases hfd : e.del with
   | none=>rfl
   | some d =>
    have : id ≠ d:=fun h=>hd (by rw [hfd,h])
    simp only [if_neg this]
  | some p =>
   have:=(hm p hfm).symm
   simp only [if_neg this]
   cases hfd : e.del with
   | none=>rfl
   | some d =>
    have : id ≠ d:=fun h=>hd (by rw [hfd,h])
    simp only [if_neg this]
 cases e.new with
 | none=>exact congrArg (Option.map (frz e.imm id)) hcore
 | some r=>simp only [if_neg hs];exact congrArg (Option.map (frz e.imm id)) hcore
theorem apply_pt {site : Nat} {e : Eff} (h1 : e.dels = []) (h2 : e.mods = []) (h3 : e.news = []) {id : Nat} {R R' : List (Nat × Row)} (h : lookup R id = lookup R' id) : lookup (applyRows site e R) id = lookup (applyRows site e R') id:=by
 rw [lookup_apply _ _ h1 h2 h3,lookup_apply _ _ h1 h2 h3,h]
theorem mild_comm {i j : Nat} {e f : Eff} {rows : List (Nat × Row)} {bi bj : List Nat} (hr : rid < 67108864) (hi : i < 64) (hj : j < 64) (hne : i ≠ j) (hij : i ∉ bj) (hji : j ∉ bi) (he : Mild rid bi bj rows e) (hf : Mild rid bj bi rows f) (id : Nat) :
  lookup (applyRows (rid * 64 + j) f (applyRows (rid * 64 + i) e rows)) id = lookup (applyRows (rid * 64 + i) e (applyRows (rid * 64 + j) f rows)) id:=by
 have hsi : Hid rid bj (rid * 64 + i):=hid_site hr hi hij
 have hsj : Hid rid bi (rid * 64 + j):=hid_site hr hj hji
 have onE : Hid rid bj id → id ≠ rid * 64 + j → lookup (applyRows (rid * 64 + j) f (applyRows (rid * 64 + i) e rows)) id = lookup (applyRows (rid * 64 + i) e (applyRows (rid * 64 + j) f rows)) id:=fun h1 h2=>by
  rw [mild_keep hf h1 h2]
  exact apply_pt he.d he.m he.n (mild_keep hf h1 h2 rows).symm
 have onF : Hid rid bi id → id ≠ rid * 64 + i → lookup (applyRows (rid * 64 + j) f (applyRows (rid * 64 + i) e rows)) id = lookup (applyRows (rid * 64 + i) e (applyRows (rid * 64 + j) f rows)) id:=fun h1 h2=>by
  rw [mild_keep he h1 h2 (applyRows (rid * 64 + j) f rows)]
  exact apply_pt hf.d hf.m hf.n (mild_keep he h1 h2 rows)
 by_cases e1 : id = rid * 64 + i
 ·exact onE (e1 ▸ hsi) (by omega)
 by_cases e2 : id = rid * 64 + j
 ·exact onF (e2 ▸ hsj) (by omega)
 by_cases e3 : e.del = some id
 ·exact onE (he.del id e3).2 e2
 by_cases e4 : ∃ p,e.mod = some p ∧ p.1 = id
 ·obtain ⟨p,hp,rfl⟩:=e4
  exact onE (he.mod p hp).2 e2
 by_cases e5 : f.del = some id
 ·exact onF (hf.del id e5).2 e1
 by_cases e6 : ∃ p,f.mod = some p ∧ p.1 = id
 ·obtain ⟨p,hp,rfl⟩:=e6
  exact onF (hf.mod p hp).2 e1
 have k4 : ∀ p,e.mod = some p → p.1 ≠ id:=fun p hp h=>e4 ⟨p,hp,h⟩
 have k6 : ∀ p,f.mod = some p → p.1 ≠ id:=fun p hp h=>e6 ⟨p,hp,h⟩
 rw [apply_else hf.d hf.m hf.n e2 e5 k6,apply_else he.d he.m he.n e1 e3 k4,apply_else he.d he.m he.n e1 e3 k4,apply_else hf.d hf.m hf.n e2 e5 k6]
 cases lookup rows id with
 | none=>rfl
 | some r=>simp only [Option.map_some,frz_comm]
theorem mild_seen {i : Nat} {bi bj : List Nat} {e : Eff} {rows : List (Nat × Row)} (hr : rid < 67108864) (hi : i < 64) (hij : i ∉ bj) (he : Mild rid bi bj rows e) (him : e.imm = []) (R : List (Nat × Row)) (id : Nat) : lookup (visible rid bj (applyRows (rid * 64 + i) e R)) id = lookup (visible rid bj R) id:=by
 by_cases h : Hid rid bj id
 ·rw [hid_look h,hid_look h]
 ·have n1 : id ≠ rid * 64 + i:=fun h1=>h (by rw [h1];exact hid_site hr hi hij)
  have n2 : ∀ p,e.mod = some p → p.1 ≠ id:=fun p hp h1=>h (by rw [← h1];exact (he.mod p hp).2)
  rw [seen_look h,seen_look h,apply_else he.d he.m he.n n1 (fun h1=>h (he.del id h1).2) n2,him]
  cases lookup R id <;> rfl
theorem srcOf_core {rows rows' : List (Nat × Row)} (h : coreEq rows rows') (t t' : TypeId) (z : AV) : srcOf P t t' rows z = srcOf P t t' rows' z:=by
 unfold srcOf
 rw [elemsOf_core h]
theorem loc_core {site : Nat} {rows rows' : List (Nat × Row)} {y : Oper} {tm0 tm : List AV} {bi : List Nat} {k : Eff → Option Eff} (hr : rid < 67108864) (h : coreEq rows rows') (hfx : Fx rid ops tm0 tm) (hl : locOp ops tm0 bi y.op = true) (hx : ∀ id,Hid rid bi id → lookup rows id = lookup rows' id) : evOp P Γ site y tm rows k = evOp P Γ site y tm rows' k:=by
 unfold locOp at hl
 split at hl
 ·rename_i args ts ho
  split at hl
  ·rename_i s' rest hargs
   obtain ⟨vs,hv⟩:=valsT_cons (P:=P) tm ts.toList s' rest
   unfold evOp
   simp only [ho,hargs,hv]
   rw [evBuiltin_eq,evBuiltin_eq]
   have hsrc:=fun t t' z=>srcOf_core (P:=P) h t t' z
   rcases hfx.lc _ _ hl with hu | ⟨_,hu⟩ | ⟨k',hk1,hk2,hu⟩
   ·generalize tm.getD s' .unk = v at hu ⊢
    cases v <;> first | (cases hu;done) | skip
    all_goals
     unfold evBuiltin0
     generalize ts.toList = l
     match l,vs with
     | [t,t'],[z]=>simp only [hsrc]
     | [t,t'],[]=>rfl
     | [t,t'],_ :: _ :: _=>rfl
     | [],_=>rfl
     | [_],_=>rfl
     | _ :: _ :: _ :: _,_=>rfl
   ·rw [hu]
    unfold evBuiltin0
    generalize ts.toList = l
    match l,vs with
    | [t,t'],[z]=>simp only [hsrc]
    | [t,t'],[]=>rfl
    | [t,t'],_ :: _ :: _=>rfl
    | [],_=>rfl
    | [_],_=>rfl
    | _ :: _ :: _ :: _,_=>rfl
   ·rw [hu]
    have hlk:=hx _ (hid_site hr hk1 hk2)
    unfold evBuiltin0
    generalize ts.toList = l
    match l,vs with
    | [t,t'],[z]=>simp only [hsrc,hlk]
    | [t,t'],[]=>rfl
    | [t,t'],_ :: _ :: _=>rfl
    | [],_=>rfl
    | [_],_=>rfl
    | _ :: _ :: _ :: _,_=>rfl
  ·cases hl
 ·rename_i src dst s' ho
  unfold evOp
  have hv : valT P tm src (.tmp s') = tm.getD s' .unk:=rfl
  simp only [ho,elemsK_def,elemsOf_core h,hv]
  rcases hfx.lc _ _ hl with hu | ⟨_,hu⟩ | ⟨k',hk1,hk2,hu⟩
  ·generalize tm.getD s' .unk = v at hu ⊢
   cases P.underlying src with
   | none=>rfl
   | some d1 =>
    cases P.underlying dst with
    | none=>cases d1 <;> rfl
    | some d2=>cases v <;> first | (cases hu;done) | (cases d1 <;> cases d2 <;> rfl)
  ·rw [hu]
   cases P.underlying src with
   | none=>rfl
   | some d1 =>
    cases P.underlying dst with
    | none=>cases d1 <;> rfl
    | some d2=>cases d1 <;> cases d2 <;> rfl
  ·rw [hu]
   have hlk:=hx _ (hid_site hr hk1 hk2)
   cases P.underlying src with
   | none=>rfl
   | some d1 =>
    cases P.underlying dst with
    | none=>cases d1 <;> rfl
    | some d2=>cases d1 <;> cases d2 <;> first | rfl | simp only [hlk]
 ·cases hl
theorem made_free {site : Nat} {o : Oper} {tm : List AV} {rows rows' : List (Nat × Row)} {k : Eff → Option Eff} (hm : madeB o.op = true) : evOp P Γ site o tm rows k = evOp P Γ site o tm rows' k:=by
 unfold madeB at hm
 unfold evOp
 split at hm
 ·rename_i ho;simp only [ho]
 ·rename_i ho;simp only [ho]
 ·cases hm
theorem made_eff {site : Nat} {o : Oper} {tm : List AV} {rows : List (Nat × Row)} {e : Eff} (hm : madeB o.op = true) (h : evOp P Γ site o tm rows some = some e) : e.mod = none ∧ e.del = none ∧ e.imm = [] ∧ e.dels = [] ∧ e.mods = [] ∧ e.news = []:=by
 unfold madeB at hm
 unfold evOp at h
 split at hm
 ·rename_i ho
  simp only [ho] at h
  split at h
  ·cases h;exact ⟨rfl,rfl,rfl,rfl,rfl,rfl⟩
  ·cases h
 ·rename_i ho
  simp only [ho] at h
  split at h
  ·cases h;exact ⟨rfl,rfl,rfl,rfl,rfl,rfl⟩
  ·cases h
 ·cases hm
theorem made_mild {i : Nat} {x : Oper} {tm : List AV} {rows : List (Nat × Row)} {e : Eff} (bj : List Nat) (hm : madeB x.op = true) (h : eD P Γ rid ops tab i x tm rows = some e) : Mild rid (tab.getD i []) bj rows e ∧ e.imm = [] ∧ e.mod = none ∧ e.del = none:=by
 rcases eD_cases h with h | rfl
 ·obtain ⟨h1,h2,h3,h4,h5,h6⟩:=made_eff hm h
  exact ⟨⟨h4,h5,h6,fun id hd=>(by rw [h2] at hd;cases hd),fun p hp=>(by rw [h1] at hp;cases hp),fun id hid=>(by rw [h3] at hid;cases hid)⟩,h3,h1,h2⟩
 ·exact ⟨⟨rfl,rfl,rfl,fun id hd=>(by cases hd),fun p hp=>(by cases hp),fun id hid=>(by cases hid)⟩,rfl,rfl,rfl⟩
theorem store_any {site : Nat} {o : Oper} {ty : TypeId} {a z : Operand} {tm : List AV} {rows : List (Nat × Row)} {e : Eff} (ho : o.op = .store ty a z) (h : evOp P Γ site o tm rows some = some e) : e.new = none ∧ e.del = none ∧ e.dels = [] ∧ e.mods = [] ∧ e.news = [] ∧ ∀ p,e.mod = some p → ∃ r,lookup rows p.1 = some r:=by
 have hfoc : ∀ {id : Nat} {q},focOf rows id = some q → ∃ r,lookup rows id = some r:=fun {id q} h=>by
  unfold focOf at h
  split at h
  ·exact ⟨_,by assumption⟩
  ·cases h
 unfold evOp at h
 simp only [ho] at h
 repeat' split at h
 all_goals first
  | contradiction
  | (cases h;done)
  | (cases h;refine ⟨rfl,rfl,rfl,rfl,rfl,fun p hp=>?_⟩;cases hp;first | exact ⟨_,by assumption⟩ | exact hfoc (by assumption))
  | (obtain ⟨_,h⟩:=bif_some h;cases h;refine ⟨rfl,rfl,rfl,rfl,rfl,fun p hp=>?_⟩;cases hp;first | exact ⟨_,by assumption⟩ | exact hfoc (by assumption))
  | skip
 all_goals
  rcases bif_cases h with h | h
  ·repeat' split at h
   all_goals first
    | (cases h;done)
    | (cases h;refine ⟨rfl,rfl,rfl,rfl,rfl,fun p hp=>?_⟩;cases hp;first | exact ⟨_,by assumption⟩ | exact hfoc (by assumption))
  ·repeat' split at h
   all_goals first
    | (cases h;done)
    | skip
   all_goals
    rcases bif_cases h with h | h
    ·repeat' split at h
     all_goals first
      | (cases h;done)
      | (cases h;refine ⟨rfl,rfl,rfl,rfl,rfl,fun p hp=>?_⟩;cases hp;first | exact ⟨_,by assumption⟩ | exact hfoc (by assumption))
    ·obtain ⟨_,h⟩:=bif_some h
     repeat' split at h
     all_goals first
      | (cases h;done)
      | (cases h;refine ⟨rfl,rfl,rfl,rfl,rfl,fun p hp=>?_⟩;cases hp;first | exact ⟨_,by assumption⟩ | exact hfoc (by assumption))
theorem sim_eff {i : Nat} {x : Oper} {tm : List AV} {rows : List (Nat × Row)} {e : Eff} (hm : simB x.op = true) (h : eD P Γ rid ops tab i x tm rows = some e) : e.dels = [] ∧ e.mods = [] ∧ e.news = [] ∧ (∀ id,e.del = some id → ∃ r,lookup (visible rid (tab.getD i []) rows) id = some r) ∧ ∀ p,e.mod = some p → ∃ r,lookup (visible rid (tab.getD i []) rows) p.1 = some r:=by
 rcases eD_cases h with h | rfl
 ·unfold simB at hm
  split at hm
  ·rename_i ho
   obtain ⟨_,h2,h3,h4,h5,h6⟩:=store_any ho h
   exact ⟨h3,h4,h5,fun id hd=>(by rw [h2] at hd;cases hd),h6⟩
  ·rename_i ho
   obtain ⟨h1,_,h3,h4,h5,h6⟩:=conv_eff ho h
   exact ⟨h3,h4,h5,fun id hd=>(by rw [h1] at hd;cases hd),fun p hp=>(h6 p hp).2⟩
  ·rename_i ho
   obtain ⟨h1,h2,h3,h4,h5,h6⟩:=app_eff ho h
   exact ⟨h3,h4,h5,fun id hd=>(by obtain ⟨b,s,e',es,sp,hk⟩:=h6 id hd;exact ⟨_,hk⟩),fun p hp=>(by rw [h1] at hp;cases hp)⟩
  ·cases hm
 ·exact ⟨rfl,rfl,rfl,fun id hd=>(by cases hd),fun p hp=>(by cases hp)⟩
theorem made_comm (hN : NatOK Γ) {i j : Nat} {x y : Oper} {tm tm' : List AV} {e f : Eff} {rows : List (Nat × Row)} (hr : rid < 67108864) (hj : j < 64) (hne : i ≠ j) (hji : j ∉ tab.getD i []) (hs : simB x.op = true) (hm : madeB y.op = true) (he : eD P Γ rid ops tab i x tm rows = some e) (hf : eD P Γ rid ops tab j y tm' rows = some f) (id : Nat) :
  lookup (applyRows (rid * 64 + j) f (applyRows (rid * 64 + i) e rows)) id = lookup (applyRows (rid * 64 + i) e (applyRows (rid * 64 + j) f rows)) id:=by
 obtain ⟨s1,s2,s3,s4,s5⟩:=sim_eff hs he
 obtain ⟨mf,m1,m2,m3⟩:=made_mild (P:=P) (tab:=tab) [] hm hf
 have hsj : Hid rid (tab.getD i []) (rid * 64 + j):=hid_site hr hj hji
 have hk : ∀ R : List (Nat × Row),∀ id,id ≠ rid * 64 + j → lookup (applyRows (rid * 64 + j) f R) id = lookup R id:=fun R id h=>by
  rw [apply_else mf.d mf.m mf.n h (by rw [m3];exact fun h=>by cases h) (fun p hp=>(by rw [m2] at hp;cases hp)),m1]
  cases lookup R id <;> rfl
 by_cases e2 : id = rid * 64 + j
 ·subst e2
  have him : ∀ r,frz e.imm (rid * 64 + j) r = r:=fun r=>by
   unfold frz
   rw [if_neg]
   intro hc
   obtain ⟨r',hr⟩:=(eD_shape hN he).2.2 _ (by simpa using hc)
   exact hid_not hr hsj
  have hmap : ∀ x : Option Row,x.map (frz e.imm (rid * 64 + j)) = x:=fun x=>by
   cases x with
   | none=>rfl
   | some r=>rw [Option.map_some,him]
  have hx : ∀ R : List (Nat × Row),lookup (applyRows (rid * 64 + i) e R) (rid * 64 + j) = lookup R (rid * 64 + j):=fun R=>by
   rw [apply_else s1 s2 s3 (by omega) (fun h=>by obtain ⟨r,hr⟩:=s4 _ h;exact hid_not hr hsj) (fun p hp h=>by obtain ⟨r,hr⟩:=s5 p hp;exact hid_not hr (h ▸ hsj)),hmap]
  rw [hx]
  exact apply_pt mf.d mf.m mf.n (hx rows)
 ·rw [hk _ id e2]
  exact apply_pt s1 s2 s3 (hk rows id e2).symm
theorem fresh2 {i j : Nat} {e f : Eff} {x : Oper} {st : St} (hne : i ≠ j) (he : e.news = []) (hf : f.news = []) : freshB (rid * 64 + j) f (apply (rid * 64 + i) x.dst e st).used = freshB (rid * 64 + j) f st.used:=by
 simp only [freshB,hf,apply,he,List.map_nil,List.nil_append]
 cases f.new with
 | none=>rfl
 | some r =>
  cases e.new with
  | none=>rfl
  | some r' =>
   have hcont : ((rid * 64 + i) :: st.used).contains (rid * 64 + j) = st.used.contains (rid * 64 + j):=by
    rw [Bool.eq_iff_iff]
    simp only [List.contains_cons,Bool.or_eq_true,beq_iff_eq]
    constructor
    ·rintro (h | h)
     ·omega
     ·exact h
    ·exact .inr
   simp only [hcont,List.all_nil]
theorem eD_indep (hN : NatOK Γ) {tm0 : List AV} {i j : Nat} {x y : Oper} (h : Indep Γ rid ops tab tm0 i j x y) {e : Eff} {st : St} (hfx : Fx rid ops tm0 st.tm) (hee : eD P Γ rid ops tab i x st.tm st.rows = some e) :
  eD P Γ rid ops tab j y (putTm st.tm x.dst e.v) (applyRows (rid * 64 + i) e st.rows) = eD P Γ rid ops tab j y st.tm st.rows:=by
 have he:=eD_shape hN hee
 have hop : ∀ z ∈ y.op.operands.toList,∀ t,z = Operand.tmp t → (putTm st.tm x.dst e.v).getD t .unk = st.tm.getD t .unk:=fun z hz t ht=>by
  refine getD_put fun hd=>h.xy t hd ?_
  simp only [Oper.looksAt,List.mem_append,List.mem_filterMap]
  exact .inl ⟨z,hz,by rw [ht]⟩
 have hev : evOp P Γ (rid * 64 + j) y (putTm st.tm x.dst e.v) (visible rid (tab.getD j []) (applyRows (rid * 64 + i) e st.rows)) some = evOp P Γ (rid * 64 + j) y st.tm (visible rid (tab.getD j []) st.rows) some:=by
  rw [evOp_tm y _ some hop]
  rcases h.kind with ⟨c1,c2⟩ | ⟨c1,c2⟩ | ⟨h1,h2⟩ | ⟨h1,h2⟩
  ·cases hty : touches Γ y.op with
   | false=>exact evOp_free y hty st.tm some
   | true =>
    cases hcy : changes Γ y.op with
    | true =>
     obtain ⟨q1,q2⟩:=quiet_pure hN (c2 hcy) hee
     exact evOp_look (fun id=>by rw [lookup_visible,lookup_visible,apply_pure (he.1 q1) q2]) y st.tm some
    | false =>
     cases hc : changes Γ x.op with
     | false=>exact evOp_core (vis_core h.rlt h.ilt h.nij (he.1 hc)) y hcy st.tm some
     | true =>
      rcases c1 hc with hq | ⟨i',j',hne,⟨ty,s,off,ho,hf,hv⟩,hs⟩ | ⟨⟨ty,s,ho,hb⟩,ha⟩
      ·rw [hq] at hty;cases hty
      ·exact load_dep ho (by rw [hfx.fx s hf];exact hv) (by rw [lookup_visible,lookup_visible,store_look hfx hs hee hne])
      ·have hbx:=hfx.bx s hb
       cases hv : st.tm.getD s .unk <;> rw [hv] at hbx <;> try (cases hbx;done)
       ·unfold evOp;simp only [ho,val,hv]
       ·unfold evOp;simp only [ho,val,hv]
       ·exact load_box ho hv (app_look h.rlt h.ilt h.nij ha hee _)
  ·cases hc : changes Γ x.op with
   | true =>
    obtain ⟨m1,m2⟩:=loc_mild h.rlt hfx (c1 hc) hee
    exact evOp_look (mild_seen h.rlt h.ilt h.nij m1 m2 st.rows) y st.tm some
   | false =>
    have hcore:=vis_core (rows:=st.rows) h.rlt h.ilt h.nij (he.1 hc)
    cases hcy : changes Γ y.op with
    | false=>exact evOp_core hcore y hcy st.tm some
    | true =>
     refine loc_core h.rlt hcore hfx (c2 hcy) fun id hid=>?_
     by_cases hj : Hid rid (tab.getD j []) id
     ·rw [hid_look hj,hid_look hj]
     ·rw [seen_look hj,seen_look hj]
      exact mild_keep (calm_mild hN (tab.getD j []) hc hee) hid (fun h1=>hj (h1 ▸ hid_site h.rlt h.ilt h.nij)) st.rows
  ·exact made_free h1
  ·obtain ⟨m1,m2,_⟩:=made_mild (P:=P) (tab:=tab) (tab.getD j []) h1 hee
   exact evOp_look (mild_seen h.rlt h.ilt h.nij m1 m2 st.rows) y st.tm some
 have hg : ∀ g want,y.guard = some (g,want) → guardAt ops.toList (putTm st.tm x.dst e.v) g = guardAt ops.toList st.tm g:=fun g want hgd=>by
  unfold guardAt
  simp only [Array.getElem?_toList]
  cases hog : ops[g]? with
  | none=>rfl
  | some og =>
   simp only
   cases hdg : og.dst with
   | none=>rfl
   | some d =>
    simp only
    refine getD_put fun hd=>h.xy d hd ?_
    simp [Oper.looksAt,hgd,hog,hdg]
 unfold eD
 rw [hev]
 cases hgd : y.guard with
 | none=>rfl
 | some p =>
  obtain ⟨g,want⟩:=p
  simp only [hg g want hgd]
theorem put_comm {tm : List AV} {d d' : Option Tmp} {v v' : AV} (h : ∀ x,d = some x → d' ≠ some x) : putTm (putTm tm d v) d' v' = putTm (putTm tm d' v') d v:=by
 cases d with
 | none=>cases d' <;> rfl
 | some x =>
  cases d' with
  | none=>rfl
  | some x' =>
   have hne : x ≠ x':=fun e=>h x rfl (by rw [e])
   exact List.set_comm _ _ hne
theorem apply_comm (hN : NatOK Γ) {tm0 : List AV} {i j : Nat} {x y : Oper} (h : Indep Γ rid ops tab tm0 i j x y) {e f : Eff} {st : St} (hfx : Fx rid ops tm0 st.tm) (hee : eD P Γ rid ops tab i x st.tm st.rows = some e) (hff : eD P Γ rid ops tab j y st.tm st.rows = some f) :
  Eqv (apply (rid * 64 + j) y.dst f (apply (rid * 64 + i) x.dst e st)) (apply (rid * 64 + i) x.dst e (apply (rid * 64 + j) y.dst f st)):=by
 have he:=eD_shape hN hee
 have hf:=eD_shape hN hff
 refine ⟨put_comm h.dd,fun id=>?_,fun id=>?_⟩
 ·show lookup (applyRows _ f (applyRows _ e st.rows)) id = lookup (applyRows _ e (applyRows _ f st.rows)) id
  have calm : changes Γ x.op = false → changes Γ y.op = false → lookup (applyRows (rid * 64 + j) f (applyRows (rid * 64 + i) e st.rows)) id = lookup (applyRows (rid * 64 + i) e (applyRows (rid * 64 + j) f st.rows)) id:=fun hx hy =>
   mild_comm h.rlt h.ilt h.jlt h.ne h.nij h.nji (calm_mild hN (tab.getD j []) hx hee) (calm_mild hN (tab.getD i []) hy hff) id
  rcases h.kind with ⟨c1,c2⟩ | ⟨c1,c2⟩ | ⟨h1,h2⟩ | ⟨h1,h2⟩
  ·cases hcx : changes Γ x.op with
   | true =>
    obtain ⟨q1,q2⟩:=quiet_pure hN (c1 hcx) hff
    have hp : ∀ rows id,lookup (applyRows (rid * 64 + j) f rows) id = lookup rows id:=fun rows id=>apply_pure (hf.1 q1) q2 id
    rw [hp]
    exact (applyRows_look _ e (hp st.rows) id).symm
   | false =>
    cases hcy : changes Γ y.op with
    | true =>
     obtain ⟨q1,q2⟩:=quiet_pure hN (c2 hcy) hee
     have hp : ∀ rows id,lookup (applyRows (rid * 64 + i) e rows) id = lookup rows id:=fun rows id=>apply_pure (he.1 q1) q2 id
     rw [hp]
     exact applyRows_look _ f (hp st.rows) id
    | false=>exact calm hcx hcy
  ·have hme : Mild rid (tab.getD i []) (tab.getD j []) st.rows e:=by
    cases hcx : changes Γ x.op with
    | true=>exact (loc_mild h.rlt hfx (c1 hcx) hee).1
    | false=>exact calm_mild hN _ hcx hee
   have hmf : Mild rid (tab.getD j []) (tab.getD i []) st.rows f:=by
    cases hcy : changes Γ y.op with
    | true=>exact (loc_mild h.rlt hfx (c2 hcy) hff).1
    | false=>exact calm_mild hN _ hcy hff
   exact mild_comm h.rlt h.ilt h.jlt h.ne h.nij h.nji hme hmf id
  ·exact made_comm hN h.rlt h.jlt h.ne h.nji h2 h1 hee hff id
  ·exact (made_comm hN h.rlt h.ilt h.ne.symm h.nij h2 h1 hff hee id).symm
 ·simp only [apply,List.mem_append]
  cases e.new <;> cases f.new <;> simp only [List.mem_cons,List.mem_append]
  ·constructor <;> (intro h;rcases h with h | h | h <;> simp [h])
  ·constructor <;> (intro h;rcases h with h | h | h | h <;> simp [h])
  ·constructor <;> (intro h;rcases h with h | h | h | h <;> simp [h])
  ·constructor <;> (intro h;rcases h with h | h | h | h | h <;> simp [h])
theorem fresh_comm (hN : NatOK Γ) {tm0 : List AV} {i j : Nat} {x y : Oper} (h : Indep Γ rid ops tab tm0 i j x y) {e f : Eff} {st : St} {tm tm' : List AV} {rows rows' : List (Nat × Row)} (hfx : Fx rid ops tm0 tm) (hfx' : Fx rid ops tm0 tm') (hee : eD P Γ rid ops tab i x tm rows = some e) (hff : eD P Γ rid ops tab j y tm' rows' = some f) : freshB (rid * 64 + j) f (apply (rid * 64 + i) x.dst e st).used = freshB (rid * 64 + j) f st.used:=by
 have he:=eD_shape hN hee
 have hf:=eD_shape hN hff
 rcases h.kind with ⟨c1,c2⟩ | ⟨c1,c2⟩ | ⟨h1,h2⟩ | ⟨h1,h2⟩
 ·cases hcx : changes Γ x.op with
  | true =>
   obtain ⟨q1,q2⟩:=quiet_pure hN (c1 hcx) hff
   obtain ⟨_,_,_,_,f5⟩:=hf.1 q1
   simp only [freshB,f5,q2.1]
   rfl
  | false =>
   obtain ⟨_,_,_,_,e5⟩:=he.1 hcx
   cases hen : e.new with
   | none=>simp only [apply,hen,e5,List.map_nil,List.nil_append]
   | some r' =>
    have hcy : changes Γ y.op = false:=by
     cases hc : changes Γ y.op with
     | false=>rfl
     | true=>rw [(quiet_pure hN (c2 hc) hee).2.1] at hen;cases hen
    obtain ⟨_,_,_,_,f5⟩:=hf.1 hcy
    exact fresh2 h.ne e5 f5
 ·have e5 : e.news = []:=by
   cases hcx : changes Γ x.op with
   | true=>exact (loc_mild h.rlt hfx (c1 hcx) hee).1.n
   | false=>exact (he.1 hcx).2.2.2.2
  have f5 : f.news = []:=by
   cases hcy : changes Γ y.op with
   | true=>exact (loc_mild h.rlt hfx' (c2 hcy) hff).1.n
   | false=>exact (hf.1 hcy).2.2.2.2
  exact fresh2 h.ne e5 f5
 ·exact fresh2 h.ne (sim_eff h2 hee).2.2.1 (made_mild (P:=P) (tab:=tab) [] h1 hff).1.n
 ·exact fresh2 h.ne (made_mild (P:=P) (tab:=tab) [] h1 hee).1.n (sim_eff h2 hff).2.2.1
theorem swap (hN : NatOK Γ) {tm0 : List AV} {i j : Nat} {x y : Oper} (hx : ops[i]? = some x) (hy : ops[j]? = some y) (h : Indep Γ rid ops tab tm0 i j x y) {st s1 s2 : St} (hfx : Fx rid ops tm0 st.tm) (h1 : stepD P Γ rid ops tab i st = some s1) (h2 : stepD P Γ rid ops tab j s1 = some s2) :
  ∃ t1 t2,stepD P Γ rid ops tab j st = some t1 ∧ stepD P Γ rid ops tab i t1 = some t2 ∧ Eqv s2 t2:=by
 rw [stepD_eq hx] at h1
 rw [stepD_eq hy] at h2
 cases he : eD P Γ rid ops tab i x st.tm st.rows with
 | none=>rw [he] at h1;cases h1
 | some e =>
  simp only [he,Option.bind_some] at h1
  split at h1
  ·rename_i hfe
   cases h1
   have hj : eD P Γ rid ops tab j y (apply (rid * 64 + i) x.dst e st).tm (apply (rid * 64 + i) x.dst e st).rows = eD P Γ rid ops tab j y st.tm st.rows:=eD_indep hN h hfx he
   rw [hj] at h2
   cases hf : eD P Γ rid ops tab j y st.tm st.rows with
   | none=>rw [hf] at h2;cases h2
   | some f =>
    simp only [hf,Option.bind_some,fresh_comm hN h hfx hfx he hf] at h2
    split at h2
    ·rename_i hff
     cases h2
     have hi : eD P Γ rid ops tab i x (apply (rid * 64 + j) y.dst f st).tm (apply (rid * 64 + j) y.dst f st).rows = eD P Γ rid ops tab i x st.tm st.rows:=eD_indep hN h.symm hfx hf
     refine ⟨apply (rid * 64 + j) y.dst f st,apply (rid * 64 + i) x.dst e (apply (rid * 64 + j) y.dst f st),?_,?_,apply_comm hN h hfx he hf⟩
     ·rw [stepD_eq hy];simp only [hf,Option.bind_some,hff,if_true]
     ·rw [stepD_eq hx,hi];simp only [he,Option.bind_some,fresh_comm hN h.symm hfx hfx hf he,hfe,if_true]
    ·cases h2
  ·cases h1
theorem toFront (hN : NatOK Γ) {tm0 : List AV} {i : Nat} {x : Oper} (hx : ops[i]? = some x) : ∀ (l1 l2 : List Nat) (st f : St),Fx rid ops tm0 st.tm → (∀ j ∈ l1,∃ y,ops[j]? = some y ∧ Indep Γ rid ops tab tm0 j i y x) → runL P Γ rid ops tab (l1 ++ i :: l2) st = some f →
  ∃ t f',stepD P Γ rid ops tab i st = some t ∧ runL P Γ rid ops tab (l1 ++ l2) t = some f' ∧ Eqv f f'
 | [],l2,st,f,_,_,h=>by
  simp only [List.nil_append,runL] at h
  cases h1 : stepD P Γ rid ops tab i st with
  | none=>rw [h1] at h;cases h
  | some t=>rw [h1] at h;exact ⟨t,f,rfl,h,Eqv.refl f⟩
 | j :: l1,l2,st,f,hfx,hi,h=>by
  simp only [List.cons_append,runL] at h
  cases h1 : stepD P Γ rid ops tab j st with
  | none=>rw [h1] at h;cases h
  | some s1 =>
   rw [h1,Option.bind_some] at h
   obtain ⟨y,hy,hind⟩:=hi j (by simp)
   obtain ⟨s2,f1,h2,h3,h4⟩:=toFront hN hx l1 l2 s1 f (stepD_fx hind.ilt hfx h1) (fun k hk=>hi k (by simp [hk])) h
   obtain ⟨t1,t2,h5,h6,h7⟩:=swap hN hy hx hind hfx h1 h2
   obtain ⟨f2,h8,h9⟩:=runL_eqv _ h7 h3
   exact ⟨t1,f2,h5,by simp only [List.cons_append,runL];rw [h6,Option.bind_some];exact h8,h4.trans h9⟩
end swap
end Go.Ev
