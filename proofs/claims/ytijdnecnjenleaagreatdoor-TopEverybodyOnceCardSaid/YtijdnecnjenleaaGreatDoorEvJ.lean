/-
 The operations,fifth part: append onto a slice of the call's own;stores.
-/
import Derived.Test.YtijdnecnjenleaaGreatDoorEvG
import Derived.Lib.AppendStr
import Derived.Deep.DeepAppendWide
import Derived.Lib.OthersKept

namespace Go.Ev
open Go.RowKit
theorem Rel.freeze {w : World} {S : Nat → Prop} {B : Ctx} {β : Bet} {og : Nat → Option Nat} {st : St} {a : Act} (h : Rel w S B β og st a) (ids : List Nat) :
  Rel w (With S og ids) B β og ⟨st.tm,setImm ids st.rows,st.used⟩ a:=by
 refine ⟨h.tm.keepS fun b=>With.left,h.df,fun id r hr=>?_,h.inj,h.lt,h.used,h.one,fun b hb=>?_,h.Ble,h.pid⟩
 ·rw [lookup_setImm] at hr
  cases hl : lookup st.rows id with
  | none=>simp [hl] at hr
  | some r0 =>
   simp only [hl,Option.map_some,Option.some.injEq] at hr
   have h0:=h.row id r0 hl
   by_cases hin : ids.contains id = true
   ·have hmem : id ∈ ids:=by simpa using hin
    rw [if_pos hin] at hr
    subst hr
    cases r0 with
    | box imm cs =>
     obtain ⟨g,vs,t,ho,hb,hh,hv,_,_,hB⟩:=h0
     exact ⟨g,vs,t,ho,hb,hh,hv.keepS fun b=>With.left,(fun e=>by cases e),fun _=>.inr ⟨id,hmem,ho⟩,hB⟩
    | arr imm s e es csp =>
     obtain ⟨hp,v,sp,xs,hsh,hcs,hb,h1,hv,hor⟩:=h0
     refine ⟨hp,v,sp,xs,hsh,hcs,hb,h1,hv.keepS fun b=>With.left,?_⟩
     rcases hor with hh | ⟨g,ps,ho,hvv,hB,hh,hm,_,_⟩
     ·exact .inl hh
     ·exact .inr ⟨g,ps,ho,hvv,hB,hh,hm,(fun e=>by cases e),fun _=>.inr ⟨id,hmem,ho⟩⟩
    | foc imm s e pre cs post =>
     obtain ⟨hp,hcl,g,ps,sp,xs,us,ys,h1,h2,ho,hb,h3,vx,vu,vy,hB,hh,hm,_,_⟩:=h0
     exact ⟨hp,hcl,g,ps,sp,xs,us,ys,h1,h2,ho,hb,h3,vx.keepS fun b=>With.left,vu.keepS fun b=>With.left,vy.keepS fun b=>With.left,hB,hh,hm,(fun e=>by cases e),fun _=>.inr ⟨id,hmem,ho⟩⟩
   ·rw [if_neg hin] at hr
    subst hr
    have hnot : id ∉ ids:=by simpa using hin
    refine h0.keep (fun _ _ h=>h) (fun b=>With.left) (fun g hg hs=>?_) (fun _ _=>rfl) (fun _ _=>rfl)
    rcases hs with hs | ⟨i,hi,hgi⟩
    ·exact hs
    ·exact absurd (h.inj id i g hg hgi ▸ hi) hnot
 ·rcases hb with hb | ⟨i,_,hg⟩
  ·exact h.Slt b hb
  ·exact h.lt i b hg
theorem Out.freeze {w0 w : World} {S0 S : Nat → Prop} {B : Ctx} {β : Bet} {og : Nat → Option Nat} {st : St} {a : Act} (hO : Out w0 S0 B w S) (h : Rel w S B β og st a) (ids : List Nat) (hin : ∀ id ∈ ids,∃ r,lookup st.rows id = some r) :
  Out w0 S0 B w (With S og ids):=by
 refine ⟨hO.bel,fun b hb=>?_,fun b hb=>.inl (hO.sub b hb)⟩
 rcases hb with hb | ⟨i,hi,hg⟩
 ·exact hO.sin b hb
 ·obtain ⟨r,hr⟩:=hin i hi
  have:=h.row i r hr
  cases r with
  | box imm cs=>obtain ⟨g,_,_,ho,_,_,_,_,_,hB⟩:=this;rw [hg] at ho;cases ho;exact .inr hB
  | arr imm s e es csp =>
   obtain ⟨_,_,_,_,_,_,_,hor⟩:=this.arr_old
   rcases hor with ⟨_,ho,_⟩ | ⟨g,_,_,_,ho,_,hB,_⟩
   ·rw [hg] at ho;cases ho
   ·rw [hg] at ho;cases ho;exact .inr hB
  | foc imm s e pre cs post=>obtain ⟨_,_,g,_,_,_,_,_,_,_,ho,_,_,_,_,_,hB,_⟩:=this;rw [hg] at ho;cases ho;exact .inr hB
theorem setImm_nil (rows : List (Nat × Row)) : setImm [] rows = rows:=by
 induction rows with
 | nil=>rfl
 | cons x rest ih=>obtain ⟨i,r⟩:=x;simp [setImm,ih]
theorem purL_in {rows : List (Nat × Row)} {f : AV → Option (AV × List Nat)} (hf : ∀ v p,f v = some p → ∀ id ∈ p.2,∃ r,lookup rows id = some r) : ∀ (cs : List AV) (p : List AV × List Nat),purL f cs = some p → ∀ id ∈ p.2,∃ r,lookup rows id = some r
 | [],p,h,id,hid=>by simp [purL] at h;subst h;simp at hid
 | c :: cs,p,h,id,hid=>by
  simp only [purL] at h
  cases hc : f c with
  | none=>simp [hc] at h
  | some q =>
   cases hq : purL f cs with
   | none=>simp [hc,hq] at h
   | some q' =>
    simp [hc,hq] at h
    subst h
    simp at hid
    rcases hid with hid | hid
    ·exact hf c q hc id hid
    ·exact purL_in hf cs q' hq id hid
theorem pur1_in {rows : List (Nat × Row)} : ∀ (n : Nat) (v : AV) (p : AV × List Nat),pur1 rows n v = some p → ∀ id ∈ p.2,∃ r,lookup rows id = some r:=by
 intro n
 induction n with
 | zero=>intro v p h;simp [pur1] at h
 | succ n ih =>
  intro v p h id hid
  have hL:=purL_in (rows:=rows) (f:=pur1 rows n) ih
  cases v <;> simp only [pur1] at h
  case ptr i off =>
   cases hr : lookup rows i with
   | none=>simp [hr] at h
   | some r =>
    cases r with
    | arr _ _ _ _ _=>simp [hr] at h
    | foc _ _ _ _ _ _=>simp [hr] at h
    | box imm cs =>
     simp only [hr] at h
     cases hp : purL (pur1 rows n) cs with
     | none=>simp [hp] at h
     | some q =>
      simp [hp] at h
      subst h
      simp at hid
      rcases hid with rfl | hid
      ·exact ⟨_,hr⟩
      ·exact hL cs q hp id hid
  case eptr i j off =>
   cases hr : lookup rows i with
   | none=>simp [hr] at h
   | some r =>
    cases r with
    | box _ _=>simp [hr] at h
    | foc _ _ _ _ _ _=>simp [hr] at h
    | arr _ _ _ _ _=>simp [hr] at h;obtain ⟨_,h⟩:=h;subst h;simp at hid;subst hid;exact ⟨_,hr⟩
  case own i =>
   cases hr : lookup rows i with
   | none=>simp [hr] at h
   | some r =>
    cases r with
    | box _ _=>simp [hr] at h
    | arr _ _ _ _ _=>simp [hr] at h;subst h;simp at hid;subst hid;exact ⟨_,hr⟩
    | foc imm s e pre cs post =>
     simp only [hr] at h
     cases hp : purL (pur1 rows n) cs with
     | none=>simp [hp] at h
     | some q =>
      simp only [hp] at h
      split at h
      ·simp only [Option.some.injEq] at h
       subst h
       simp at hid
       rcases hid with rfl | hid
       ·exact ⟨_,hr⟩
       ·exact hL cs q hp id hid
      ·cases h
  case sub i lo m =>
   cases hr : lookup rows i with
   | none=>simp [hr] at h
   | some r =>
    cases r with
    | box _ _=>simp [hr] at h
    | foc _ _ _ _ _ _=>simp [hr] at h
    | arr _ _ _ _ _=>simp [hr] at h;obtain ⟨_,h⟩:=h;subst h;simp at hid;subst hid;exact ⟨_,hr⟩
  case agg cs =>
   cases hp : purL (pur1 rows n) cs with
   | none=>simp [hp] at h
   | some q=>simp [hp] at h;subst h;exact hL cs q hp id hid
  case tup cs =>
   cases hp : purL (pur1 rows n) cs with
   | none=>simp [hp] at h
   | some q=>simp [hp] at h;subst h;exact hL cs q hp id hid
  case fn f cs =>
   cases hp : purL (pur1 rows n) cs with
   | none=>simp [hp] at h
   | some q=>simp [hp] at h;subst h;exact hL cs q hp id hid
  all_goals first
   | (cases h;simp at hid;done)
   | (simp at h;done)
section ops
variable {R : Option Nat} {ρ : Type} {P : Program} {w0 w : World} {S0 S : Nat → Prop} {B : Ctx} {β : Bet} {og : Nat → Option Nat} {st : St} {a : Act} {o : Oper} {site : Nat} {y : Eff → Option ρ} {r : ρ}
 {K : Act → World → Prop} {Q : Exit → Act → World → Prop}
theorem optInt_some {x : Option Operand} (hR : VRels w S β st.tm a.tmps.toList) (h : optIsInt (x.map (val st.tm)) = true) (d : Int) :
  (x = none ∧ optInt (x.map (val st.tm)) d = d) ∨ ∃ z k,x = some z ∧ a.eval z = .int k (optInt (x.map (val st.tm)) d):=by
 cases x with
 | none=>exact .inl ⟨rfl,rfl⟩
 | some z =>
  refine .inr ⟨z,?_⟩
  have hv:=val_rel hR z
  simp only [Option.map_some] at h ⊢
  generalize val st.tm z = v at h hv ⊢
  cases v <;> simp [optIsInt] at h
  rename_i k n
  exact ⟨k,by simp,by rw [hv.int_inv];rfl⟩
theorem run_sliceBound {k : IntKind} {n : Int} {m : Nat} (c : BoundsCode) (h0 : 0 ≤ n) (h1 : n ≤ (m : Int)) : (Instr.sliceBound (.int k n) m c).run P w = .ok n.toNat w:=by
 simp only [Instr.sliceBound,asIntOf,pure_bind]
 rw [if_pos ⟨h0,h1⟩]
 rfl
theorem run_bounds (hR : VRels w S β st.tm a.tmps.toList) {lo hi : Option Operand} (hl : optIsInt (lo.map (val st.tm)) = true) (hh : optIsInt (hi.map (val st.tm)) = true) (sl : Bool) (len cap : Nat) (hlc : len ≤ cap)
  (h : slb (optInt (lo.map (val st.tm)) 0) (optInt (hi.map (val st.tm)) len) len = true) :
  (Instr.sliceBounds sl len cap (lo.map a.eval) (hi.map a.eval) none).run P w = .ok ((optInt (lo.map (val st.tm)) 0).toNat,(optInt (hi.map (val st.tm)) len).toNat,cap) w:=by
 simp only [slb,Bool.and_eq_true,decide_eq_true_eq] at h
 obtain ⟨h0,h1,h2⟩:=h
 rcases optInt_some hR hl 0 with ⟨rfl,e0⟩ | ⟨z,k,rfl,e0⟩ <;> rcases optInt_some hR hh len with ⟨rfl,e1⟩ | ⟨z',k',rfl,e1⟩
 ·simp [Instr.sliceBounds,optInt]
 ·generalize optInt (Option.map (val st.tm) (some z')) len = n at *
  rw [e0] at h1 ⊢
  have hb:=fun c=>run_sliceBound (P:=P) (w:=w) (k:=k') (n:=n) (m:=cap) c (by omega) (by omega)
  simp [Instr.sliceBounds,e1,hb]
 ·generalize optInt (Option.map (val st.tm) (some z)) 0 = n at *
  rw [e1] at h1 h2 ⊢
  have hb:=fun c=>run_sliceBound (P:=P) (w:=w) (k:=k) (n:=n) (m:=len) c (by omega) (by omega)
  simp [Instr.sliceBounds,e0,hb]
 ·generalize optInt (Option.map (val st.tm) (some z)) 0 = n at *
  generalize optInt (Option.map (val st.tm) (some z')) len = n' at *
  have hb:=fun c=>run_sliceBound (P:=P) (w:=w) (k:=k') (n:=n') (m:=cap) c (by omega) (by omega)
  have hb':=fun c=>run_sliceBound (P:=P) (w:=w) (k:=k) (n:=n) (m:=n'.toNat) c (by omega) (by omega)
  simp [Instr.sliceBounds,e0,e1,hb,hb']
theorem extract_mk (s : List UInt8) (l h : Nat) : (ByteArray.mk s.toArray).extract l h = ⟨((s.drop l).take (h - l)).toArray⟩:=by
 apply ByteArray.ext
 simp
theorem op_slice_str (hR : Rel w S B β og st a) (hO : Out w0 S0 B w S) {t : TypeId} {x : Operand} {lo hi : Option Operand} {s : List UInt8} (ho : o.op = .slice t x lo hi none) (ht : P.underlying t = some .string) (hx : val st.tm x = .str s)
  (hl : optIsInt (lo.map (val st.tm)) = true) (hh : optIsInt (hi.map (val st.tm)) = true) (hb : slb (optInt (lo.map (val st.tm)) 0) (optInt (hi.map (val st.tm)) s.length) s.length = true)
  (hy : y { v:=.str ((s.drop (optInt (lo.map (val st.tm)) 0).toNat).take ((optInt (hi.map (val st.tm)) s.length).toNat - (optInt (lo.map (val st.tm)) 0).toNat)) } = some r) (hK : Good w0 S0 B site o st y r K) : o.wpR R P a w K Q:=by
 have h:=val_rel hR.tm x
 rw [hx] at h
 refine op_slot hR hO (.str _ _) hy hK ?_
 have hbd:=run_bounds (P:=P) (w:=w) hR.tm hl hh false s.length s.length (Nat.le_refl _) hb
 have hsz : (ByteArray.mk s.toArray).size = s.length:=by simp [ByteArray.size]
 simp [execOp,ho,h.str_inv,Instr.sliceAt,run_underlying ht,Instr.slice,hsz,hbd,extract_mk]
theorem sizeOK_spec {e : TypeId} {s : Sh} (h : sizeOK P e s = true) : ∃ i,P.info? e = some i ∧ i.size = s.width:=by
 simp only [sizeOK,Bool.and_eq_true,beq_iff_eq] at h
 obtain ⟨i,hi⟩:=Option.isSome_iff_exists.1 h.1
 exact ⟨i,hi,by have:=h.2;simpa [Program.cellsOf,hi] using this⟩
theorem op_slice_slv (hR : Rel w S B β og st a) (hO : Out w0 S0 B w S) {rowsV : List (Nat × Row)} (hsub : ∀ id x,lookup rowsV id = some x → lookup st.rows id = some x) {t e : TypeId} {x : Operand} {lo hi : Option Operand} {s : Sh} {es : List AV} {ids : List Nat}
  (ho : o.op = .slice t x lo hi none) (ht : P.underlying t = some (.slice e)) (hx : pur1 rowsV depth (val st.tm x) = some (.slv s es,ids)) (hsz : sizeOK P e s = true)
  (hl : optIsInt (lo.map (val st.tm)) = true) (hh : optIsInt (hi.map (val st.tm)) = true) (hb : slb (optInt (lo.map (val st.tm)) 0) (optInt (hi.map (val st.tm)) es.length) es.length = true)
  (hy : y { v:=.slv s ((es.drop (optInt (lo.map (val st.tm)) 0).toNat).take ((optInt (hi.map (val st.tm)) es.length).toNat - (optInt (lo.map (val st.tm)) 0).toNat)),imm:=ids } = some r) (hK : Good w0 S0 B site o st y r K) : o.wpR R P a w K Q:=by
 have hp:=pur1_sound (w:=w) (S:=S) (B:=B) (β:=β) (og:=og) (rows:=rowsV) (fun id x hx=>hR.row id x (hsub _ _ hx)) depth _ _ _ _ hx (val_rel hR.tm x)
 obtain ⟨i,hi',hiw⟩:=sizeOK_spec hsz
 have hb0:=hb
 simp only [slb,Bool.and_eq_true,decide_eq_true_eq] at hb0
 obtain ⟨h0,h1,h2⟩:=hb0
 obtain ⟨A,c,he,hc,hv⟩:=slv_part hp β (l:=(optInt (lo.map (val st.tm)) 0).toNat) (hh:=(optInt (hi.map (val st.tm)) es.length).toNat) (by omega) (by omega)
 have hin : ∀ id ∈ ids,∃ r,lookup st.rows id = some r:=fun id hid=>by obtain ⟨r,hr⟩:=pur1_in _ _ _ hx id hid;exact ⟨r,hsub _ _ hr⟩
 have hF:=(hR.freeze ids).put o.dst hv
 refine wp_value (u:=.slice (if c = (optInt (lo.map (val st.tm)) 0).toNat then A else A.map (·.add ((optInt (lo.map (val st.tm)) 0).toNat * s.width))) ((optInt (hi.map (val st.tm)) es.length).toNat - (optInt (lo.map (val st.tm)) 0).toNat) (c - (optInt (lo.map (val st.tm)) 0).toNat)) (w':=w) ?_ (hK _ _ _ hy ⟨With S og ids,β,og,?_,hO.freeze hR ids hin⟩)
 ·have hbd:=run_bounds (P:=P) (w:=w) hR.tm hl hh true es.length c hc hb
  simp [execOp,ho,he,Instr.sliceAt,run_underlying ht,Instr.slice,hbd,sizeOf,typeInfo,hi',hiw]
 ·have : applyRows site { v:=AV.slv s ((es.drop (optInt (lo.map (val st.tm)) 0).toNat).take ((optInt (hi.map (val st.tm)) es.length).toNat - (optInt (lo.map (val st.tm)) 0).toNat)),imm:=ids } st.rows = setImm ids st.rows:=by
   simp only [applyRows,List.foldl_nil]
   cases ids with
   | nil=>rw [setImm_nil]
   | cons i is=>rfl
  simp only [apply,this,List.map_nil,List.nil_append]
  exact hF
theorem has1_hasSh {s : Sh} {v : AV} (h : has1 s v = true) : hasSh s v = true:=by
 cases s with
 | agg l=>cases v <;> simp [has1] at h
 | other=>exact h
 | int k=>exact h
 | bool=>exact h
 | str=>exact h
 | slice s=>exact h
theorem flat_ones {s : Sh} : ∀ {es : List AV},(∀ e ∈ es,has1 s e = true) → flat es = es
 | [],_=>rfl
 | e :: es,h=>by
  have:=flat_ones (es:=es) fun x hx=>h x (by simp [hx])
  simp only [flat,List.flatMap_cons] at this ⊢
  rw [this,(has1_cells s e (h e (by simp))).1]
  rfl
theorem op_slice_arr (hR : Rel w S B β og st a) (hO : Out w0 S0 B w S) {rowsV : List (Nat × Row)} (hsub : ∀ id x,lookup rowsV id = some x → lookup st.rows id = some x) {t e : TypeId} {x : Operand} {n : Nat} {cs : List AV} {ids : List Nat}
  (ho : o.op = .slice t x none none none) (ht : P.underlying t = some (.array n e)) (hx : pur1 rowsV depth (val st.tm x) = some (.ref cs,ids)) (hsz : (P.info? e).isSome = true) (hn : n ≤ 1000000) (hl : n ≤ cs.length) (hs : ∀ c ∈ cs.take n,has1 (shOf P depth e) c = true)
  (hy : y { v:=.slv (shOf P depth e) (cs.take n),imm:=ids } = some r) (hK : Good w0 S0 B site o st y r K) : o.wpR R P a w K Q:=by
 have hp:=pur1_sound (w:=w) (S:=S) (B:=B) (β:=β) (og:=og) (rows:=rowsV) (fun id x hx=>hR.row id x (hsub _ _ hx)) depth _ _ _ _ hx (val_rel hR.tm x)
 obtain ⟨i,hi'⟩:=Option.isSome_iff_exists.1 hsz
 have hin : ∀ id ∈ ids,∃ r,lookup st.rows id = some r:=fun id hid=>by obtain ⟨r,hr⟩:=pur1_in _ _ _ hx id hid;exact ⟨r,hsub _ _ hr⟩
 generalize he : a.eval x = u at hp
 cases hp with
 | ref _ _ ad xs hS hlx h1 hxs hh =>
  have hes : (cs.take n).length = n:=by rw [List.length_take];omega
  have hfl:=flat_ones hs
  have hv : VRel w (With S og ids) β (.slv (shOf P depth e) (cs.take n)) (.slice (some ad) (cs.take n).length n):=by
   refine .slv _ _ _ (some ad) n ad (xs.take n) (fun c hc=>has1_hasSh (hs c hc)) (by omega) (by unfold maxLen;omega) (fun _=>⟨rfl,hS⟩) (by rw [hfl,List.length_take,List.length_take,hlx]) (fun u hu=>h1 u (List.mem_of_mem_take hu)) (fun j u hu=>?_) (fun j c u hc hu=>?_)
   ·rw [List.getElem?_take] at hu
    split at hu
    ·exact hxs j u hu
    ·cases hu
   ·rw [hfl,List.getElem?_take] at hc
    rw [List.getElem?_take] at hu
    split at hc
    ·rename_i hj
     rw [if_pos hj] at hu
     exact hh j c u hc hu
    ·cases hc
  rw [hes] at hv
  have hF:=(hR.freeze ids).put o.dst hv
  refine wp_value (u:=.slice (some ad) n n) (w':=w) ?_ (hK _ _ _ hy ⟨With S og ids,β,og,?_,hO.freeze hR ids hin⟩)
  ·simp [execOp,ho,he,Instr.sliceAt,Instr.sureAddr,run_underlying ht,Instr.sliceBounds,sizeOf,typeInfo,hi',Addr.add]
  ·have : applyRows site { v:=AV.slv (shOf P depth e) (cs.take n),imm:=ids } st.rows = setImm ids st.rows:=by
    simp only [applyRows,List.foldl_nil]
    cases ids with
    | nil=>rw [setImm_nil]
    | cons i is=>rfl
   simp only [apply,this,List.map_nil,List.nil_append]
   exact hF
theorem op_slice_cut (hR : Rel w S B β og st a) (hO : Out w0 S0 B w S) {rowsV : List (Nat × Row)} (hsub : ∀ id x,lookup rowsV id = some x → lookup st.rows id = some x) {t e : TypeId} {x h m : Operand} {s : Sh} {es : List AV} {ids : List Nat} {k k' : IntKind} {n : Int}
  (ho : o.op = .slice t x none (some h) (some m)) (ht : P.underlying t = some (.slice e)) (hx : pur1 rowsV depth (val st.tm x) = some (.slv s es,ids)) (hsz : sizeOK P e s = true) (hh : val st.tm h = .int k n) (hm : val st.tm m = .int k' n)
  (h0 : 0 ≤ n) (h1 : n ≤ es.length) (hy : y { v:=.slv s (es.take n.toNat),imm:=ids } = some r) (hK : Good w0 S0 B site o st y r K) : o.wpR R P a w K Q:=by
 have hp:=pur1_sound (w:=w) (S:=S) (B:=B) (β:=β) (og:=og) (rows:=rowsV) (fun id x hx=>hR.row id x (hsub _ _ hx)) depth _ _ _ _ hx (val_rel hR.tm x)
 obtain ⟨i,hi',hiw⟩:=sizeOK_spec hsz
 obtain ⟨A,c,he,hc,hv⟩:=slv_part hp β (l:=0) (hh:=n.toNat) (by omega) (by omega)
 obtain ⟨A',c',ad,xs,e1,hs,hc',hcm,hA,hxs,hx1,hx2⟩:=hv.slv_inv
 have hlen : ((es.drop 0).take (n.toNat - 0)).length = n.toNat:=by simp;omega
 have hv2 : VRel w (With S og ids) β (.slv s (es.take n.toNat)) (.slice A' n.toNat n.toNat):=by
  have : VRel w (With S og ids) β (.slv s ((es.drop 0).take (n.toNat - 0))) (.slice A' ((es.drop 0).take (n.toNat - 0)).length n.toNat):=.slv _ s _ A' n.toNat ad xs hs (by rw [hlen];exact Nat.le_refl _) (by rw [hlen] at hc';omega) hA hxs.1 hx1 hx2 hxs.2
  rw [hlen] at this
  simpa using this
 have hA' : A' = A:=by
  have e2:=e1
  simp only [Value.slice.injEq,Nat.zero_mul] at e2
  rw [← e2.1]
  split
  ·rfl
  ·cases A with
   | none=>rfl
   | some ad0=>simp [Addr.add]
 have hin : ∀ id ∈ ids,∃ r,lookup st.rows id = some r:=fun id hid=>by obtain ⟨r,hr⟩:=pur1_in _ _ _ hx id hid;exact ⟨r,hsub _ _ hr⟩
 have hF:=(hR.freeze ids).put o.dst hv2
 have hhv:=val_rel hR.tm h
 rw [hh] at hhv
 have hmv:=val_rel hR.tm m
 rw [hm] at hmv
 refine wp_value (u:=.slice A' n.toNat n.toNat) (w':=w) ?_ (hK _ _ _ hy ⟨With S og ids,β,og,?_,hO.freeze hR ids hin⟩)
 ·have hb1:=fun cc=>run_sliceBound (P:=P) (w:=w) (k:=k') (n:=n) (m:=c) cc h0 (by omega)
  have hb2:=fun cc=>run_sliceBound (P:=P) (w:=w) (k:=k) (n:=n) (m:=n.toNat) cc h0 (by omega)
  simp [execOp,ho,he,Instr.sliceAt,run_underlying ht,Instr.slice,Instr.sliceBounds,hhv.int_inv,hmv.int_inv,hb1,hb2,sizeOf,typeInfo,hi']
  rw [hA']
  split
  ·rfl
  ·cases A with
   | none=>rfl
   | some ad0=>simp [Addr.add]
 ·have : applyRows site { v:=AV.slv s (es.take n.toNat),imm:=ids } st.rows = setImm ids st.rows:=by
   simp only [applyRows,List.foldl_nil]
   cases ids with
   | nil=>rw [setImm_nil]
   | cons i is=>rfl
  simp only [apply,this,List.map_nil,List.nil_append]
  exact hF
theorem op_slice_zero (hR : Rel w S B β og st a) (hO : Out w0 S0 B w S) {rowsV : List (Nat × Row)} (hsub : ∀ id x,lookup rowsV id = some x → lookup st.rows id = some x) {t e : TypeId} {x m : Operand} {lo hi : Option Operand} {s : Sh} {es : List AV} {ids : List Nat} {k : IntKind}
  (ho : o.op = .slice t x lo hi (some m)) (ht : P.underlying t = some (.slice e)) (hx : pur1 rowsV depth (val st.tm x) = some (.slv s es,ids)) (hsz : sizeOK P e s = true) (hm : val st.tm m = .int k 0)
  (hl : optIsInt (lo.map (val st.tm)) = true) (hh : optIsInt (hi.map (val st.tm)) = true) (hl0 : optInt (lo.map (val st.tm)) 0 = 0) (hh0 : optInt (hi.map (val st.tm)) 1 = 0)
  (hy : y { v:=.slz s } = some r) (hK : Good w0 S0 B site o st y r K) : o.wpR R P a w K Q:=by
 have hp:=pur1_sound (w:=w) (S:=S) (B:=B) (β:=β) (og:=og) (rows:=rowsV) (fun id x hx=>hR.row id x (hsub _ _ hx)) depth _ _ _ _ hx (val_rel hR.tm x)
 obtain ⟨A,c,ad,xs,he,_,hc,_⟩:=hp.slv_inv
 obtain ⟨i,hi',hiw⟩:=sizeOK_spec hsz
 have hmv:=val_rel hR.tm m
 rw [hm] at hmv
 refine op_slot hR hO (.slz _ s A) hy hK ?_
 rcases optInt_some hR.tm hl 0 with ⟨rfl,e0⟩ | ⟨z,k0,rfl,e0⟩ <;> rcases optInt_some hR.tm hh 1 with ⟨rfl,e1⟩ | ⟨z',k',rfl,e1⟩
 ·simp [optInt] at hh0
 ·rw [hh0] at e1
  simp [execOp,ho,he,Instr.sliceAt,run_underlying ht,Instr.slice,Instr.sliceBounds,Instr.sliceBound,asIntOf,hmv.int_inv,e1,sizeOf,typeInfo,hi']
 ·simp [optInt] at hh0
 ·rw [hh0] at e1
  rw [hl0] at e0
  simp [execOp,ho,he,Instr.sliceAt,run_underlying ht,Instr.slice,Instr.sliceBounds,Instr.sliceBound,asIntOf,hmv.int_inv,e0,e1,sizeOf,typeInfo,hi']
theorem inb_spec {n : Int} {m : Nat} (h : inb n m = true) : 0 ≤ n ∧ n < m ∧ n.toNat < m:=by
 simp only [inb,Bool.and_eq_true,decide_eq_true_eq] at h
 exact ⟨h.1,h.2,by omega⟩
theorem op_indexAddr_slv (hR : Rel w S B β og st a) (hO : Out w0 S0 B w S) {t e : TypeId} {x i : Operand} {s : Sh} {es : List AV} {k : IntKind} {n : Int} (ho : o.op = .indexAddr t x i) (ht : P.underlying t = some (.slice e)) (hx : val st.tm x = .slv s es) (hi : val st.tm i = .int k n)
  (hsz : sizeOK P e s = true) (hb : inb n es.length = true) (hy : y { v:=.eref s es n.toNat 0 } = some r) (hK : Good w0 S0 B site o st y r K) : o.wpR R P a w K Q:=by
 have h:=val_rel hR.tm x
 rw [hx] at h
 have h':=val_rel hR.tm i
 rw [hi] at h'
 obtain ⟨b0,b1,b2⟩:=inb_spec hb
 obtain ⟨A,c,ad,xs,he,hs,hc,hm,hA,hv,h1,hxs⟩:=h.slv_inv
 obtain ⟨rfl,hS⟩:=hA (by rintro rfl;simp at b2)
 obtain ⟨ii,hii,hiw⟩:=sizeOK_spec hsz
 refine op_slot hR hO (.eref _ s es n.toNat 0 ad xs b2 hs hS hv.1 h1 hxs hv.2) hy hK ?_
 simp [execOp,ho,he,h'.int_inv,Instr.indexAt,asIntOf,run_underlying ht,b0,b1,sizeOf,typeInfo,hii,hiw]
theorem op_indexAddr_ptr (hR : Rel w S B β og st a) (hO : Out w0 S0 B w S) {t e : TypeId} {x i : Operand} {id off len : Nat} {k : IntKind} {n : Int} (ho : o.op = .indexAddr t x i) (ht : P.underlying t = some (.array len e)) (hx : val st.tm x = .ptr id off) (hi : val st.tm i = .int k n)
  (hsz : (P.info? e).isSome = true) (hb : inb n len = true) (hy : y { v:=.ptr id (off + n.toNat * P.cellsOf e) } = some r) (hK : Good w0 S0 B site o st y r K) : o.wpR R P a w K Q:=by
 have h:=val_rel hR.tm x
 rw [hx] at h
 have h':=val_rel hR.tm i
 rw [hi] at h'
 obtain ⟨b0,b1,b2⟩:=inb_spec hb
 obtain ⟨ii,hii⟩:=Option.isSome_iff_exists.1 hsz
 have hc : P.cellsOf e = ii.size:=by unfold Program.cellsOf;rw [hii];rfl
 generalize he : a.eval x = u at h
 cases h with
 | ptr _ _ _ g wd hb' =>
  refine op_slot hR hO (.ptr _ id (off + n.toNat * P.cellsOf e) g wd hb') hy hK ?_
  simp [execOp,ho,he,h'.int_inv,Instr.indexAt,Instr.sureAddr,asIntOf,run_underlying ht,b0,b1,sizeOf,typeInfo,hii,hc,add_lit']
theorem op_indexAddr_ref (hR : Rel w S B β og st a) (hO : Out w0 S0 B w S) {t e : TypeId} {x i : Operand} {cs : List AV} {len : Nat} {k : IntKind} {n : Int} (ho : o.op = .indexAddr t x i) (ht : P.underlying t = some (.array len e)) (hx : val st.tm x = .ref cs) (hi : val st.tm i = .int k n)
  (hsz : (P.info? e).isSome = true) (hb : inb n len = true) (hy : y { v:=.ref (cs.drop (n.toNat * P.cellsOf e)) } = some r) (hK : Good w0 S0 B site o st y r K) : o.wpR R P a w K Q:=by
 have h:=val_rel hR.tm x
 rw [hx] at h
 have h':=val_rel hR.tm i
 rw [hi] at h'
 obtain ⟨b0,b1,b2⟩:=inb_spec hb
 obtain ⟨ii,hii⟩:=Option.isSome_iff_exists.1 hsz
 have hc : P.cellsOf e = ii.size:=by unfold Program.cellsOf;rw [hii];rfl
 generalize he : a.eval x = u at h
 cases h with
 | ref _ _ ad xs hSa hl h1 hxs hh =>
  have hd:=(VRels.drop (cs:=cs) (vs:=xs) ⟨hl,hh⟩ (n.toNat * P.cellsOf e))
  refine op_slot (u:=.pointer (some (ad.add (n.toNat * P.cellsOf e)))) hR hO (.ref _ _ _ (xs.drop (n.toNat * P.cellsOf e)) (by rw [add_block];exact hSa) hd.1 (fun u hu=>h1 u (List.mem_of_mem_drop hu)) (fun j u hu=>?_) hd.2) hy hK ?_
  ·rw [add_add]
   exact hxs _ u (by simpa using hu)
  ·simp [execOp,ho,he,h'.int_inv,Instr.indexAt,Instr.sureAddr,asIntOf,run_underlying ht,b0,b1,sizeOf,typeInfo,hii,hc]
theorem op_iface (hR : Rel w S B β og st a) (hO : Out w0 S0 B w S) {rowsV : List (Nat × Row)} (hsub : ∀ id x,lookup rowsV id = some x → lookup st.rows id = some x) {t e : TypeId} {x : Operand} {cs : List AV} {ids : List Nat}
  (ho : o.op = .makeInterface t x) (ht : P.underlying t = some (.pointer e)) (hx : pur1 rowsV depth (valT P st.tm t x) = some (.ref cs,ids))
  (hy : y { v:=.ifr t cs,imm:=ids } = some r) (hK : Good w0 S0 B site o st y r K) : o.wpR R P a w K Q:=by
 have hp:=pur1_sound (w:=w) (S:=S) (B:=B) (β:=β) (og:=og) (rows:=rowsV) (fun id x hx=>hR.row id x (hsub _ _ hx)) depth _ _ _ _ hx (valT_rel hR.tm P t x)
 have hin : ∀ id ∈ ids,∃ r,lookup st.rows id = some r:=fun id hid=>by obtain ⟨r,hr⟩:=pur1_in _ _ _ hx id hid;exact ⟨r,hsub _ _ hr⟩
 have hv : VRel w (With S og ids) β (.ifr t cs) (.iface t (a.eval x)):=by
  generalize a.eval x = u at hp ⊢
  cases hp with
  | ref _ _ ad xs hS hlx h1 hxs hh=>exact .ifr _ _ _ _ (.ref _ _ _ _ hS hlx h1 hxs hh)
 have hF:=(hR.freeze ids).put o.dst hv
 refine wp_value (u:=.iface t (a.eval x)) (w':=w) ?_ (hK _ _ _ hy ⟨With S og ids,β,og,?_,hO.freeze hR ids hin⟩)
 ·simp [execOp,ho,Instr.makeInterface,run_underlying ht]
 ·have : applyRows site { v:=AV.ifr t cs,imm:=ids } st.rows = setImm ids st.rows:=by
   simp only [applyRows,List.foldl_nil]
   cases ids with
   | nil=>rw [setImm_nil]
   | cons i is=>rfl
  simp only [apply,this,List.map_nil,List.nil_append]
  exact hF
theorem op_indexAddr_own (hR : Rel w S B β og st a) (hO : Out w0 S0 B w S) {t e e' : TypeId} {x i : Operand} {id : Nat} {im : Bool} {s : Sh} {es : List AV} {k : IntKind} {n : Int} (ho : o.op = .indexAddr t x i) (ht : P.underlying t = some (.slice e)) (hx : val st.tm x = .own id)
  {csp : Option (List AV)} (hl : lookup st.rows id = some (.arr im s e' es csp)) (hi : val st.tm i = .int k n)
  (hsz : sizeOK P e s = true) (hb : inb n es.length = true) (hy : y { v:=.eptr id n.toNat 0 } = some r) (hK : Good w0 S0 B site o st y r K) : o.wpR R P a w K Q:=by
 have h:=val_rel hR.tm x
 rw [hx] at h
 have h':=val_rel hR.tm i
 rw [hi] at h'
 obtain ⟨b0,b1,b2⟩:=inb_spec hb
 obtain ⟨hp,hsh,v,xs,hbt,h1,hvs,hor⟩:=(hR.row id _ hl).arr_old
 obtain ⟨ii,hii,hiw⟩:=sizeOK_spec hsz
 rcases hor with ⟨he0,_⟩ | ⟨g,cap,bo,cur,hog,hvv,_,hh,hc,hm,_⟩
 ·subst he0;simp at b2
 ·generalize he : a.eval x = u at h
  cases h with
  | own _ _ v' wd hb' =>
   rw [hbt] at hb'
   simp only [Option.some.injEq,Prod.mk.injEq] at hb'
   obtain ⟨rfl,rfl⟩:=hb'
   subst hvv
   refine op_slot hR hO (.eptr _ id n.toNat 0 g _ _ _ _ hbt) hy hK ?_
   simp [execOp,ho,he,h'.int_inv,Instr.indexAt,asIntOf,run_underlying ht,b0,b1,sizeOf,typeInfo,hii,hiw,add_lit']
theorem op_indexAddr_foc (hR : Rel w S B β og st a) (hO : Out w0 S0 B w S) {t e e' : TypeId} {x i : Operand} {id : Nat} {im : Bool} {s : Sh} {pre cs post : List AV} {k : IntKind} {n : Int} (ho : o.op = .indexAddr t x i) (ht : P.underlying t = some (.slice e)) (hx : val st.tm x = .own id)
  (hl : lookup st.rows id = some (.foc im s e' pre cs post)) (hi : val st.tm i = .int k n)
  (hsz : sizeOK P e s = true) (hb : inb n (pre.length + (post.length + 1)) = true) (hy : y { v:=.eptr id n.toNat 0 } = some r) (hK : Good w0 S0 B site o st y r K) : o.wpR R P a w K Q:=by
 have h:=val_rel hR.tm x
 rw [hx] at h
 have h':=val_rel hR.tm i
 rw [hi] at h'
 obtain ⟨b0,b1,b2⟩:=inb_spec hb
 obtain ⟨hpos,hcl,g,ps,sp,xs,us,ys,_,_,_,hbt,_⟩:=hR.row id _ hl
 obtain ⟨ii,hii,hiw⟩:=sizeOK_spec hsz
 generalize pre.length + (post.length + 1) = m at hbt b1 b2
 generalize he : a.eval x = u at h
 cases h with
 | own _ _ v' wd hb' =>
  rw [hbt] at hb'
  simp only [Option.some.injEq,Prod.mk.injEq] at hb'
  obtain ⟨rfl,rfl⟩:=hb'
  refine op_slot hR hO (.eptr _ id n.toNat 0 g _ _ _ _ hbt) hy hK ?_
  simp [execOp,ho,he,h'.int_inv,Instr.indexAt,asIntOf,run_underlying ht,b0,b1,sizeOf,typeInfo,hii,hiw,add_lit']
theorem op_index_str (hR : Rel w S B β og st a) (hO : Out w0 S0 B w S) {t : TypeId} {x i : Operand} {s : List UInt8} {k : IntKind} {n : Int} (ho : o.op = .index t x i) (ht : P.underlying t = some .string) (hx : valT P st.tm t x = .str s) (hi : val st.tm i = .int k n)
  (hb : inb n s.length = true) (hy : y { v:=.int .u8 ((s.getD n.toNat 0).toNat) } = some r) (hK : Good w0 S0 B site o st y r K) : o.wpR R P a w K Q:=by
 have h:=valT_rel hR.tm P t x
 rw [hx] at h
 have h':=val_rel hR.tm i
 rw [hi] at h'
 obtain ⟨b0,b1,b2⟩:=inb_spec hb
 refine op_slot hR hO (.int _ _ _) hy hK ?_
 have hg : (ByteArray.mk s.toArray)[n.toNat]? = some (s.getD n.toNat 0):=by
  have hlt : n.toNat < (ByteArray.mk s.toArray).size:=by simpa [ByteArray.size] using b2
  have h0:=getElem?_pos (ByteArray.mk s.toArray) n.toNat hlt
  rw [h0]
  congr 1
  show s.toArray[n.toNat] = _
  simp [List.getD,List.getElem?_eq_getElem b2]
 simp [execOp,ho,h.str_inv,h'.int_inv,Instr.index,asIntOf,run_underlying ht,b0,hg]
theorem op_index_arr (hR : Rel w S B β og st a) (hO : Out w0 S0 B w S) {t e : TypeId} {x i : Operand} {len : Nat} {cs : List AV} {k : IntKind} {n : Int} (ho : o.op = .index t x i) (ht : P.underlying t = some (.array len e)) (hx : valT P st.tm t x = .agg cs) (hi : val st.tm i = .int k n)
  (hag : isAggT P e = false) (h1 : P.cellsOf e = 1) (hd : (P.underlying e).isSome = true) (hl : len = cs.length) (hall : cs.all (has1 (shOf P depth e)) = true)
  (hb : inb n len = true) (hy : y { v:=eta1 (shOf P depth e) (cs.getD n.toNat .unk) } = some r) (hK : Good w0 S0 B site o st y r K) : o.wpR R P a w K Q:=by
 have h:=valT_rel hR.tm P t x
 rw [hx] at h
 have h':=val_rel hR.tm i
 rw [hi] at h'
 obtain ⟨b0,b1,b2⟩:=inb_spec hb
 obtain ⟨vs,he,hvs,_⟩:=h.agg_inv
 obtain ⟨d,hd⟩:=Option.isSome_iff_exists.1 hd
 obtain ⟨ii,hii,hiw⟩:=underlying_info hd
 have hc : cs[n.toNat]? = some (cs[n.toNat]'(by omega)):=List.getElem?_eq_getElem (by omega)
 obtain ⟨u,hu,hr⟩:=hvs.at_ hc
 have hgd : cs.getD n.toNat .unk = cs[n.toNat]'(by omega):=by simp [List.getD,hc]
 have hhas : has1 (shOf P depth e) (cs[n.toNat]'(by omega)) = true:=by
  rw [List.all_eq_true] at hall
  exact hall _ (List.getElem_mem _)
 refine op_slot hR hO (u:=u) (by rw [hgd];exact eta1_rel hhas hr) hy hK ?_
 simp [execOp,ho,he,h'.int_inv,Instr.index,asIntOf,run_underlying ht,b0,b1,part,run_isAgg hd,hag,sizeOf,typeInfo,hii,hiw,h1,hu]
end ops
end Go.Ev


namespace Go.Ev
open Go.RowKit
theorem run_storeCells_atM (P : Program) (g o : Nat) (t : TypeId) (fz : Nat × Nat) : ∀ (vs : List Value) (i : Nat) (cur : Array Value) (w : World),w.heap[g]? = some (.cells cur t fz) → (fz = (0,0) ∨ fz = (cur.size,cur.size + 1)) → o + i + vs.length ≤ cur.size → (∀ v ∈ vs,v.oneCell' = true) →
  (storeCells ⟨g,o,none⟩ vs i).run P w = .ok () (w.setRow g (cur.toList.take (o + i) ++ vs ++ cur.toList.drop (o + i + vs.length)).toArray)
 | [],i,cur,w,hg,_,_,_=>by
  simp only [storeCells,List.append_nil,List.length_nil,Nat.add_zero,List.take_append_drop,Array.toArray_toList]
  rw [setRow_self w g cur t fz hg]
  rfl
 | v :: rest,i,cur,w,hg,hfz,hl,h1=>by
  have hi : o + i < cur.size:=by simp at hl;omega
  have hadd : (⟨g,o,none⟩ : Addr).add i = ⟨g,o + i,none⟩:=by unfold Addr.add;split <;> simp_all
  have hcell : w.cell? ⟨g,o + i,none⟩ = some cur[o + i]:=by simp [World.cell?,hg,hi]
  have hfro : w.frozen? ⟨g,o + i,none⟩ = false:=by
   obtain ⟨lo,hi'⟩:=fz
   simp only [World.frozen?,hg,Bool.and_eq_false_iff,decide_eq_false_iff_not]
   rcases hfz with h | h
   ·right;cases h;simp
   ·left;cases h;simp;omega
  have hst : (store ((⟨g,o,none⟩ : Addr).add i) v).run P w = .ok () (w.setRow g (cur.setIfInBounds (o + i) v)):=by
   rw [hadd,run_store P w _ v _ (h1 v (by simp)),hcell]
   simp [hfro,setCell_eq_setRow w g (o + i) cur t fz v hg]
  have ih:=run_storeCells_atM P g o t fz rest (i + 1) (cur.setIfInBounds (o + i) v) (w.setRow g (cur.setIfInBounds (o + i) v)) (setRow_heap w g cur _ t _ hg) (by simpa using hfz) (by simp at hl ⊢;omega) (fun x hx=>h1 x (by simp [hx]))
  simp only [storeCells,Sem.run_bind,hst,Result.andThen_ok,ih,setRow_setRow]
  congr 3
  have e:=list_seg_step cur.toList (o + i) v rest (by simp at hl ⊢;omega)
  simpa [Array.toList_setIfInBounds,Nat.add_assoc] using e
theorem Lies.stores {P : Program} {w : World} {g : Nat} {cur : Array Value} {e : TypeId} {m : Bool} (h : Lies w g cur e m) (o : Nat) (vs : List Value) (i : Nat) (hl : o + i + vs.length ≤ cur.size) (h1 : ∀ v ∈ vs,v.oneCell' = true) :
  (storeCells ⟨g,o,none⟩ vs i).run P w = .ok () (w.setRow g (cur.toList.take (o + i) ++ vs ++ cur.toList.drop (o + i + vs.length)).toArray):=by
 obtain ⟨fz,hfz,hg⟩:=h
 exact run_storeCells_atM P g o e fz vs i cur w hg (hfz.imp id And.right) hl h1
theorem run_append_roomM {P : Program} (w : World) (t ty e : TypeId) (i : TypeInfo) (ht : P.underlying t = some (.slice e)) (hi : P.info? e = some i)
  (g bo sLen sCap : Nat) (cur : Array Value) {mk : Bool} (hg : Lies w g cur e mk)
  (a : Addr) (m c : Nat) (news : List Value) (hl : news.length = m * i.size) (hnews : ∀ j u,news[j]? = some u → w.cell? (a.add j) = some u) (h1 : ∀ u ∈ news,u.oneCell' = true)
  (hroom : sLen + m ≤ sCap) (hfit : bo + sLen * i.size + news.length ≤ cur.size) :
  (Builtin.append_ #[t,t] ty #[.slice (some ⟨g,bo,none⟩) sLen sCap,.slice (some a) m c]).run P w =
   .ok (.slice (some ⟨g,bo,none⟩) (sLen + m) sCap) (w.setRow g (cur.toList.take (bo + sLen * i.size) ++ news ++ cur.toList.drop (bo + sLen * i.size + news.length)).toArray):=by
 obtain ⟨fz,hfz,hg⟩:=hg
 have hf:=run_firstCells_some (P:=P) w i.size m a m c news hl hnews
 have hst:=run_storeCells_atM P g (bo + sLen * i.size) e fz news 0 cur w hg (hfz.imp id And.right) (by simpa using hfit) h1
 simp only [Nat.add_zero] at hst
 simp [Builtin.append_,run_underlying ht,sizeOf,typeInfo,hi,Builtin.lenOf,hroom,hf,add_lit',hst]
theorem Lies.setRow {w : World} {g : Nat} {cur cs : Array Value} {e : TypeId} {m : Bool} (h : Lies w g cur e m) (hs : cs.size = cur.size) : Lies (w.setRow g cs) g cs e m:=by
 obtain ⟨fz,hfz,h⟩:=h
 exact ⟨fz,by rw [hs];exact hfz,setRow_heap w g cur _ e _ h⟩
section ops
variable {R : Option Nat} {ρ : Type} {P : Program} {w0 w : World} {S0 S : Nat → Prop} {B : Ctx} {β : Bet} {og : Nat → Option Nat} {st : St} {a : Act} {o : Oper} {site : Nat} {y : Eff → Option ρ} {r : ρ}
 {K : Act → World → Prop} {Q : Exit → Act → World → Prop}
theorem size_mk (s : List UInt8) : (ByteArray.mk s.toArray).size = s.length:=by simp [ByteArray.size]
theorem map_eval (args : Array Operand) (us : List Value) (h : args.toList.map a.eval = us) : args.map a.eval = us.toArray:=by
 apply Array.ext'
 simpa using h
theorem minInt_sound {k : IntKind} : ∀ (rest : List AV) (us : List Value) (x n : Int),minInt k x rest = some n → VRels w S β rest us → (us.foldlM Builtin.min2 (.int k x)).run P w = .ok (.int k n) w
 | [],us,x,n,h,hv=>by simp [minInt] at h;rw [hv.inv_nil];simp [h]
 | c :: rest,us,x,n,h,hv=>by
  obtain ⟨u,us',rfl,hu,hs⟩:=hv.inv
  cases c <;> simp only [minInt] at h <;> try (cases h)
  rename_i k' m
  split at h
  ·rename_i hk
   subst hk
   rw [hu.int_inv]
   have ih:=minInt_sound rest us' _ n h hs
   simp only [List.foldlM_cons,Builtin.min2,pure_bind]
   exact ih
  ·cases h
theorem maxInt_sound {k : IntKind} : ∀ (rest : List AV) (us : List Value) (x n : Int),maxInt k x rest = some n → VRels w S β rest us → (us.foldlM Builtin.max2 (.int k x)).run P w = .ok (.int k n) w
 | [],us,x,n,h,hv=>by simp [maxInt] at h;rw [hv.inv_nil];simp [h]
 | c :: rest,us,x,n,h,hv=>by
  obtain ⟨u,us',rfl,hu,hs⟩:=hv.inv
  cases c <;> simp only [maxInt] at h <;> try (cases h)
  rename_i k' m
  split at h
  ·rename_i hk
   subst hk
   rw [hu.int_inv]
   have ih:=maxInt_sound rest us' _ n h hs
   simp only [List.foldlM_cons,Builtin.max2,pure_bind]
   exact ih
  ·cases h
theorem elems_sound (hR : Rel w S B β og st a) {rowsV : List (Nat × Row)} (hsub : ∀ id x,lookup rowsV id = some x → lookup st.rows id = some x) {z : AV} {s : Sh} {es : List AV} (h : elemsOf rowsV z = some (s,es)) {u : Value} (hv : VRel w S β z u) :
  ∃ (A : Option Addr) (c : Nat) (ad : Addr) (xs : List Value),u = .slice A es.length c ∧ (∀ e ∈ es,hasSh s e = true) ∧ (es ≠ [] → A = some ad) ∧ VRels w S nob (flat es) xs ∧ (∀ u ∈ xs,u.oneCell' = true) ∧
   (∀ (j : Nat) (u : Value),xs[j]? = some u → w.cell? (ad.add j) = some u) ∧ es.length ≤ maxLen:=by
 cases z <;> simp only [elemsOf] at h <;> try (cases h)
 ·obtain ⟨A,c,ad,xs,rfl,hs,hc,hm,hA,hvs,h1,hx⟩:=hv.slv_inv
  exact ⟨A,c,ad,xs,rfl,hs,fun hne=>(hA hne).1,hvs,h1,hx,by omega⟩
 ·cases hv with
  | slz _ _ A=>exact ⟨A,0,default,[],rfl,by simp,fun h=>absurd rfl h,VRels.nil,by simp,by simp,by simp⟩
 ·rename_i id
  split at h
  ·rename_i im s' e es' csp hl
   cases h
   obtain ⟨hp,hsh,v,xs,hbt,h1,hvs,hor⟩:=(hR.row id _ (hsub _ _ hl)).arr_old
   cases hv with
   | own _ _ v' wd hb' =>
    rw [hbt] at hb'
    simp only [Option.some.injEq,Prod.mk.injEq] at hb'
    obtain ⟨rfl,rfl⟩:=hb'
    rcases hor with ⟨he0,_,A,rfl⟩ | ⟨g,cap,bo,cur,hog,rfl,_,hh,hc,hm,_,htk,_⟩
    ·subst he0
     exact ⟨A,0,default,xs,rfl,by simp,fun h=>absurd rfl h,hvs,h1,fun j u hu=>by
      have : xs = []:=by have:=hvs.1;simpa [flat] using this
      subst this
      simp at hu,by simp⟩
    ·refine ⟨_,cap,⟨g,bo,none⟩,xs,rfl,hsh,fun _=>rfl,hvs,h1,fun j u hu=>?_,by omega⟩
     rw [add_lit',row_cell hh]
     rw [← htk,List.getElem?_take] at hu
     split at hu
     ·simpa using hu
     ·cases hu
  ·cases h
 ·rename_i id lo n
  split at h
  ·rename_i im s' e es' csp hl
   split at h
   ·rename_i hle
    cases h
    obtain ⟨hp,hsh,v,xs,hbt,h1,hvs,hor⟩:=(hR.row id _ (hsub _ _ hl)).arr_old
    have hlen : ((es'.drop lo).take n).length = n:=by simp;omega
    have hfl : flat ((es'.drop lo).take n) = ((flat es').drop (lo * s.width)).take (n * s.width):=by
     rw [flat_take (s:=s) _ _ (fun x hx=>hsh x (List.mem_of_mem_drop hx)),flat_drop es' lo hsh]
    have hvv:=(hvs.drop (lo * s.width)).take (n * s.width)
    rw [← hfl] at hvv
    have hs' : ∀ e ∈ (es'.drop lo).take n,hasSh s e = true:=fun e he=>hsh e (List.mem_of_mem_drop (List.mem_of_mem_take he))
    have h1' : ∀ u ∈ (xs.drop (lo * s.width)).take (n * s.width),u.oneCell' = true:=fun u hu=>h1 u (List.mem_of_mem_drop (List.mem_of_mem_take hu))
    cases hv with
    | sub _ _ _ _ A m c wd hb' =>
     rw [hbt] at hb'
     simp only [Option.some.injEq,Prod.mk.injEq] at hb'
     obtain ⟨rfl,rfl⟩:=hb'
     rcases hor with ⟨he0,_,A',hA'⟩ | ⟨g,cap,bo,cur,hog,hvv',_,hh,hc,hm,_,htk,_⟩
     ·subst he0
      simp at hle
      obtain ⟨rfl,rfl⟩:=hle
      refine ⟨_,_,default,_,by rw [hlen],hs',fun h=>absurd (by simp) h,hvv,h1',fun j u hu=>?_,by simp⟩
      simp at hu
     ·cases hvv'
      refine ⟨_,_,⟨g,bo + lo * s.width,none⟩,_,by rw [hlen],hs',fun hne=>?_,hvv,h1',fun j u hu=>?_,by rw [hlen];omega⟩
      ·have hn : n ≠ 0:=by rintro rfl;simp at hne
       rw [if_neg (by omega)]
       simp [add_lit']
      ·rw [List.getElem?_take] at hu
       split at hu
       ·rw [List.getElem?_drop] at hu
        rw [add_lit',row_cell hh,Nat.add_assoc]
        rw [← htk,List.getElem?_take] at hu
        split at hu
        ·simpa using hu
        ·cases hu
       ·cases hu
   ·cases h
  ·cases h
theorem op_len (hR : Rel w S B β og st a) (hO : Out w0 S0 B w S) {rowsV : List (Nat × Row)} (hsub : ∀ id x,lookup rowsV id = some x → lookup st.rows id = some x) {args : Array Operand} {ts : Array TypeId} {t : TypeId} {tr : List TypeId} {x : AV}
  (ho : o.op = .call { callee:=.builtin .len,args:=args,argTypes:=ts }) (hts : ts.toList = t :: tr) (hx : valsT P st.tm ts.toList args.toList = [x])
  (h : evLen P rowsV t x y = some r) (hK : Good w0 S0 B site o st y r K) : o.wpR R P a w K Q:=by
 have hv:=valsT_rel hR.tm P ts.toList args.toList
 rw [hx] at hv
 obtain ⟨u,us,he,hu,hn⟩:=hv.inv
 rw [hn.inv_nil] at he
 have hm:=map_eval args _ he
 have ht0 : ts[0]? = some t:=by rw [← Array.getElem?_toList,hts];rfl
 unfold evLen at h
 split at h
 ·rename_i ht
  split at h
  ·refine op_slot hR hO (.int _ _ _) h hK ?_
   simp [execOp,ho,resolve,invoke,builtin,hm,Builtin.len_,ht0,run_underlying ht,hu.str_inv,goInt,size_mk]
  ·cases h
 ·rename_i e ht
  split at h
  ·rename_i n hfl
   cases x with
   | own id =>
    simp only [focLen] at hfl
    cases hl : lookup rowsV id with
    | none=>rw [hl] at hfl;cases hfl
    | some r0 =>
     cases r0 with
     | box _ _=>rw [hl] at hfl;cases hfl
     | arr _ _ _ _ _=>rw [hl] at hfl;cases hfl
     | foc im s e' pre cs post =>
      simp only [hl,Option.some.injEq] at hfl
      subst hfl
      obtain ⟨hpos,hcl,g,ps,sp,xs,us',ys,_,_,_,hbt,_⟩:=hR.row id _ (hsub _ _ hl)
      generalize pre.length + (post.length + 1) = m at hbt h
      cases hu with
      | own _ _ v' wd hb' =>
       rw [hbt] at hb'
       simp only [Option.some.injEq,Prod.mk.injEq] at hb'
       obtain ⟨rfl,rfl⟩:=hb'
       refine op_slot hR hO (.int _ _ _) h hK ?_
       simp [execOp,ho,resolve,invoke,builtin,hm,Builtin.len_,ht0,run_underlying ht,goInt]
   | _=>simp [focLen] at hfl
  split at h
  ·rename_i s es hel
   obtain ⟨A,c,ad,xs,rfl,_⟩:=elems_sound hR hsub hel hu
   refine op_slot hR hO (.int _ _ _) h hK ?_
   simp [execOp,ho,resolve,invoke,builtin,hm,Builtin.len_,ht0,run_underlying ht,goInt]
  ·cases h
 ·cases h
theorem op_min (hR : Rel w S B β og st a) (hO : Out w0 S0 B w S) {args : Array Operand} {ts : Array TypeId} {k : IntKind} {x n : Int} {rest : List AV}
  (ho : o.op = .call { callee:=.builtin .min,args:=args,argTypes:=ts }) (hx : valsT P st.tm ts.toList args.toList = .int k x :: rest) (hn : minInt k x rest = some n)
  (hy : y { v:=.int k n } = some r) (hK : Good w0 S0 B site o st y r K) : o.wpR R P a w K Q:=by
 have hv:=valsT_rel hR.tm P ts.toList args.toList
 rw [hx] at hv
 obtain ⟨u,us,he,hu,hs⟩:=hv.inv
 have hm:=map_eval args _ he
 refine op_slot hR hO (.int _ _ _) hy hK ?_
 have:=minInt_sound (P:=P) rest us x n hn hs
 simp [execOp,ho,resolve,invoke,builtin,hm,Builtin.min_,hu.int_inv,this]
theorem op_max (hR : Rel w S B β og st a) (hO : Out w0 S0 B w S) {args : Array Operand} {ts : Array TypeId} {k : IntKind} {x n : Int} {rest : List AV}
  (ho : o.op = .call { callee:=.builtin .max,args:=args,argTypes:=ts }) (hx : valsT P st.tm ts.toList args.toList = .int k x :: rest) (hn : maxInt k x rest = some n)
  (hy : y { v:=.int k n } = some r) (hK : Good w0 S0 B site o st y r K) : o.wpR R P a w K Q:=by
 have hv:=valsT_rel hR.tm P ts.toList args.toList
 rw [hx] at hv
 obtain ⟨u,us,he,hu,hs⟩:=hv.inv
 have hm:=map_eval args _ he
 refine op_slot hR hO (.int _ _ _) hy hK ?_
 have:=maxInt_sound (P:=P) rest us x n hn hs
 simp [execOp,ho,resolve,invoke,builtin,hm,Builtin.max_,hu.int_inv,this]
theorem elemOK_spec {e : TypeId} (h : elemOK P e = true) : ∃ i z,P.info? e = some i ∧ i.zero = some z ∧ i.size = (shOf P depth e).width ∧ 0 < i.size ∧ z.cells.size = i.size ∧ i.bytes = P.bytesOf e ∧
  ∃ zc,zeroAV P e = some zc ∧ hass (shOf P depth e).cells zc = true:=by
 unfold elemOK at h
 cases hi : P.info? e with
 | none=>simp [hi] at h
 | some i =>
  simp only [hi,Bool.and_eq_true,beq_iff_eq] at h
  obtain ⟨h1,h2,h3,h4⟩:=h
  cases hz : i.zero with
  | none=>simp [hz] at h3
  | some z =>
   simp only [hz,beq_iff_eq] at h3
   cases hza : zeroAV P e with
   | none=>simp [hza] at h4
   | some zc =>
    simp only [hza] at h4
    exact ⟨i,z,rfl,hz,h1,Nat.blt_eq ▸ h2,h3,by simp [Program.bytesOf,hi],zc,rfl,h4⟩
theorem range_rep {α : Type} (zs : List α) (d : α) (n : Nat) (hn : zs.length = n) (hpos : 0 < n) : ∀ len : Nat,(List.range (len * n)).map (fun j=>zs.getD (j % n) d) = (List.replicate len zs).flatten
 | 0=>by simp
 | len + 1=>by
  have ih:=range_rep zs d n hn hpos len
  rw [Nat.add_mul,Nat.one_mul,Nat.add_comm,List.range_add,List.map_append,List.replicate_succ,List.flatten_cons]
  congr 1
  ·apply List.ext_getElem?
   intro j
   simp only [List.getElem?_map]
   by_cases hj : j < n
   ·simp [List.getElem?_range hj,Nat.mod_eq_of_lt hj,List.getD,List.getElem?_eq_getElem (show j < zs.length by omega)]
   ·simp [List.getElem?_eq_none (show (List.range n).length ≤ j by simp;omega),List.getElem?_eq_none (show zs.length ≤ j by omega)]
  ·rw [← ih,List.map_map]
   apply List.map_congr_left
   intro j _
   simp
theorem VRels.rep {cs : List AV} {vs : List Value} (h : VRels w S β cs vs) : ∀ len : Nat,VRels w S β (List.replicate len cs).flatten (List.replicate len vs).flatten
 | 0=>by simpa using VRels.nil
 | len + 1=>by
  rw [List.replicate_succ,List.replicate_succ,List.flatten_cons,List.flatten_cons]
  exact h.append (VRels.rep h len)
theorem ofCell_cells (s : Sh) (v : Value) : (ofCell s v).cells = [ofCell s v]:=by
 unfold ofCell
 split <;> first | rfl | (split <;> rfl)
theorem ofCells_cells : ∀ (l : List Sh) (vs : List Value),∀ c ∈ ofCells l vs,c.cells = [c]
 | _,[],c,hc=>by simp [ofCells] at hc
 | l,v :: vs,c,hc=>by
  simp only [ofCells,List.mem_cons] at hc
  rcases hc with rfl | hc
  ·exact ofCell_cells _ _
  ·exact ofCells_cells _ vs c hc
theorem ofVal_cells (s : Sh) (v : Value) : ∀ c ∈ (ofVal s v).cells,c.cells = [c]:=by
 intro c hc
 unfold ofVal at hc
 split at hc
 ·split at hc
  ·exact ofCells_cells _ _ c hc
  ·simp [AV.cells] at hc;subst hc;rfl
 ·split at hc
  ·simp [AV.cells] at hc;subst hc;rfl
  ·simp [AV.cells] at hc;subst hc;rfl
 ·rw [ofCell_cells] at hc
  simp at hc
  subst hc
  exact ofCell_cells _ _
theorem mkAV_zero {s : Sh} {z : List AV} (hl : z.length = s.width) (h1 : ∀ c ∈ z,c.cells = [c]) : (mkAV s z).cells = z:=by
 cases s with
 | agg l=>rfl
 | _ =>
  match z,hl with
  | [c],_=>exact h1 c (by simp)
theorem mkAV_of {s : Sh} {avs : List AV} (h : hass s.cells avs = true) : (mkAV s avs).cells = avs ∧ hasSh s (mkAV s avs) = true:=by
 have one : ∀ s : Sh,s.cells = [s] → (∀ c,hasSh s c = has1 s c) → (mkAV s avs = avs.headD .unk) → hass s.cells avs = true → (mkAV s avs).cells = avs ∧ hasSh s (mkAV s avs) = true:=by
  intro s e1 e2 e3 h
  rw [e1] at h
  cases avs with
  | nil=>simp [hass] at h
  | cons c cs =>
   cases cs with
   | cons=>simp [hass] at h
   | nil =>
    simp only [hass,Bool.and_true] at h
    rw [e3,e2]
    exact ⟨(has1_cells s c h).1,h⟩
 cases s with
 | agg l=>exact ⟨rfl,h⟩
 | int k=>exact one (.int k) rfl (fun _=>rfl) rfl h
 | bool=>exact one .bool rfl (fun _=>rfl) rfl h
 | str=>exact one .str rfl (fun _=>rfl) rfl h
 | slice s=>exact one (.slice s) rfl (fun _=>rfl) rfl h
 | other=>exact one .other rfl (fun _=>rfl) rfl h
theorem zeros_rel {e : TypeId} {i : TypeInfo} {zz : Value} {zc : List AV} (hi : P.info? e = some i) (hzz : i.zero = some zz) (hzs : zz.cells.size = i.size) (hpos : 0 < i.size) (hza : zeroAV P e = some zc) (hh : hass (shOf P depth e).cells zc = true) (w : World) (S : Nat → Prop) (β : Bet) (k : Nat) :
  hasSh (shOf P depth e) (zeroE P e) = true ∧ VRels w S β (flat (List.replicate k (zeroE P e))) (Builtin.zeroCells zz.cells k).toList ∧ ∀ u ∈ (Builtin.zeroCells zz.cells k).toList,u.oneCell' = true:=by
 obtain ⟨i',v,hi',hv,hl,hzc⟩:=zeroAV_spec hza
 rw [hi] at hi'
 cases hi'
 rw [hzz] at hv
 cases hv
 obtain ⟨zs,hcz,hzvs,hz1⟩:=(ofVal_rel (w:=w) (S:=S) (β:=nob) (shOf P depth e) zz).laid hl (fun _ _ h=>by cases h)
 obtain ⟨m1,m2⟩:=mkAV_of hh
 have hzl : zs.length = i.size:=by rw [← hzs,hcz];simp
 have hzl2 : (Builtin.zeroCells zz.cells k).toList = (List.replicate k zs).flatten:=by
  have hr:=range_rep zs (default : Value) i.size hzl hpos k
  rw [← hr]
  unfold Builtin.zeroCells
  rw [hcz]
  simp only [List.size_toArray,hzl,Array.toList_map,Array.toList_range]
  apply List.map_congr_left
  intro j _
  have hlt : j % i.size < zs.length:=by rw [hzl];exact Nat.mod_lt _ hpos
  simp [List.getD,List.getElem?_eq_getElem hlt,getElem!_pos zs.toArray (j % i.size) (by simpa using hlt)]
 have hfl : flat (List.replicate k (zeroE P e)) = (List.replicate k zc).flatten:=by
  simp [flat,List.flatMap_replicate,zeroE,hza,m1]
 refine ⟨by simpa [zeroE,hza] using m2,?_,?_⟩
 ·rw [hfl,hzl2,hzc]
  exact (hzvs.mono (fun _ h=>h) (fun _ _=>rfl) (fun _ _ h=>by cases h)).rep k
 ·intro u hu
  rw [hzl2] at hu
  obtain ⟨l,hl,hul⟩:=List.mem_flatten.1 hu
  rw [(List.mem_replicate.1 hl).2] at hul
  exact hz1 u hul
theorem rowrel_new (hSlt : ∀ b,S b → b < w.heap.size) (hBlt : ∀ b,B b → b < w.heap.size) {e : TypeId} {i : TypeInfo} {zz : Value} {zc : List AV} (hi : P.info? e = some i) (hzz : i.zero = some zz) (hzs : zz.cells.size = i.size) (hpos : 0 < i.size) (hiw : i.size = (shOf P depth e).width)
  (hza : zeroAV P e = some zc) (hh : hass (shOf P depth e).cells zc = true) {s : Sh} (hse : s = shOf P depth e) {es : List AV} {xs : List Value} (hsh : ∀ x ∈ es,hasSh s x = true) (hvs : VRels w S nob (flat es) xs) (h1 : ∀ u ∈ xs,u.oneCell' = true) {cap : Nat} (hc : es.length ≤ cap) (hm : cap ≤ maxLen)
  {w1 : World} (hw1 : w1.heap = w.heap) {β' : Bet} {id : Nat} (hβ : β' id = some (.slice (some ⟨w.heap.size,0,none⟩) es.length cap,s.width)) :
  RowRel (w1.alloc (.cells (xs.toArray ++ Builtin.zeroCells zz.cells (cap - es.length)) e)) S B β' id (some w.heap.size) (.arr false s e es none):=by
 have hb:=below_alloc w1 (.cells (xs.toArray ++ Builtin.zeroCells zz.cells (cap - es.length)) e)
 rw [hw1] at hb
 obtain ⟨z1,z2,z3⟩:=zeros_rel (P:=P) hi hzz hzs hpos hza hh (w1.alloc (.cells (xs.toArray ++ Builtin.zeroCells zz.cells (cap - es.length)) e)) S nob (cap - es.length)
 have hx : (xs.toArray ++ Builtin.zeroCells zz.cells (cap - es.length)) = (xs ++ (Builtin.zeroCells zz.cells (cap - es.length)).toList).toArray:=by apply Array.ext';simp
 refine ⟨by rw [hse,← hiw];exact hpos,_,List.replicate (cap - es.length) (zeroE P e),xs ++ (Builtin.zeroCells zz.cells (cap - es.length)).toList,?_,(fun c h=>by cases h),hβ,?_,?_,.inr ⟨w.heap.size,[],rfl,?_,fun h=>Nat.lt_irrefl _ (hBlt _ h),?_,?_,fun _ hs=>absurd (hSlt _ hs) (Nat.lt_irrefl _),(fun h=>by cases h)⟩⟩
 ·intro x hx
  rcases List.mem_append.1 hx with h | h
  ·exact hsh x h
  ·rw [(List.mem_replicate.1 h).2,hse];exact z1
 ·intro u hu
  rcases List.mem_append.1 hu with h | h
  ·exact h1 u h
  ·exact z3 u h
 ·rw [flat_append]
  exact (hvs.mono (fun _ h=>h) (fun b hs=>by rw [hb.block b (hSlt b hs),hw1]) (fun _ _ h=>h)).append z2
 ·simp only [List.length_replicate];show Value.slice (some ⟨_,0,_⟩) _ _ = _;congr 1;omega
 ·have:=heap_alloc_new w1 (.cells (xs.toArray ++ Builtin.zeroCells zz.cells (cap - es.length)) e)
  rw [hw1] at this
  refine Lies.plain ?_
  rw [this,hx,List.nil_append]
 ·simp only [List.length_replicate];omega
theorem roomB_spec {n b : Nat} (h : roomB n b = true) : n * b ≤ 150000000000000 ∧ n ≤ 4611686018427387904:=by
 simp only [roomB,Bool.and_eq_true,Bool.or_eq_true,decide_eq_true_eq] at h
 refine ⟨?_,h.2⟩
 rcases h.1 with h | ⟨rfl,h⟩ <;> omega
theorem roomB_fits {n b old : Nat} (h : roomB n b = true) (hlt : old < n) : Builtin.nextslicecap n old * b ≤ 281474976710656:=by
 simp only [roomB,Bool.and_eq_true,Bool.or_eq_true,decide_eq_true_eq] at h
 rcases h.1 with h | ⟨rfl,h⟩
 ·exact growslice_fits hlt h
 ·have:=nextslicecap_le_wide (need:=n) hlt
  omega
theorem run_append_cap0 (t ty e : TypeId) (i : TypeInfo) (z : Value) (ht : P.underlying t = some (.slice e)) (hi : P.info? e = some i) (hz : i.zero = some z) (A : Option Addr)
  (ad : Addr) (n c : Nat) (news : List Value) (hl : news.length = n * i.size) (hnews : ∀ (j : Nat) (v : Value),news[j]? = some v → w.cell? (ad.add j) = some v)
  (h0 : 0 < n) (h63 : (n : Int) ≤ 9223372036854775807) (h48 : n * i.bytes ≤ 150000000000000) :
  (Builtin.append_ #[t,t] ty #[.slice A 0 0,.slice (some ad) n c]).run P w =
   .ok (.slice (some ⟨w.heap.size,0,none⟩) n (grownCap w n 0 e)) (w.drew.alloc (.cells (news.toArray ++ Builtin.zeroCells z.cells (grownCap w n 0 e - n)) e)):=by
 cases A with
 | none=>exact run_append_nil w t ty e i z ht hi hz ad n c news hl hnews h0 h63 (by omega)
 | some b =>
  have:=run_append_grow (P:=P) w t ty e i z ht hi hz b 0 0 [] (by simp) (by simp) ad n c news hl hnews (by omega) (by simpa using h63) (by
   rw [Nat.zero_add,nextslicecap_zero h0];omega)
  simpa using this
theorem below_drew_alloc (w : World) (x : Obj) : Below w.heap.size w (w.drew.alloc x):=((Below.refl _ _).drew).alloc (Nat.le_refl _) x
theorem run_append_zero (t ty e : TypeId) (i : TypeInfo) (ht : P.underlying t = some (.slice e)) (hi : P.info? e = some i) (g bo n cap : Nat) (A2 : Option Addr) (c2 : Nat) (hc : n ≤ cap) :
  (Builtin.append_ #[t,t] ty #[.slice (some ⟨g,bo,none⟩) n cap,.slice A2 0 c2]).run P w = .ok (.slice (some ⟨g,bo,none⟩) n cap) w:=by
 cases A2 <;> simp [Builtin.append_,run_underlying ht,sizeOf,typeInfo,hi,Builtin.lenOf,Builtin.firstCells,loadCells,loadCellsFrom,storeCells,hc]
structure AppSrc (P : Program) (w : World) (t t' e : TypeId) (i : TypeInfo) (z : Value) (u : Value) (n : Nat) (xs : List Value) : Prop where
 zero0 : n = 0 → ∀ (A : Option Addr) (ty : TypeId),(Builtin.append_ #[t,t'] ty #[.slice A 0 0,u]).run P w = .ok (.slice A 0 0) w
 zero : n = 0 → ∀ (g bo m cap : Nat) (ty : TypeId),m ≤ cap → (Builtin.append_ #[t,t'] ty #[.slice (some ⟨g,bo,none⟩) m cap,u]).run P w = .ok (.slice (some ⟨g,bo,none⟩) m cap) w
 cap0 : 0 < n → ∀ (A : Option Addr) (ty : TypeId),(n : Int) ≤ 9223372036854775807 → n * i.bytes ≤ 150000000000000 → (Builtin.append_ #[t,t'] ty #[.slice A 0 0,u]).run P w =
   .ok (.slice (some ⟨w.heap.size,0,none⟩) n (grownCap w n 0 e)) (w.drew.alloc (.cells (xs.toArray ++ Builtin.zeroCells z.cells (grownCap w n 0 e - n)) e))
 room : 0 < n → ∀ (g bo sLen sCap : Nat) (cur : Array Value) (mk : Bool) (ty : TypeId),Lies w g cur e mk → sLen + n ≤ sCap → bo + sLen * i.size + xs.length ≤ cur.size → (Builtin.append_ #[t,t'] ty #[.slice (some ⟨g,bo,none⟩) sLen sCap,u]).run P w =
   .ok (.slice (some ⟨g,bo,none⟩) (sLen + n) sCap) (w.setRow g (cur.toList.take (bo + sLen * i.size) ++ xs ++ cur.toList.drop (bo + sLen * i.size + xs.length)).toArray)
 grow : 0 < n → ∀ (b : Addr) (sLen sCap : Nat) (olds : List Value) (ty : TypeId),olds.length = sLen * i.size → (∀ (j : Nat) (v : Value),olds[j]? = some v → w.cell? (b.add j) = some v) → sCap < sLen + n → ((sLen + n : Nat) : Int) ≤ 9223372036854775807 → Builtin.nextslicecap (sLen + n) sCap * i.bytes ≤ 281474976710656 →
   (Builtin.append_ #[t,t'] ty #[.slice (some b) sLen sCap,u]).run P w =
   .ok (.slice (some ⟨w.heap.size,0,none⟩) (sLen + n) (grownCap w (sLen + n) sCap e)) (w.drew.alloc (.cells (olds.toArray ++ xs.toArray ++ Builtin.zeroCells z.cells (grownCap w (sLen + n) sCap e - (sLen + n))) e))
theorem bytesAV_length (b : List UInt8) : (bytesAV b).length = b.length:=by unfold bytesAV;simp
theorem bytesAV_rel (w : World) (S : Nat → Prop) : ∀ b : List UInt8,VRels w S nob (flat (bytesAV b)) (Lib.strCells ⟨b.toArray⟩)
 | []=>VRels.nil
 | _ :: b=>VRels.cons (.int _ _ _) (bytesAV_rel w S b)
theorem src_sound (hR : Rel w S B β og st a) {rowsV : List (Nat × Row)} (hsub : ∀ id x,lookup rowsV id = some x → lookup st.rows id = some x) {z : AV} {s : Sh} {es : List AV} {t t' e : TypeId} {i : TypeInfo} {zz : Value} (h : srcOf P t t' rowsV z = some (s,es)) {u : Value} (hv : VRel w S β z u)
  (ht : P.underlying t = some (.slice e)) (hi : P.info? e = some i) (hzz : i.zero = some zz) (hiw : i.size = s.width) (hmx : es.length ≤ maxLen) :
  ∃ xs : List Value,(∀ e ∈ es,hasSh s e = true) ∧ VRels w S nob (flat es) xs ∧ (∀ u ∈ xs,u.oneCell' = true) ∧ es.length ≤ maxLen ∧ xs.length = es.length * i.size ∧ AppSrc P w t t' e i zz u es.length xs:=by
 unfold srcOf at h
 split at h
 ·rename_i htt
  have htt' : t' = t:=by simpa using htt
  subst htt'
  obtain ⟨A2,c2,ad,xs,rfl,hsh,hA2,hvs,h1,hcell,hlm⟩:=elems_sound hR hsub h hv
  have hlen : xs.length = es.length * i.size:=by rw [hvs.1,flat_length es hsh,hiw]
  have hne : 0 < es.length → A2 = some ad:=fun h0=>hA2 (fun e=>by rw [e] at h0;exact Nat.lt_irrefl _ h0)
  refine ⟨xs,hsh,hvs,h1,hlm,hlen,⟨fun h0 A ty=>?_,fun h0 g bo m cap ty hm=>?_,fun h0 A ty h63 h48=>?_,fun h0 g bo sLen sCap cur mk ty hl hr hf=>?_,fun h0 b sLen sCap olds ty hlo ho hg h63 hfit=>?_⟩⟩
  ·rw [h0]
   cases A <;> cases A2 <;> simp [Builtin.append_,run_underlying ht,sizeOf,typeInfo,hi,Builtin.lenOf,Builtin.firstCells,loadCells,loadCellsFrom,storeCells]
  ·rw [h0]
   exact run_append_zero (P:=P) (w:=w) _ ty e i ht hi g bo m cap A2 c2 hm
  ·rw [hne h0]
   exact run_append_cap0 (P:=P) (w:=w) _ ty e i zz ht hi hzz A ad es.length c2 xs hlen hcell h0 h63 h48
  ·rw [hne h0]
   exact run_append_roomM (P:=P) w _ ty e i ht hi g bo sLen sCap cur hl ad es.length c2 xs hlen hcell h1 hr hf
  ·rw [hne h0]
   exact run_append_grow (P:=P) w _ ty e i zz ht hi hzz b sLen sCap olds hlo ho ad es.length c2 xs hlen hcell hg h63 hfit
 ·split at h
  ·rename_i hu
   split at h
   ·rename_i b
    simp only [Option.some.injEq,Prod.mk.injEq] at h
    obtain ⟨rfl,rfl⟩:=h
    rw [hv.str_inv]
    have hsz : (ByteArray.mk b.toArray).size = b.length:=by simp [ByteArray.size]
    have hw1 : i.size = 1:=hiw
    have hl1 : (Lib.strCells ⟨b.toArray⟩).length = b.length:=by rw [Lib.strCells_length,hsz]
    refine ⟨Lib.strCells ⟨b.toArray⟩,fun e he=>?_,bytesAV_rel w S b,Lib.strCells_oneCell _,hmx,by rw [hl1,hw1,bytesAV_length,Nat.mul_one],?_⟩
    ·obtain ⟨x,_,rfl⟩:=List.mem_map.1 he;rfl
    ·rw [bytesAV_length]
     refine ⟨fun h0 A ty=>?_,fun h0 g bo m cap ty hm=>?_,fun h0 A ty h63 h48=>?_,fun h0 g bo sLen sCap cur mk ty hl hr hf=>?_,fun h0 b2 sLen sCap olds ty hlo ho hg h63 hfit=>?_⟩
     ·have hb : b = []:=List.eq_nil_of_length_eq_zero h0
      subst hb
      have hz0 : ByteArray.size { data:=#[] } = 0:=rfl
      cases A <;> simp [Builtin.append_,run_underlying ht,run_underlying hu,sizeOf,typeInfo,hi,Builtin.lenOf,Builtin.firstCells,storeCells,hz0]
     ·have hb : b = []:=List.eq_nil_of_length_eq_zero h0
      subst hb
      have hz0 : ByteArray.size { data:=#[] } = 0:=rfl
      simp [Builtin.append_,run_underlying ht,run_underlying hu,sizeOf,typeInfo,hi,Builtin.lenOf,Builtin.firstCells,storeCells,hm,hz0]
     ·have hb1 : Builtin.nextslicecap b.length 0 * i.bytes ≤ 281474976710656:=by rw [nextslicecap_zero h0];omega
      cases A with
      | none =>
       have:=run_append_nil_string (P:=P) w t t' ty e i zz ht hu hi hzz ⟨b.toArray⟩ (by rw [hsz];exact h0) (by rw [hsz];exact h63) (by rw [hsz];omega)
       rw [hsz] at this
       rw [this]
       have e1 : ((ByteArray.mk b.toArray).data.map fun b=>Value.int .u8 b.toNat) = (Lib.strCells ⟨b.toArray⟩).toArray:=by
        apply Array.ext'
        simp [Lib.strCells]
       rw [e1]
      | some b2 =>
       have:=Lib.run_append_grow_string (P:=P) w t t' ty e i zz ht hu hi hzz b2 0 0 [] (by simp) (by simp) ⟨b.toArray⟩ (by rw [hsz];omega) (by rw [hsz];simpa using h63) (by rw [hsz];simpa using hb1)
       rw [hsz] at this
       simpa using this
     ·obtain ⟨fz,hfz,hgl⟩:=hl
      have hf1:=Lib.run_firstCells_string (P:=P) w 1 ⟨b.toArray⟩
      have hst:=run_storeCells_atM P g (bo + sLen) e fz (Lib.strCells ⟨b.toArray⟩) 0 cur w hgl (hfz.imp id And.right) (by rw [hw1] at hf;omega) (Lib.strCells_oneCell _)
      simp only [Nat.add_zero] at hst
      rw [hsz] at hf1
      rw [hw1,Nat.mul_one]
      simp [Builtin.append_,run_underlying ht,run_underlying hu,sizeOf,typeInfo,hi,hw1,Builtin.lenOf,hsz,hr,hf1,add_lit',hst]
     ·have:=Lib.run_append_grow_string (P:=P) w t t' ty e i zz ht hu hi hzz b2 sLen sCap olds hlo ho ⟨b.toArray⟩ (by rw [hsz];exact hg) (by rw [hsz];exact h63) (by rw [hsz];exact hfit)
      rw [hsz] at this
      exact this
   ·cases h
  ·cases h
theorem op_append_new (hR : Rel w S B β og st a) (hO : Out w0 S0 B w S) {rowsV : List (Nat × Row)} (hsub : ∀ id x,lookup rowsV id = some x → lookup st.rows id = some x) (hf : Fresh site st.used) {args : Array Operand} {ts : Array TypeId} {t t' e : TypeId} {s : Sh} {z : AV} {es2 : List AV}
  (ho : o.op = .call { callee:=.builtin .append,args:=args,argTypes:=ts }) (hts : ts.toList = [t,t']) (hx : valsT P st.tm ts.toList args.toList = [.slz s,z]) (ht : P.underlying t = some (.slice e)) (hz : srcOf P t t' rowsV z = some (s,es2))
  (hse : s = shOf P depth e) (hel : elemOK P e = true) (hroom : roomB es2.length (P.bytesOf e) = true)
  (hy : y { v:=.own site,new:=some (.arr false s e es2 none) } = some r) (hK : Good w0 S0 B site o st y r K) : o.wpR R P a w K Q:=by
 have hv:=valsT_rel hR.tm P ts.toList args.toList
 rw [hx] at hv
 obtain ⟨u,us,he,hu,hs1⟩:=hv.inv
 obtain ⟨u2,us2,rfl,hu2,hn⟩:=hs1.inv
 rw [hn.inv_nil] at he
 have hm:=map_eval args _ he
 have htt : ts = #[t,t']:=by apply Array.ext';simpa using hts
 obtain ⟨i,zz,hi,hzz,hiw,hpos,hzs,hby,zc,hza,hhz⟩:=elemOK_spec hel
 obtain ⟨hb1,hb2⟩:=roomB_spec hroom
 obtain ⟨xs,hsh,hvs,h1,hlm,hlen,hsrc⟩:=src_sound hR hsub hz hu2 ht hi hzz (hiw.trans (by rw [hse])) (by simp only [maxLen];omega)
 cases hu with
 | slz _ _ A =>
  rcases es2 with _ | ⟨e0,es2'⟩
  ·have hrun:=hsrc.zero0 rfl A o.type
   refine wp_value (u:=.slice A 0 0) (w':=w) (by have hrun':=hrun;simp only [execOp,ho,resolve,invoke,builtin,hm,htt,Sem.run_bind,Sem.run_pure,Result.andThen_ok,hrun']) (hK _ _ _ hy ⟨S,_,_,hR.new site hf o.dst (Below.refl _ _) (fun _ h=>h) (fun _ _ h=>h) hR.Slt
    (x:=.slice A 0 0) (wd:=s.width) (o:=none) rfl (fun g hg=>by cases hg) ⟨by rw [hse,← hiw];exact hpos,.slice A 0 0,[],[],by simp,(fun c h=>by cases h),upd_same _ _ _,by simp,VRels.nil,.inl ⟨rfl,rfl,rfl,A,rfl⟩⟩ (.own _ site _ _ (upd_same _ _ _)),hO⟩)
  ·have hrun:=hsrc.cap0 (by simp) A o.type (by omega) (by rw [hby];exact hb1)
   have hb:=below_drew_alloc w (.cells (xs.toArray ++ Builtin.zeroCells zz.cells (grownCap w (e0 :: es2').length 0 e - (e0 :: es2').length)) e)
   refine wp_value (u:=.slice (some ⟨w.heap.size,0,none⟩) (e0 :: es2').length (grownCap w (e0 :: es2').length 0 e)) (by simp only [execOp,ho,resolve,invoke,builtin,hm,htt,Sem.run_bind,Sem.run_pure,Result.andThen_ok,hrun]) (hK _ _ _ hy ⟨S,_,_,hR.new site hf o.dst hb (fun _ h=>h) (fun _ _ h=>h)
    (fun b hs=>by have:=hR.Slt b hs;simp;omega) (x:=.slice (some ⟨w.heap.size,0,none⟩) (e0 :: es2').length (grownCap w (e0 :: es2').length 0 e)) (wd:=s.width) (o:=some w.heap.size) rfl (fun g hg=>by cases hg;simp) ?_ (.own _ site _ _ (upd_same _ _ _)),hO.grow hR.Ble hb⟩)
   exact rowrel_new (w:=w) hR.Slt hR.Ble hi hzz hzs hpos hiw hza hhz hse hsh hvs h1 (grownCap_ge _ _ _ _) (grownCap_le_maxLen _ _ _ _ hlm) (w1:=w.drew) rfl (upd_same _ _ _)
theorem Rel.moved (h : Rel w S B β og st a) {id : Nat} (hf : Fresh site st.used) (dst : Option Tmp) {w' : World} {r1 : Row} {v : AV} {u x : Value} {wd : Nat} {o' : Option Nat}
  (hg : w.grownBy w' (og id)) (hnS : ∀ g,og id = some g → ¬ S g) (hx : x.oneCell' = true) (ho : ∀ g,o' = some g → (og id = some g ∨ w.heap.size ≤ g) ∧ g < w'.heap.size)
  (hrow : RowRel w' S B (upd β site (some (x,wd))) site o' r1) (hv : VRel w' S (upd β site (some (x,wd))) v u) :
  Rel w' S B (upd β site (some (x,wd))) (upd (upd og id none) site o') ⟨putTm st.tm dst v,setRow (delRow st.rows id) site r1,site :: st.used⟩ (a.put dst u):=by
 have hβ : ∀ id y,β id = some y → upd β site (some (x,wd)) id = some y:=fun id y hy=>by
  have hne : id ≠ site:=fun e=>hf.1 (by rw [← e];exact h.used id y hy)
  rw [upd_other _ _ _ _ hne];exact hy
 have hw : ∀ b,S b → w'.heap[b]? = w.heap[b]?:=fun b hs=>hg.block b (h.Slt b hs) (fun e=>hnS b e.symm hs)
 refine ⟨tm_put (h.tm.mono (fun _ h=>h) hw hβ) dst hv,by rw [Act.put_defers];exact h.df,fun i y hy=>?_,fun i i' g hgi hgi'=>?_,fun i g hgi=>?_,fun i y hy=>?_,fun i y hy=>?_,fun b hs=>Nat.lt_of_lt_of_le (h.Slt b hs) hg.size,fun b hb=>Nat.lt_of_lt_of_le (h.Ble b hb) hg.size,pid_upd h.pid hf.2⟩
 ·rw [lookup_setRow] at hy
  by_cases e : i = site
  ·subst e
   simp only [if_pos] at hy
   cases hy
   rw [upd_same]
   exact hrow
  ·rw [if_neg e,lookup_delRow] at hy
   by_cases e' : i = id
   ·rw [if_pos e'] at hy;cases hy
   ·rw [if_neg e'] at hy
    rw [upd_other _ _ _ _ e,upd_other _ _ _ _ e']
    refine (h.row i y hy).keep hβ (fun _ h=>h) (fun _ _ h=>h) hw (fun g hgi=>hg.block g (h.lt i g hgi) (fun e2=>e' (h.inj i id g hgi e2.symm)))
 ·have aux : ∀ i,i ≠ site → upd (upd og id none) site o' i = some g → og i = some g ∧ i ≠ id:=fun i hi hgi=>by
   rw [upd_other _ _ _ _ hi] at hgi
   by_cases e' : i = id
   ·rw [e',upd_same] at hgi;cases hgi
   ·rw [upd_other _ _ _ _ e'] at hgi;exact ⟨hgi,e'⟩
  have fin : ∀ i,i ≠ site → upd (upd og id none) site o' i = some g → o' = some g → False:=fun i hi hgi ho'=>by
   obtain ⟨h1,h2⟩:=aux i hi hgi
   rcases (ho g ho').1 with h3 | h3
   ·exact h2 (h.inj i id g h1 h3)
   ·have:=h.lt i g h1;omega
  by_cases e : i = site <;> by_cases e' : i' = site
  ·rw [e,e']
  ·subst e;rw [upd_same] at hgi;exact (fin i' e' hgi' hgi).elim
  ·subst e';rw [upd_same] at hgi';exact (fin i e hgi hgi').elim
  ·exact h.inj i i' g (aux i e hgi).1 (aux i' e' hgi').1
 ·by_cases e : i = site
  ·subst e;rw [upd_same] at hgi;exact (ho g hgi).2
  ·rw [upd_other _ _ _ _ e] at hgi
   by_cases e' : i = id
   ·rw [e',upd_same] at hgi;cases hgi
   ·rw [upd_other _ _ _ _ e'] at hgi;exact Nat.lt_of_lt_of_le (h.lt i g hgi) hg.size
 ·by_cases e : i = site
  ·subst e;simp
  ·rw [upd_other _ _ _ _ e] at hy;exact List.mem_cons_of_mem _ (h.used i y hy)
 ·by_cases e : i = site
  ·subst e;rw [upd_same] at hy;cases hy;exact hx
  ·rw [upd_other _ _ _ _ e] at hy;exact h.one i y hy
end ops
end Go.Ev

namespace Go.Ev
open Go.RowKit
section ops
variable {R : Option Nat} {ρ : Type} {P : Program} {w0 w : World} {S0 S : Nat → Prop} {B : Ctx} {β : Bet} {og : Nat → Option Nat} {st : St} {a : Act} {o : Oper} {site : Nat} {y : Eff → Option ρ} {r : ρ}
 {K : Act → World → Prop} {Q : Exit → Act → World → Prop}
theorem Out.grownBy (hO : Out w0 S0 B w S) {w' : World} {row : Option Nat} (hB : ∀ b,B b → b < w.heap.size) (hg : w.grownBy w' row) (hr : ∀ k,row = some k → ¬ B k) : Out w0 S0 B w' S :=
 ⟨hO.bel.trans (Kept.of_grown hg hB hr),hO.sin,hO.sub⟩
theorem grownBy_setRow (w : World) (g : Nat) (cs : Array Value) : w.grownBy (w.setRow g cs) (some g) :=
 ⟨rfl,rfl,rfl,by simp [World.setRow],fun k _ hk=>setRow_other w g k cs (fun e=>hk (by rw [e]))⟩
theorem op_append_own (hR : Rel w S B β og st a) (hO : Out w0 S0 B w S) {rowsV : List (Nat × Row)} (hsub : ∀ id x,lookup rowsV id = some x → lookup st.rows id = some x) (hf : Fresh site st.used) {args : Array Operand} {ts : Array TypeId} {t t' e : TypeId} {s : Sh} {z : AV} {es es2 : List AV} {id : Nat}
  (ho : o.op = .call { callee:=.builtin .append,args:=args,argTypes:=ts }) (hts : ts.toList = [t,t']) (hx : valsT P st.tm ts.toList args.toList = [.own id,z]) (ht : P.underlying t = some (.slice e)) (hz : srcOf P t t' rowsV z = some (s,es2))
  {csp : Option (List AV)} (hl : lookup rowsV id = some (.arr false s e es csp)) (hse : s = shOf P depth e) (hel : elemOK P e = true) (hroom : roomB (es.length + es2.length) (P.bytesOf e) = true)
  (hy : y { v:=.own site,new:=some (.arr false s e (es ++ es2) none),del:=some id } = some r) (hK : Good w0 S0 B site o st y r K) : o.wpR R P a w K Q:=by
 have hv:=valsT_rel hR.tm P ts.toList args.toList
 rw [hx] at hv
 obtain ⟨u,us,he,hu,hs1⟩:=hv.inv
 obtain ⟨u2,us2,rfl,hu2,hn⟩:=hs1.inv
 rw [hn.inv_nil] at he
 have hm:=map_eval args _ he
 have htt : ts = #[t,t']:=by apply Array.ext';simpa using hts
 obtain ⟨i,zz,hi,hzz,hiw,hpos,hzs,hby,zc,hza,hhz⟩:=elemOK_spec hel
 obtain ⟨hb1,hb2⟩:=roomB_spec hroom
 obtain ⟨xs2,hsh2,hvs2,h12,hlm,hlen2,hsrc⟩:=src_sound hR hsub hz hu2 ht hi hzz (hiw.trans (by rw [hse])) (by simp only [maxLen];omega)
 obtain ⟨hp,v,sp,xs,hshS,hcs,hbt,h1,hvs,hor⟩:=hR.row id _ (hsub _ _ hl)
 have hsh : ∀ x ∈ es,hasSh s x = true:=fun x hx=>hshS x (List.mem_append_left _ hx)
 have hlen : xs.length = (es.length + sp.length) * i.size:=by rw [hvs.1,flat_length _ hshS,hiw,hse,List.length_append]
 have hshA : ∀ x ∈ es ++ es2,hasSh s x = true:=fun x hx=>by
  rcases List.mem_append.1 hx with h | h
  ·exact hsh x h
  ·exact hsh2 x h
 have hxl : (xs.take (es.length * i.size)).length = es.length * i.size:=by rw [List.length_take,hlen,Nat.add_mul];omega
 have hvsE : VRels w S nob (flat es) (xs.take (es.length * i.size)):=by
  have:=hvs.take (es.length * i.size)
  rw [flat_append,List.take_append_of_le_length (by rw [flat_length es hsh,hiw,hse];exact Nat.le_refl _),List.take_of_length_le (by rw [flat_length es hsh,hiw,hse];exact Nat.le_refl _)] at this
  exact this
 have h1A : ∀ u ∈ xs.take (es.length * i.size) ++ xs2,u.oneCell' = true:=fun x hx=>by
  rcases List.mem_append.1 hx with h | h
  ·exact h1 x (List.mem_of_mem_take h)
  ·exact h12 x h
 have hvsA : VRels w S nob (flat (es ++ es2)) (xs.take (es.length * i.size) ++ xs2):=by rw [flat_append];exact hvsE.append hvs2
 cases hu with
 | own _ _ v' wd hb' =>
  rw [hbt] at hb'
  simp only [Option.some.injEq,Prod.mk.injEq] at hb'
  obtain ⟨rfl,rfl⟩:=hb'
  have hexec : ∀ (x : Value) (w' : World),(Builtin.append_ #[t,t'] o.type #[v,u2]).run P w = .ok x w' → (execOp a.eval o).run P w = .ok (.value x) w':=fun x w' hrun=>by
   simp only [execOp,ho,resolve,invoke,builtin,hm,htt,Sem.run_bind,Sem.run_pure,Result.andThen_ok,hrun]
  rcases hor with ⟨he0,hsp0,hogn,A,rfl⟩ | ⟨g,ps,hog,rfl,hBg,hh,hmx,hi1,_⟩
  ·subst he0
   subst hsp0
   rcases es2 with _ | ⟨e0,es2'⟩
   ·have hrun:=hsrc.zero0 rfl A o.type
    refine wp_value (hexec _ _ hrun) (hK _ _ _ hy ⟨S,_,_,hR.moved (id:=id) hf o.dst (World.grownBy.refl w _) (fun g hg=>by rw [hogn] at hg;cases hg) (x:=.slice A 0 0) (wd:=s.width) (o':=none) rfl (fun g hg=>by cases hg)
     ⟨hp,.slice A 0 0,[],[],by simp,(fun c h=>by cases h),upd_same _ _ _,by simp,VRels.nil,.inl ⟨rfl,rfl,rfl,A,rfl⟩⟩ (.own _ site _ _ (upd_same _ _ _)),hO⟩)
   ·have hrun:=hsrc.cap0 (by simp) A o.type (by simp at hb2 ⊢;omega) (by rw [hby];simpa using hb1)
    have hb:=below_drew_alloc w (.cells (xs2.toArray ++ Builtin.zeroCells zz.cells (grownCap w (e0 :: es2').length 0 e - (e0 :: es2').length)) e)
    have hg : w.grownBy _ (og id):=⟨hb.os,hb.tape,hb.output,hb.size,fun k hk _=>hb.block k hk⟩
    refine wp_value (hexec _ _ hrun) (hK _ _ _ hy ⟨S,_,_,hR.moved (id:=id) hf o.dst hg (fun g hg=>by rw [hogn] at hg;cases hg) (x:=.slice (some ⟨w.heap.size,0,none⟩) (e0 :: es2').length (grownCap w (e0 :: es2').length 0 e)) (wd:=s.width) (o':=some w.heap.size) rfl (fun g hg=>by cases hg;simp) ?_ (.own _ site _ _ (upd_same _ _ _)),hO.grow hR.Ble hb⟩)
    exact rowrel_new (w:=w) hR.Slt hR.Ble hi hzz hzs hpos hiw hza hhz hse hsh2 hvs2 h12 (grownCap_ge _ _ _ _) (grownCap_le_maxLen _ _ _ _ hlm) (w1:=w.drew) rfl (upd_same _ _ _)
  ·have hnS : ∀ g',og id = some g' → ¬ S g':=fun g' hg'=>by rw [hog] at hg';cases hg';exact hi1 rfl
   have hes2n : es2.length = 0 → es2 = []:=List.eq_nil_of_length_eq_zero
   by_cases h0 : es2 = []
   ·subst h0
    have hrun:=hsrc.zero rfl g ps.length es.length (es.length + sp.length) o.type (by omega)
    refine wp_value (hexec _ _ hrun) (hK _ _ _ hy ⟨S,_,_,hR.moved (id:=id) hf o.dst (World.grownBy.refl w _) hnS (x:=.slice (some ⟨g,ps.length,none⟩) es.length (es.length + sp.length)) (wd:=s.width) (o':=some g) rfl
     (fun x hx=>by cases hx;exact ⟨.inl hog,hR.lt id g hog⟩) ?_ (.own _ site _ _ (upd_same _ _ _)),hO⟩)
    rw [List.append_nil]
    exact ⟨hp,_,sp,xs,hshS,(fun c h=>by cases h),upd_same _ _ _,h1,hvs,.inr ⟨g,ps,rfl,rfl,hBg,hh,hmx,hi1,(fun h=>by cases h)⟩⟩
   ·have hpos2 : 0 < es2.length:=Nat.pos_of_ne_zero (fun e=>h0 (hes2n e))
    by_cases hroom2 : es.length + es2.length ≤ es.length + sp.length
    ·have hfit : es.length * i.size + xs2.length ≤ xs.toArray.size:=by rw [hlen2,List.size_toArray,hlen,← Nat.add_mul];exact Nat.mul_le_mul_right _ hroom2
     have hfit2 : ps.length + es.length * i.size + xs2.length ≤ (ps ++ xs).toArray.size:=by simp only [List.size_toArray,List.length_append] at hfit ⊢;omega
     have hrun:=hsrc.room hpos2 g ps.length es.length (es.length + sp.length) (ps ++ xs).toArray _ o.type hh hroom2 hfit2
     have eC : ((ps ++ xs).toArray.toList.take (ps.length + es.length * i.size) ++ xs2 ++ (ps ++ xs).toArray.toList.drop (ps.length + es.length * i.size + xs2.length)).toArray = (ps ++ (xs.toArray.toList.take (es.length * i.size) ++ xs2 ++ xs.toArray.toList.drop (es.length * i.size + xs2.length))).toArray:=by
      simp only [Nat.add_assoc,List.take_length_add_append,List.drop_length_add_append,List.append_assoc]
     rw [eC] at hrun
     have hgr:=grownBy_setRow w g (ps ++ (xs.toArray.toList.take (es.length * i.size) ++ xs2 ++ xs.toArray.toList.drop (es.length * i.size + xs2.length))).toArray
     have hw : ∀ b,S b → (w.setRow g (ps ++ (xs.toArray.toList.take (es.length * i.size) ++ xs2 ++ xs.toArray.toList.drop (es.length * i.size + xs2.length))).toArray).heap[b]? = w.heap[b]?:=fun b hs=>hgr.block b (hR.Slt b hs) (fun e=>by cases e;exact hi1 rfl hs)
     refine wp_value (hexec _ _ hrun) (hK _ _ _ hy ⟨S,_,_,hR.moved (id:=id) hf o.dst (by rw [hog];exact hgr) hnS (x:=.slice (some ⟨g,ps.length,none⟩) (es.length + es2.length) (es.length + sp.length)) (wd:=s.width) (o':=some g) rfl
      (fun x hx=>by cases hx;exact ⟨.inl hog,by simpa [World.setRow] using hR.lt id g hog⟩) ?_ (.own _ site _ _ (upd_same _ _ _)),hO.grownBy hR.Ble hgr (fun k hk=>by cases hk;exact hBg)⟩)
     have hsp2 : ∀ x ∈ (es ++ es2) ++ sp.drop es2.length,hasSh s x = true:=fun x hx=>by
      rcases List.mem_append.1 hx with h | h
      ·exact hshA x h
      ·exact hshS x (List.mem_append_right _ (List.mem_of_mem_drop h))
     have hdrop : flat (sp.drop es2.length) = (flat (es ++ sp)).drop (es.length * i.size + xs2.length):=by
      have hle : (flat es).length ≤ es.length * i.size + xs2.length:=by rw [flat_length es hsh,hiw,hse];omega
      rw [flat_drop sp _ (fun x hx=>hshS x (List.mem_append_right _ hx)),flat_append,List.drop_append,List.drop_of_length_le hle,List.nil_append]
      congr 1
      rw [flat_length es hsh,hlen2,hiw,hse]
      omega
     refine ⟨hp,_,sp.drop es2.length,_,hsp2,(fun c h=>by cases h),upd_same _ _ _,?_,?_,.inr ⟨g,ps,rfl,?_,hBg,hh.setRow (by simp only [List.size_toArray,List.length_append,List.length_take,List.length_drop];simp only [List.size_toArray] at hfit;omega),?_,hi1,(fun h=>by cases h)⟩⟩
     ·intro u hu
      simp only [List.mem_append] at hu
      rcases hu with (hu | hu) | hu
      ·exact h1 u (by simpa using List.mem_of_mem_take hu)
      ·exact h12 u hu
      ·exact h1 u (by simpa using List.mem_of_mem_drop hu)
     ·refine VRels.mono (w:=w) (S:=S) (β:=nob) ?_ (fun _ h=>h) hw (fun _ _ h=>h)
      rw [flat_append,hdrop]
      exact hvsA.append (hvs.drop _)
     ·simp only [List.length_append,List.length_drop];congr 1;omega
     ·simp only [List.length_append,List.length_drop];omega
    ·have holds : ∀ (j : Nat) (u : Value),(xs.take (es.length * i.size))[j]? = some u → w.cell? ((⟨g,ps.length,none⟩ : Addr).add j) = some u:=by
      intro j u hu
      rw [add_lit',row_cell hh,behind]
      rw [List.getElem?_take] at hu
      split at hu
      ·exact hu
      ·cases hu
     have hmx' : es.length + es2.length ≤ maxLen:=by simp only [maxLen];omega
     have hrun:=hsrc.grow hpos2 ⟨g,ps.length,none⟩ es.length (es.length + sp.length) _ o.type hxl holds (by omega) (by omega) (by rw [hby];exact roomB_fits hroom (by omega))
     rw [show (xs.take (es.length * i.size)).toArray ++ xs2.toArray = (xs.take (es.length * i.size) ++ xs2).toArray by simp] at hrun
     have hb:=below_drew_alloc w (.cells ((xs.take (es.length * i.size) ++ xs2).toArray ++ Builtin.zeroCells zz.cells (grownCap w (es.length + es2.length) (es.length + sp.length) e - (es.length + es2.length))) e)
     have hg : w.grownBy _ (og id):=⟨hb.os,hb.tape,hb.output,hb.size,fun k hk _=>hb.block k hk⟩
     refine wp_value (hexec _ _ hrun) (hK _ _ _ hy ⟨S,_,_,hR.moved (id:=id) hf o.dst hg hnS (x:=.slice (some ⟨w.heap.size,0,none⟩) (es.length + es2.length) (grownCap w (es.length + es2.length) (es.length + sp.length) e)) (wd:=s.width) (o':=some w.heap.size) rfl (fun g hg=>by cases hg;simp) ?_ (.own _ site _ _ (upd_same _ _ _)),hO.grow hR.Ble hb⟩)
     rw [← List.length_append]
     exact rowrel_new (w:=w) hR.Slt hR.Ble hi hzz hzs hpos hiw hza hhz hse hshA hvsA h1A (grownCap_ge _ _ _ _) (grownCap_le_maxLen _ _ _ _ (by rw [List.length_append];exact hmx')) (w1:=w.drew) rfl (upd_same _ _ _)
theorem Rel.congr (h : Rel w S B β og st a) {rows' : List (Nat × Row)} (he : ∀ i,lookup rows' i = lookup st.rows i) : Rel w S B β og ⟨st.tm,rows',st.used⟩ a :=
 ⟨h.tm,h.df,fun id r hr=>h.row id r ((he id).symm.trans hr),h.inj,h.lt,h.used,h.one,h.Slt,h.Ble,h.pid⟩
theorem Rel.modify (h : Rel w S B β og st a) {id : Nat} {w' : World} {r1 : Row} (hg : w.grownBy w' (og id)) (hsz : w'.heap.size = w.heap.size) (hnS : ∀ g,og id = some g → ¬ S g) (hrow : RowRel w' S B β id (og id) r1) :
  Rel w' S B β og ⟨st.tm,setRow st.rows id r1,st.used⟩ a:=by
 have hw : ∀ b,S b → w'.heap[b]? = w.heap[b]?:=fun b hs=>hg.block b (h.Slt b hs) (fun e=>hnS b e.symm hs)
 refine ⟨h.tm.mono (fun _ h=>h) hw (fun _ _ h=>h),h.df,fun i y hy=>?_,h.inj,fun i g hgi=>by rw [hsz];exact h.lt i g hgi,h.used,h.one,fun b hs=>by rw [hsz];exact h.Slt b hs,fun b hs=>by rw [hsz];exact h.Ble b hs,h.pid⟩
 rw [lookup_setRow] at hy
 by_cases e : i = id
 ·subst e
  simp only [if_pos] at hy
  cases hy
  exact hrow
 ·rw [if_neg e] at hy
  exact (h.row i y hy).keep (fun _ _ h=>h) (fun _ h=>h) (fun _ _ h=>h) hw (fun g hgi=>hg.block g (h.lt i g hgi) (fun e2=>e (h.inj i id g hgi e2.symm)))
theorem VRels.splice {cs ds : List AV} {vs us : List Value} (h : VRels w S β cs vs) (h' : VRels w S β ds us) (off : Nat) : VRels w S β (splice cs off ds) (vs.take off ++ us ++ vs.drop (off + us.length)):=by
 unfold Go.Ev.splice
 rw [h'.1]
 exact ((h.take off).append h').append (h.drop _)
theorem op_store_ptr (hR : Rel w S B β og st a) (hO : Out w0 S0 B w S) {t : TypeId} {x z : Operand} {id off : Nat} {cs : List AV} (ho : o.op = .store t x z) (hlaid : (valT P st.tm t z).laidB = true) (hn : (valT P st.tm t z).cells.length = P.cellsOf t) (hn0 : P.cellsOf t ≠ 0)
  (hx : val st.tm x = .ptr id off) (hl : lookup st.rows id = some (.box false cs)) (hle : off + (valT P st.tm t z).cells.length ≤ cs.length)
  (hy : y { v:=.undef,mod:=some (id,.box false (splice cs off (valT P st.tm t z).cells)) } = some r) (hK : Good w0 S0 B site o st y r K) : o.wpR R P a w K Q:=by
 obtain ⟨us,huc,hus,hu1⟩:=(valT_rel hR.tm P t z).laid hlaid hR.one
 have hp:=val_rel hR.tm x
 rw [hx] at hp
 obtain ⟨g,vs,v0,hog,hbt,hH,hvs,him,_,hBg⟩:=hR.row id _ hl
 obtain ⟨i,hi,hisz⟩:=cellsOf_info hn0
 generalize he : a.eval x = u at hp
 cases hp with
 | ptr _ _ _ g' wd hb' =>
  rw [hbt] at hb'
  simp only [Option.some.injEq,Prod.mk.injEq] at hb'
  obtain ⟨e0,hb2⟩:=hb'
  obtain ⟨hgg,⟨tt,hh⟩,h1⟩:=hH.ptr e0
  subst hgg
  subst e0
  have hul : us.length = P.cellsOf t:=by rw [hus.1];exact hn
  have hst:=run_storeCells_at P g off tt us 0 vs.toArray w hh (by simp;rw [hvs.1,hus.1];exact hle) hu1
  simp only [Nat.add_zero] at hst
  have hnS : ∀ g',og id = some g' → ¬ S g':=fun g' hg'=>by rw [hog] at hg';cases hg';exact him rfl
  have hgr:=grownBy_setRow w g (vs.take off ++ us ++ vs.drop (off + us.length)).toArray
  have hw : ∀ b,S b → (w.setRow g (vs.take off ++ us ++ vs.drop (off + us.length)).toArray).heap[b]? = w.heap[b]?:=fun b hs=>hgr.block b (hR.Slt b hs) (fun e=>by cases e;exact him rfl hs)
  have hrow : RowRel (w.setRow g (vs.take off ++ us ++ vs.drop (off + us.length)).toArray) S B β id (og id) (.box false (splice cs off (valT P st.tm t z).cells)):=by
   refine ⟨g,_,_,hog,hbt,.inl ⟨⟨tt,setRow_heap w g _ _ tt _ hh⟩,rfl,?_⟩,(hvs.splice hus off).mono (fun _ h=>h) hw (fun _ _ h=>h),fun _=>him rfl,(fun h=>by cases h),hBg⟩
   intro u hu
   simp only [List.mem_append] at hu
   rcases hu with (hu | hu) | hu
   ·exact h1 u (List.mem_of_mem_take hu)
   ·exact hu1 u hu
   ·exact h1 u (List.mem_of_mem_drop hu)
  refine wp_skip' (w':=w.setRow g (vs.take off ++ us ++ vs.drop (off + us.length)).toArray) ?_ (hK _ _ _ hy ⟨S,β,og,(hR.modify (id:=id) (by rw [hog];exact hgr) (by simp [World.setRow]) hnS hrow).put o.dst (.undef _),hO.grownBy hR.Ble hgr (fun k hk=>by cases hk;exact hBg)⟩)
  have hsz : (a.eval z).cells.size = i.size:=by rw [huc,hisz,← hul];simp
  simp only [execOp,ho,he,Instr.storeAt,Instr.sureAddr,pure_bind,storeVar,sizeOf,typeInfo,Sem.run_bind,run_program,Result.andThen_ok,hi,Sem.run_pure,hsz]
  simp [huc,hst]
theorem tup2_inv {c d : AV} {u v : Value} (h : VRel w S β (.tup [c,d]) (.tuple #[u,v])) : VRel w S β c u ∧ VRel w S β d v:=by
 generalize hq : (Value.tuple #[u,v]) = q at h
 cases h with
 | tup _ _ us hl hh =>
  have hus : us = [u,v]:=by
   have:=congrArg (fun z=>match z with | Value.tuple b=>b.toList | _=>[]) hq
   simpa using this.symm
  subst hus
  exact ⟨hh 0 _ _ rfl rfl,hh 1 _ _ rfl rfl⟩
theorem op_next (hR : Rel w S B β og st a) (hO : Out w0 S0 B w S) {x : Operand} {id : Nat} {s : List UInt8} {p : Int} (ho : o.op = .next x true) (hx : val st.tm x = .eptr id 0 0) (hl : lookup st.rows id = some (.box false [.tup [.str s,.int .i64 p]]))
  (h : (bif decide (p < (s.length : Int)) then y { v:=.tup [.bool true,.int .i64 p,.int .i32 (decA s p.toNat).1],mod:=some (id,.box false [.tup [.str s,.int .i64 (p + (decA s p.toNat).2)]]) } else y { v:=.tup [.bool false] }) = some r) (hK : Good w0 S0 B site o st y r K) : o.wpR R P a w K Q:=by
 have hp:=val_rel hR.tm x
 rw [hx] at hp
 obtain ⟨g,vs,v0,hog,hbt,hH,hvs,him,_,hBg⟩:=hR.row id _ hl
 generalize he : a.eval x = u at hp
 cases hp with
 | eptr _ _ _ _ g' n c wd bo hb' =>
  rw [hbt] at hb'
  simp only [Option.some.injEq,Prod.mk.injEq] at hb'
  obtain ⟨e0,e1⟩:=hb'
  subst e1
  rcases hH with ⟨_,h1,_⟩ | ⟨_,_,_,_,_,_,_,_,_,_,h1⟩ | ⟨sb,pos,hh,hv,h1⟩ | ⟨_,_,_,_,h1⟩
  ·rw [h1] at e0;cases e0
  ·rw [h1] at e0;cases e0
  ·rw [h1] at e0
   cases e0
   obtain ⟨hps,hsb⟩ : p = (pos : Int) ∧ sb = ⟨s.toArray⟩:=by
    rw [hv] at hvs
    have h0:=hvs.2 0 _ _ rfl rfl
    obtain ⟨c0,c1⟩:=tup2_inv h0
    cases c0
    cases c1
    exact ⟨rfl,rfl⟩
   subst hps hsb
   have hsz : (ByteArray.mk s.toArray).size = s.length:=by simp [ByteArray.size]
   simp only [Int.toNat_natCast] at h
   by_cases hlt : pos < s.length
   ·rw [decide_eq_true (by omega),cond_true] at h
    have hrun:=Go.Lib.run_next_any_at (P:=P) w g ⟨s.toArray⟩ pos o.type hh (by rw [hsz];exact hlt)
    have hgr : w.grownBy (w.iterAt g ⟨s.toArray⟩ (pos + (Utf8.decode ⟨s.toArray⟩ pos).2)) (some g) :=
     ⟨rfl,rfl,rfl,by simp [World.iterAt],fun k _ hk=>Go.Lib.iterAt_other w g k _ _ (fun e=>hk (by rw [e]))⟩
    have hw : ∀ b,S b → (w.iterAt g ⟨s.toArray⟩ (pos + (Utf8.decode ⟨s.toArray⟩ pos).2)).heap[b]? = w.heap[b]?:=fun b hs=>hgr.block b (hR.Slt b hs) (fun e=>by cases e;exact him rfl hs)
    have hnS : ∀ g',og id = some g' → ¬ S g':=fun g' hg'=>by rw [hog] at hg';cases hg';exact him rfl
    have hrow : RowRel (w.iterAt g ⟨s.toArray⟩ (pos + (Utf8.decode ⟨s.toArray⟩ pos).2)) S B β id (og id) (.box false [.tup [.str s,.int .i64 ((pos : Int) + ((decA s pos).2 : Nat))]]):=by
     refine ⟨g,[.tuple #[.string ⟨s.toArray⟩,.int .i64 ((pos + (decA s pos).2 : Nat) : Int)]],_,hog,hbt,.inr (.inr (.inl ⟨_,_,Go.Lib.iterAt_heap w g _ pos _ hh,rfl,h1⟩)),?_,fun _=>him rfl,(fun h=>by cases h),hBg⟩
     have:=iter_rel (w:=w.iterAt g ⟨s.toArray⟩ (pos + (Utf8.decode ⟨s.toArray⟩ pos).2)) (S:=S) (β:=β) s (pos + (decA s pos).2)
     rw [show ((pos : Int) + ((decA s pos).2 : Nat)) = ((pos + (decA s pos).2 : Nat) : Int) by omega]
     exact this
    refine wp_value (u:=.tuple #[.bool true,.int .i64 pos,.int .i32 (Utf8.decode ⟨s.toArray⟩ pos).1]) ?_ (hK _ _ _ h ⟨S,β,og,(hR.modify (id:=id) (by rw [hog];exact hgr) (by simp [World.iterAt]) hnS hrow).put o.dst ?_,hO.grownBy hR.Ble hgr (fun k hk=>by cases hk;exact hBg)⟩)
    ·simp [execOp,ho,he,hrun]
    ·refine .tup _ [.bool true,.int .i64 (pos : Int),.int .i32 ((decA s pos).1 : Nat)] [.bool true,.int .i64 pos,.int .i32 (Utf8.decode ⟨s.toArray⟩ pos).1] rfl fun j c u hc hu=>?_
     match j with
     | 0=>simp at hc hu;subst hc hu;exact .bool _ _
     | 1=>simp at hc hu;subst hc hu;exact .int _ _ _
     | 2=>simp at hc hu;subst hc hu;exact .int _ _ _
     | j + 3=>simp at hc
   ·rw [decide_eq_false (by omega),cond_false] at h
    have hrun:=Go.Lib.run_next_end_at (P:=P) w g ⟨s.toArray⟩ pos o.type hh (by rw [hsz];exact hlt)
    refine op_slot (u:=.tuple #[.bool false]) hR hO (.tup _ [.bool false] [.bool false] rfl fun j c u hc hu=>?_) h hK ?_
    ·match j with
     | 0=>simp at hc hu;subst hc hu;exact .bool _ _
     | j + 1=>simp at hc
    ·simp [execOp,ho,he,hrun]
  ·rw [h1] at e0;cases e0
end ops
end Go.Ev
