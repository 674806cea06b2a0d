/-
 The machine: a region in whatever order its edges allow.
-/
import Derived.Test.YtijdnecnjenleaaGreatDoorMiM

namespace Go.Mi
open Go.RowKit
open Go.Ev (AV Sh Summ Env Ex find entersB hasBody nilB VRel VRels Kept Glb Goes SumOK markD exOf semAt_of wp_value wp_skip' resRun)
structure Mk (B : Nat → Prop) (w0 : World) (df : List Deferred) (B1 : Nat → Prop) (w1 : World) (df1 : List Deferred) : Prop where
 kept : Kept B w0 w1
 up : ∀ b,B b → B1 b
 marks : ∃ Ds : List Nat,df1 = Ds.map markD ++ df ∧ Ds.Nodup ∧ ∀ D ∈ Ds,B1 D ∧ ¬ B D ∧ w1.heap[D]? = some (.deferred (some []))
theorem Mk.refl (B : Nat → Prop) (w0 : World) (df : List Deferred) : Mk B w0 df B w0 df:=⟨Kept.refl _ _,fun _ h=>h,[],by simp,List.nodup_nil,fun _ h=>by cases h⟩
theorem Mk.trans {B B1 B2 : Nat → Prop} {w0 w1 w2 : World} {df df1 df2 : List Deferred} (h : Mk B w0 df B1 w1 df1) (h' : Mk B1 w1 df1 B2 w2 df2) : Mk B w0 df B2 w2 df2:=by
 obtain ⟨Ds,e1,e2,e3⟩:=h.marks
 obtain ⟨Ds',f1,f2,f3⟩:=h'.marks
 refine ⟨h.kept.trans ⟨h'.kept.os,h'.kept.tape,h'.kept.output,h'.kept.size,fun b hb=>h'.kept.block b (h.up b hb)⟩,fun b hb=>h'.up b (h.up b hb),Ds' ++ Ds,by rw [f1,e1];simp,?_,fun D hD=>?_⟩
 ·rw [List.nodup_append]
  exact ⟨f2,e2,fun a ha b hb e=>(f3 a ha).2.1 (by rw [e];exact (e3 b hb).1)⟩
 ·rcases List.mem_append.1 hD with hD | hD
  ·exact ⟨(f3 D hD).1,fun hb=>(f3 D hD).2.1 (h.up D hb),(f3 D hD).2.2⟩
  ·exact ⟨h'.up D (e3 D hD).1,(e3 D hD).2.1,(h'.kept.block D (e3 D hD).1).trans (e3 D hD).2.2⟩
def MX (nr : Bool) (B : Nat → Prop) (w0 : World) (df : List Deferred) (ι0 : Io) (n0 : Nat) (st : MSt) (a : Act) (w : World) : Prop :=
 ∃ B1 w1 df1 ι,Mk B w0 df B1 w1 df1 ∧ (nr = true → B1 = B ∧ w1 = w0 ∧ df1 = df) ∧ Ext ι0 ι ∧ (∀ id,id < n0 → ι id = ι0 id) ∧ n0 ≤ st.nx ∧ Mrl B1 w1 w df1 ι st a ∧ (keys st.h).Nodup
theorem MX.here {B : Nat → Prop} {w0 w : World} {df : List Deferred} {ι0 ι : Io} {n0 : Nat} {st : MSt} {a : Act} (nr : Bool) (he : Ext ι0 ι) (hne : ∀ id,id < n0 → ι id = ι0 id) (hle : n0 ≤ st.nx) (hR : Mrl B w0 w df ι st a) (hn : (keys st.h).Nodup) : MX nr B w0 df ι0 n0 st a w :=
 ⟨B,w0,df,ι,Mk.refl _ _ _,fun _=>⟨rfl,rfl,rfl⟩,he,hne,hle,hR,hn⟩
def DrawM (P : Program) (Γ : Env) (call : CallT) : Prop :=
 ∀ (R : Option Nat) (ρ : Type) (B : Nat → Prop) (w0 w : World) (df : List Deferred) (ι : Io) (st : MSt) (a : Act) (id : Nat) (ops : Array Oper) (k : MSt → List Foot → Option ρ) (r : ρ) (base : Nat) (Q : Exit → Act → World → Prop),evDraw P Γ call base ops.toList (fun st' fs=>if drawOk ops fs then k st' fs else none) 0 ops.toList st [] = some r → Mrl B w0 w df ι st a → (keys st.h).Nodup → (∀ j,j < ops.size → ι (base + j) = none) → base + ops.size ≤ st.nx →
  (∀ st' fs a' w' ι',k st' fs = some r → Ext ι ι' → (∀ id,id < base → ι' id = ι id) → st.nx ≤ st'.nx → Mrl B w0 w' df ι' st' a' → (keys st'.h).Nodup → Q .normal a' w') → (Code.region id ops true).wpR R P Q a w
section code
variable {R : Option Nat} {P : Program} {Γ : Env} {call : CallT} {round : CodeT}
theorem Mrl.bump {B : Nat → Prop} {w0 w : World} {df : List Deferred} {ι : Io} {st : MSt} {a : Act} (h : Mrl B w0 w df ι st a) {n : Nat} (hn : st.nx ≤ n) : Mrl B w0 w df ι ⟨st.tm,st.h,n⟩ a :=
 ⟨h.tm,h.df,h.obj,h.inj,h.lt,fun id p hp=>Nat.lt_of_lt_of_le (h.nx id p hp) hn,h.kept,h.ble,h.glb⟩
theorem Mrl.unused {B : Nat → Prop} {w0 w : World} {df : List Deferred} {ι : Io} {st : MSt} {a : Act} (h : Mrl B w0 w df ι st a) {id : Nat} (hid : st.nx ≤ id) : ι id = none:=by
 cases e : ι id with
 | none=>rfl
 | some p=>have:=h.nx id p e;omega
theorem Mrl.putOther {B : Nat → Prop} {w0 w : World} {df : List Deferred} {ι : Io} {st : MSt} {a : Act} (h : Mrl B w0 w df ι st a) {D : Nat} (x : Obj) (hD : ¬ B D) (hL : ∀ id o p,get st.h id = some o → ι id = some p → p.g ≠ D) : Mrl B w0 (w.putObj D x) df ι st a :=
 ⟨h.tm,h.df,fun id o ho=>let ⟨p,hp,hr,hb⟩:=h.obj id o ho;⟨p,hp,hr.keep (Ext.refl _) (World.putObj_heap_other (hL id o p ho hp)),hb⟩,h.inj,fun id p hp=>by rw [World.putObj_size];exact h.lt id p hp,h.nx,h.kept.trans (Kept.of_grown (grown_put w D x) h.ble fun k hk=>by cases hk;exact hD),fun b hb=>by rw [World.putObj_size];exact h.ble b hb,h.glb⟩
theorem evC_sound (hΓ : ∀ g F,find Γ g = some F → SumOK P g F) (hD : DrawM P Γ call) (hC : COK P call) (hRd : RDK P round) : ∀ (c : Code),(R = none ∨ noRng c = true) → ∀ (ρ : Type) (st : MSt) (k : Ex → MSt → Option ρ) (r : ρ) (B : Nat → Prop) (w0 : World) (df : List Deferred) (ι : Io) (a : Act) (w : World) (Q : Exit → Act → World → Prop),evC P Γ call round c ρ st k = some r → Mrl B w0 w df ι st a → (keys st.h).Nodup → (∀ e st' a' w',k e st' = some r → MX (noRng c) B w0 df ι st.nx st' a' w' → Q (exOf e) a' w') → c.wpR R P Q a w:=by
 intro c
 induction c with
 | skip=>intro _ ρ st k r B w0 df ι a w Q h hR hn hk;exact wpIn_skip (hk .normal st a w h (.here _ (Ext.refl _) (fun _ _=>rfl) (Nat.le_refl _) hR hn))
 | label l=>intro _ ρ st k r B w0 df ι a w Q h hR hn hk;exact wpIn_label (hk .normal st a w h (.here _ (Ext.refl _) (fun _ _=>rfl) (Nat.le_refl _) hR hn))
 | region id ops draw =>
  intro _ ρ st k r B w0 df ι a w Q h hR hn hk
  rw [evC_region] at h
  simp only [natK_eq] at h
  have hb:=hR.bump (n:=st.nx + ops.size) (by omega)
  have hfree : ∀ j,ι (st.nx + j) = none:=fun j=>hR.unused (by omega)
  split at h
  ·rename_i hd
   subst hd
   exact hD R ρ B w0 w df ι _ a id ops (fun st' _=>k .normal st') r st.nx Q h hb hn (fun j _=>hfree j) (Nat.le_refl _) fun st' fs a' w' ι' h1 h2 h3 h4 h5 h6=>hk .normal st' a' w' h1 (.here _ h2 (fun id hid=>h3 id hid) (by have : st.nx + ops.size ≤ st'.nx:=h4;omega) h5 h6)
  ·rename_i hd
   have hd' : draw = false:=by simpa using hd
   subst hd'
   exact wpIn_region_list (evOps_sound (R:=R) hΓ hC hRd ops.toList 0 _ a w ι h (by simp) hb hn (fun j _ _=>hfree j) (Nat.le_refl _) fun st' a' w' ι' h1 h2 h3 h4 h5 h6=>hk .normal st' a' w' h1 (.here _ h2 (fun id hid=>h3 id hid) (by have : st.nx + ops.size ≤ st'.nx:=h4;omega) h5 h6))
 | seq x z ihx ihz =>
  intro hRg ρ st k r B w0 df ι a w Q h hR hn hk
  have hx : R = none ∨ noRng x = true:=hRg.imp id fun h=>by simp only [noRng,Bool.and_eq_true] at h;exact h.1
  have hz : R = none ∨ noRng z = true:=hRg.imp id fun h=>by simp only [noRng,Bool.and_eq_true] at h;exact h.2
  refine wpIn_seq (ihx hx ρ st _ r B w0 df ι a w _ h hR hn fun e st' a' w' he hX=>?_)
  obtain ⟨B1,w1,df1,ι1,hm1,hs1,he1,hne1,hle1,hM1,hn1⟩:=hX
  have up : ∀ e,k e st' = some r → Q (exOf e) a' w':=fun e he=>hk e st' a' w' he ⟨B1,w1,df1,ι1,hm1,fun h=>hs1 (by simp only [noRng,Bool.and_eq_true] at h;exact h.1),he1,hne1,hle1,hM1,hn1⟩
  cases e with
  | normal =>
   refine ihz hz ρ st' k r B1 w1 df1 ι1 a' w' Q he hM1 hn1 fun e2 st2 a2 w2 hk2 hX2=>?_
   obtain ⟨B2,w2',df2,ι2,hm2,hs2,he2,hne2,hle2,hM2,hn2⟩:=hX2
   refine hk e2 st2 a2 w2 hk2 ⟨B2,w2',df2,ι2,hm1.trans hm2,fun h=>?_,he1.trans he2,fun id hid=>(hne2 id (Nat.lt_of_lt_of_le hid hle1)).trans (hne1 id hid),Nat.le_trans hle1 hle2,hM2,hn2⟩
   simp only [noRng,Bool.and_eq_true] at h
   obtain ⟨rfl,rfl,rfl⟩:=hs1 h.1
   exact hs2 h.2
  | exit id=>exact up (.exit id) he
  | ret=>exact up .ret he
 | cond c x z ihx ihz =>
  intro hRg ρ st k r B w0 df ι a w Q h hR hn hk
  have hx : R = none ∨ noRng x = true:=hRg.imp id fun h=>by simp only [noRng,Bool.and_eq_true] at h;exact h.1
  have hz : R = none ∨ noRng z = true:=hRg.imp id fun h=>by simp only [noRng,Bool.and_eq_true] at h;exact h.2
  simp only [evC] at h
  split at h
  ·rename_i t hc
   have hcv : a.eval c = .bool t:=by
    have:=mval_rel hR.tm c
    rw [hc] at this
    exact this.bool_inv
   refine wpIn_cond hcv ?_
   cases t with
   | true =>
    refine ihx hx ρ st k r B w0 df ι a w Q h hR hn fun e st' a' w' he hX=>hk e st' a' w' he ?_
    obtain ⟨B1,w1,df1,ι1,hm1,hs1,rest⟩:=hX
    exact ⟨B1,w1,df1,ι1,hm1,fun h=>hs1 (by simp only [noRng,Bool.and_eq_true] at h;exact h.1),rest⟩
   | false =>
    refine ihz hz ρ st k r B w0 df ι a w Q h hR hn fun e st' a' w' he hX=>hk e st' a' w' he ?_
    obtain ⟨B1,w1,df1,ι1,hm1,hs1,rest⟩:=hX
    exact ⟨B1,w1,df1,ι1,hm1,fun h=>hs1 (by simp only [noRng,Bool.and_eq_true] at h;exact h.2),rest⟩
  ·cases h
 | block id b ih =>
  intro hRg ρ st k r B w0 df ι a w Q h hR hn hk
  refine wpIn_block (ih hRg ρ st _ r B w0 df ι a w _ h hR hn fun e st' a' w' he hX=>?_)
  cases e with
  | normal=>exact hk .normal st' a' w' he hX
  | ret=>exact hk .ret st' a' w' he hX
  | exit i =>
   simp only at he
   simp only [exOf,Exit.inBlock]
   split at he
   ·rename_i e;rw [if_pos e];exact hk .normal st' a' w' he hX
   ·rename_i e;rw [if_neg e];exact hk (.exit i) st' a' w' he hX
 | loop b ih =>
  intro hRg ρ st k r B w0 df ι a w Q h hR hn hk
  simp only [evC] at h
  refine wpIn_loop_rounds ROUNDS ?_
  have key : ∀ (m : Nat) (st1 : MSt) (a1 : Act) (w1 : World),unrM (fun ρ st k=>evC P Γ call round b ρ st k) m ρ st1 k = some r → MX (noRng b) B w0 df ι st.nx st1 a1 w1 → Code.roundsIn (fen R) 0 P b Q m a1 w1:=by
   intro m
   induction m with
   | zero=>intro st a w h;cases h
   | succ m ihm =>
    intro st1 a1 w1 h hX
    obtain ⟨B1,w1',df1,ι1,hm1,hs1,he1,hne1,hle1,hM1,hn1⟩:=hX
    rw [roundsIn_succ]
    refine ih hRg ρ st1 _ r B1 w1' df1 ι1 a1 w1 _ h hM1 hn1 fun e st2 a2 w2 hk2 hX2=>?_
    obtain ⟨B2,w2',df2,ι2,hm2,hs2,he2,hne2,hle2,hM2,hn2⟩:=hX2
    have hX : MX (noRng b) B w0 df ι st.nx st2 a2 w2:=⟨B2,w2',df2,ι2,hm1.trans hm2,fun h=>by
     obtain ⟨rfl,rfl,rfl⟩:=hs1 h
     exact hs2 h,he1.trans he2,fun id hid=>(hne2 id (Nat.lt_of_lt_of_le hid hle1)).trans (hne1 id hid),Nat.le_trans hle1 hle2,hM2,hn2⟩
    cases e with
    | normal=>exact ihm st2 a2 w2 hk2 hX
    | exit id=>exact hk (.exit id) st2 a2 w2 hk2 hX
    | ret=>exact hk .ret st2 a2 w2 hk2 hX
  exact key ROUNDS st a w h (.here _ (Ext.refl _) (fun _ _=>rfl) (Nat.le_refl _) hR hn)
 | exit id=>intro _ ρ st k r B w0 df ι a w Q h hR hn hk;exact wpIn_exit (hk (.exit id) st a w h (.here _ (Ext.refl _) (fun _ _=>rfl) (Nat.le_refl _) hR hn))
 | ret=>intro _ ρ st k r B w0 df ι a w Q h hR hn hk;exact wpIn_ret (hk .ret st a w h (.here _ (Ext.refl _) (fun _ _=>rfl) (Nat.le_refl _) hR hn))
 | rangeFunc g ps assign body _ _ =>
  intro hRg ρ st k r B w0 df ι a w Q h hR hn hk
  have hR0 : R = none:=hRg.resolve_right (by simp [noRng])
  subst hR0
  rw [evC_range] at h
  split at h
  ·rename_i gf caps hg
   split at h
   ·rename_i hc
    simp only [Bool.and_eq_true] at hc
    obtain ⟨hen,hbd⟩:=hc
    rw [natK_eq] at h
    refine wpIn_rangeFunc fun f _=>?_
    obtain ⟨r0,hr0⟩ : ∃ r0 : Go.Loop,r0 = { state:=.ready,pending:=none,fn:=f,tmps:=a.tmps,params:=ps,assign,body,defers:=w.heap.size }:=⟨_,rfl⟩
    obtain ⟨wD,hwD⟩ : ∃ wD,wD = w.alloc (.deferred (some [])):=⟨_,rfl⟩
    obtain ⟨wL,hwL⟩ : ∃ wL,wL = wD.alloc (.loop r0):=⟨_,rfl⟩
    have hgv:=mval_rel hR.tm g
    rw [hg] at hgv
    generalize hge : a.eval g = gv at hgv
    cases hgv with
    | fn _ _ cvs hcl hch =>
    have hszD : wD.heap.size = w.heap.size + 1:=by rw [hwD];simp
    have hbD : Below w.heap.size w wD:=by rw [hwD];exact (Below.refl _ w).alloc (Nat.le_refl _) _
    have hbL : Below wD.heap.size wD wL:=by rw [hwL];exact (Below.refl _ wD).alloc (Nat.le_refl _) _
    have hhD : wD.heap[w.heap.size]? = some (.deferred (some [])):=by rw [hwD];exact World.alloc_heap_new w _
    have hhl : wL.heap[w.heap.size + 1]? = some (.loop r0):=by
     rw [hwL,← hszD]
     exact World.alloc_heap_new wD _
    obtain ⟨B2,hB2⟩ : ∃ B2 : Nat → Prop,B2 = fun b=>B b ∨ b = w.heap.size:=⟨_,rfl⟩
    have hkD : Kept B w0 wD:=hR.kept.trans (Kept.of_below hbD hR.ble)
    have hMD : Mrl B2 wD wD (markD w.heap.size :: a.defers) ι st { a with defers:=markD w.heap.size :: a.defers }:=by
     refine ⟨hR.tm,rfl,fun id o ho=>?_,hR.inj,fun id p hp=>by have:=hR.lt id p hp;omega,hR.nx,Kept.refl _ _,fun b hb=>?_,fun w' hk'=>hR.glb w' (hkD.trans ⟨hk'.os,hk'.tape,hk'.output,hk'.size,fun b hb=>hk'.block b (by rw [hB2];exact .inl hb)⟩)⟩
     ·obtain ⟨p,hp,hr,hb⟩:=hR.obj id o ho
      refine ⟨p,hp,hr.keep (Ext.refl _) (hbD.block _ (hR.lt id p hp)),fun h2=>?_⟩
      rw [hB2] at h2
      rcases h2 with h2 | h2
      ·exact hb h2
      ·have:=hR.lt id p hp;omega
     ·rw [hB2] at hb
      rcases hb with hb | hb
      ·have:=hR.ble b hb;omega
      ·omega
    have hMkD : Mk B w0 df B2 wD (markD w.heap.size :: a.defers):=by
     refine ⟨hkD,fun b hb=>by rw [hB2];exact .inl hb,[w.heap.size],by simp [hR.df],by simp,fun D hD=>?_⟩
     have hD' : D = w.heap.size:=by simpa using hD
     subst hD'
     exact ⟨by rw [hB2];exact .inr rfl,fun hb=>by have:=hR.ble _ hb;omega,hhD⟩
    have hfree : ι st.nx = none:=hR.unused (Nat.le_refl _)
    have hML:=(hMD.bump (n:=st.nx + 1) (by omega)).new (id:=st.nx) (p:=⟨w.heap.size + 1,0,0⟩) (o:=.loop false st.tm ps assign body) hfree (by show st.nx < st.nx + 1;omega) hbL (by show wD.heap.size ≤ w.heap.size + 1;omega) (by show w.heap.size + 1 < wL.heap.size;rw [hwL];simp;omega)
     ⟨r0,hhl,by rw [hr0];rfl,by rw [hr0],by rw [hr0],by rw [hr0],by rw [hr0],by rw [hr0];exact hR.tm.mono (upI_ext _ hfree)⟩
    have hnk : (keys ((st.nx,LObj.loop false st.tm ps assign body) :: st.h)).Nodup:=by
     simp only [keys,List.map_cons,List.nodup_cons]
     exact ⟨hR.notin hfree,hn⟩
    have hMm : Mem B2 wD wL (upI ι st.nx ⟨w.heap.size + 1,0,0⟩) ((st.nx,LObj.loop false st.tm ps assign body) :: st.h) (st.nx + 1):=by
     refine hML.mem.look fun i=>?_
     rw [get_cons]
     show _ = get (set1 st.h (st.nx,some _)) i
     rw [get_set1]
     by_cases e : i = st.nx
     ·rw [if_pos e.symm,if_pos e]
     ·rw [if_neg (fun h=>e h.symm),if_neg e]
    have hargs : MRels (upI ι st.nx ⟨w.heap.size + 1,0,0⟩) (.yld st.nx :: caps) (.func (.yield (w.heap.size + 1)) #[] #[] :: cvs) :=
     MRels.cons (.yld st.nx ⟨w.heap.size + 1,0,0⟩ (upI_same _ _ _)) (MRels.mono ⟨hcl,hch⟩ (upI_ext _ hfree))
    have hgo:=hC ρ gf _ _ _ _ r B2 wD wL _ _ h hMm hnk hargs
    have hen2 : ∀ args w,(callFunc gf args).run P w = .ok (.enter gf args) w:=fun args w=>by
     unfold hasBody at hbd
     unfold entersB at hen
     cases hfn : P.funcs[gf]? with
     | none=>rw [hfn] at hbd;cases hbd
     | some fn =>
      simp only [hfn,Bool.not_eq_true'] at hen hbd
      have hnone : fn.body.isNone = false:=by cases hbb : fn.body <;> simp_all
      simp only [callFunc,Sem.run_bind,run_program,Result.andThen_ok,hfn]
      simp [hen,hnone]
    refine ⟨w.heap.size + 1,[markD w.heap.size],wL,{ target:=.fn (.func gf) cvs.toArray,args:=#[.func (.yield (w.heap.size + 1)) #[] #[]] },wL,gf,#[.func (.yield (w.heap.size + 1)) #[] #[]] ++ cvs.toArray,wL,?_,?_,fun _ _=>trivial,?_,fun h=>(by cases h),?_⟩
    ·rw [hwL,hr0,hwD];exact run_enterLoop_outer _ _ _ _ _
    ·simp only [resolve,hge]
     simp [go_sem]
    ·simp [invoke,go_sem,hen2]
    ·have hC':=hgo.calls hbd
     have harr : (.func (.yield (w.heap.size + 1)) #[] #[] :: cvs).toArray = #[.func (.yield (w.heap.size + 1)) #[] #[]] ++ cvs.toArray:=by apply Array.ext';simp
     rw [harr] at hC'
     refine CallsIn.mono (Go.Ev.CallsIn.at (R0:=none) (callsIn_wide.2 hC')) fun e w3 hpost=>?_
     obtain ⟨u,v,ι',h',nx',rfl,hk4,hE4,hne4,hle4,_,hM4,hn4⟩:=hpost
     split at hk4
     ·rename_i tm' ps' as' bd' hg4
      rw [delK_eq] at hk4
      obtain ⟨p4,hp4,⟨r4,hh4,hs4,hpd4,_⟩,hB4⟩:=hM4.obj _ _ hg4
      have e4 : p4 = ⟨w.heap.size + 1,0,0⟩:=by have:=hE4 st.nx _ (upI_same _ _ _);rw [hp4] at this;cases this;rfl
      subst e4
      obtain ⟨d1,d2,d3⟩:=del1_spec st.nx hn4
      refine ⟨none,_,by rw [← hpd4];exact run_endLoop hh4 (by rw [hs4];simp),?_⟩
      show Q .normal { a with defers:=[markD w.heap.size] ++ a.defers } _
      have hEι : Ext ι ι':=(upI_ext _ hfree).trans hE4
      have hM5 : Mrl B2 wD w3 (markD w.heap.size :: a.defers) ι' ⟨st.tm,del1 h' st.nx,nx'⟩ { a with defers:=markD w.heap.size :: a.defers }:=by
       have:=(hM4.kill st.nx).look (h':=del1 h' st.nx) fun i=>by rw [get_set1,d1 i]
       exact this.mem.act (hR.tm.mono hEι) rfl
      have hM6:=hM5.putOther (D:=w.heap.size + 1) (.loop { r4 with state:=.exhausted }) hB4 fun id o p ho hp e=>by
       have hidk : id ≠ st.nx:=fun e2=>by
        have ho' : get (del1 h' st.nx) id = some o:=ho
        rw [d1 id,if_pos e2] at ho'
        cases ho'
       have ho2 : get h' id = some o:=by
        have ho' : get (del1 h' st.nx) id = some o:=ho
        rw [d1 id,if_neg hidk] at ho'
        exact ho'
       exact hidk (hM4.inj id st.nx o _ p _ ho2 hg4 hp hp4 e)
      refine hk .normal _ _ _ hk4 ⟨B2,wD,_,ι',hMkD,fun h=>(by simp [noRng] at h),hEι,fun id hid=>?_,?_,hM6,d2⟩
      ·rw [hne4 id (by omega),upI_other _ _ (by omega)]
      ·show st.nx ≤ nx'
       have : st.nx + 1 ≤ nx':=hle4
       omega
     ·cases hk4
   ·cases h
  ·cases h
 | scope b _=>intro _ ρ st k r B w0 df ι a w Q h;simp [evC] at h
 | goto l=>intro _ ρ st k r B w0 df ι a w Q h;simp [evC] at h
 | refuse why=>intro _ ρ st k r B w0 df ι a w Q h;simp [evC] at h
end code
end Go.Mi


namespace Go.Mi
open Go.Ev (AV Sh Summ Env Ex find entersB ancTab)
inductive TT where
 | leaf
 | node (v : MV) (l r : TT)
noncomputable def getT (t : TT) : Nat → MV :=
 @TT.rec (fun _=>Nat → MV) (fun _=>.unk) (fun v _ _ il ir n=>@Nat.rec (fun _=>MV) v (fun m _=>bif Nat.beq (Nat.mod m 2) 0 then il (Nat.div m 2) else ir (Nat.div m 2)) n) t
noncomputable def newT (x : MV) : Nat → Nat → TT
 | 0,_=>.leaf
 | _ + 1,0=>.node x .leaf .leaf
 | f + 1,m + 1=>if m % 2 = 0 then .node .unk (newT x f (m / 2)) .leaf else .node .unk .leaf (newT x f (m / 2))
noncomputable def putT (x : MV) : TT → Nat → TT
 | .leaf,n=>newT x (n + 1) n
 | .node _ l r,0=>.node x l r
 | .node v l r,m + 1=>if m % 2 = 0 then .node v (putT x l (m / 2)) r else .node v l (putT x r (m / 2))
noncomputable def newTK {ρ : Type} (x : MV) (f : Nat) : Nat → (TT → Option ρ) → Option ρ :=
 @Nat.rec (fun _=>Nat → (TT → Option ρ) → Option ρ) (fun _ k=>k .leaf) (fun _ ih n k=>@Nat.rec (fun _=>Option ρ) (k (.node x .leaf .leaf)) (fun m _=>bif Nat.beq (Nat.mod m 2) 0 then ih (Nat.div m 2) fun l=>k (.node .unk l .leaf) else ih (Nat.div m 2) fun r=>k (.node .unk .leaf r)) n) f
noncomputable def putTK {ρ : Type} (x : MV) (t : TT) : Nat → (TT → Option ρ) → Option ρ :=
 @TT.rec (fun _=>Nat → (TT → Option ρ) → Option ρ) (fun n k=>newTK x (Nat.succ n) n k) (fun v l r il ir n k=>@Nat.rec (fun _=>Option ρ) (k (.node x l r)) (fun m _=>bif Nat.beq (Nat.mod m 2) 0 then il (Nat.div m 2) fun l=>k (.node v l r) else ir (Nat.div m 2) fun r=>k (.node v l r)) n) t
structure TSt where
 t : TT
 len : Nat
 h : List (Nat × LObj)
 nx : Nat
noncomputable def listT (t : TT) (n : Nat) : List MV → List MV:=@Nat.rec (fun _=>List MV → List MV) (fun l=>l) (fun m ih l=>ih (getT t m :: l)) n
noncomputable def treeK {ρ : Type} (l : List MV) : Nat → TT → (TT → Option ρ) → Option ρ :=
 @List.rec MV (fun _=>Nat → TT → (TT → Option ρ) → Option ρ) (fun _ t k=>k t) (fun v _ ih n t k=>putTK v t n fun t=>ih (Nat.succ n) t k) l
noncomputable def mvT (t : TT) (x : Operand) : MV :=
 match x with
 | .tmp n=>getT t n
 | .const v=>ofConst v
 | .func f=>.fn f []
 | .global _=>.unk
noncomputable def slotK {ρ : Type} (v : MV) (t : TT) (len : Nat) (d : Option Tmp) (k : TT → Option ρ) : Option ρ :=
 match d with
 | some n=>bif Nat.blt n len then putTK v t n k else k t
 | none=>k t
noncomputable def exK {ρ : Type} (e : Ex) (a : Option ρ) (b : Ex → Option ρ) : Option ρ:=@Ex.rec (fun _=>Option ρ) a (fun i=>b (.exit i)) (b .ret) e
noncomputable def callQ {ρ : Type} (P : Program) (Γ : Env) (call : CallT) (round : CodeT) (f : Operand) (args : Array Operand) (d : Option Tmp) (t0 : TT) (len : Nat) (h0 : List (Nat × LObj)) (nx0 : Nat) (k : TSt → Option ρ) : Option ρ :=
  match mvT t0 f with
  | .fn g caps=>callF P Γ call g (appQ (mvs (mvT t0) args.toList) caps) h0 nx0 fun v h nx=>forceK v fun v=>slotK v t0 len d fun t=>k ⟨t,len,h,nx⟩
  | .bnd g first=>callF P Γ call g (appQ first (mvs (mvT t0) args.toList)) h0 nx0 fun v h nx=>forceK v fun v=>slotK v t0 len d fun t=>k ⟨t,len,h,nx⟩
  | .yld id =>
   match get h0 id with
   | some (.loop false tm ps assign body) =>
    if Nat.beq args.size ps.size && (noRng assign && noRng body) then
     round ρ assign ⟨zipPut ps.toList (mvs (mvT t0) args.toList) tm,h0,nx0⟩ fun e st1=>match e with
     | .normal=>(match get st1.h id with
      | some (.loop false tm' ps' assign' body')=>delK st1.h id fun h=>round ρ body ⟨st1.tm,(id,.loop true tm' ps' assign' body') :: h,st1.nx⟩ fun e st2=>match e with
       | .normal=>(match get st2.h id with
        | some (.loop true tm'' ps'' assign'' body'')=>delK st2.h id fun h=>slotK (.bool true) t0 len d fun t=>k ⟨t,len,(id,.loop false tm'' ps'' assign'' body'') :: h,st2.nx⟩
        | _=>none)
       | _=>none
      | _=>none)
     | _=>none
    else none
   | _=>none
  | _=>none
noncomputable def effK {ρ : Type} (nid : Nat) (d : Option Tmp) (t0 : TT) (len : Nat) (h0 : List (Nat × LObj)) (nx0 : Nat) (k : TSt → Option ρ) (e : MEff) : Option ρ :=
 match e with
 | ⟨v,_,sets⟩=>forceK v fun v=>slotK v t0 len d fun t=>setK nid true sets h0 fun h=>k ⟨t,len,h,nx0⟩
noncomputable def stepQ {ρ : Type} (P : Program) (Γ : Env) (call : CallT) (round : CodeT) (nid : Nat) (op : Op) (d : Option Tmp) (t0 : TT) (len : Nat) (h0 : List (Nat × LObj)) (nx0 : Nat) (k : TSt → Option ρ) : Option ρ :=
 match callOf op with
 | some (f,args)=>callQ P Γ call round f args d t0 len h0 nx0 k
 | none=>evOpQ P nid op (mvT t0) h0 (effK nid d t0 len h0 nx0 k)
noncomputable def gardQ (ops : List Oper) (t : TT) (j : Nat) : MV :=
 match ops[j]? with
 | some o=>match o.dst with
  | some d=>getT t d
  | none=>.unk
 | none=>.unk
noncomputable def opQ {ρ : Type} (P : Program) (Γ : Env) (call : CallT) (round : CodeT) (ops : List Oper) (op : Op) (d : Option Tmp) (g : Option (Nat × Bool)) (nid : Nat) (st : TSt) (k : TSt → Option ρ) : Option ρ :=
 match st with
 | ⟨t0,len,h0,nx0⟩ =>
  match g with
  | none=>stepQ P Γ call round nid op d t0 len h0 nx0 k
  | some (j,want) =>
   match gardQ ops t0 j with
   | .bool b=>bif b == want then stepQ P Γ call round nid op d t0 len h0 nx0 k else slotK .undef t0 len d fun t=>k ⟨t,len,h0,nx0⟩
   | .undef=>slotK .undef t0 len d fun t=>k ⟨t,len,h0,nx0⟩
   | _=>none
noncomputable def evOpsQ {ρ : Type} (P : Program) (Γ : Env) (call : CallT) (round : CodeT) (ops : List Oper) (k : TSt → Option ρ) (l : List Oper) (nid : Nat) (st : TSt) : Option ρ :=
 @List.rec Oper (fun _=>Nat → TSt → Option ρ) (fun _ st=>k st) (fun o _ ih nid st=>opQ P Γ call round ops o.op o.dst o.guard nid st fun st=>natK (Nat.succ nid) fun n=>ih n st) l nid st
noncomputable def contD {ρ : Type} (d : Option Tmp) (t0 : TT) (len : Nat) (h0 : List (Nat × LObj)) (fs : List Foot) (k : TSt → List Foot → Option ρ) (q : MEff × Nat × Bool) : Option ρ :=
 match q with
 | (⟨v,rs,sets⟩,n,c)=>forceK v fun v=>slotK v t0 len d fun t=>setK 0 false sets h0 fun h=>natK n fun n=>k ⟨t,len,h,n⟩ (⟨rs,sets.map (·.1),c⟩ :: fs)
noncomputable def andK {α ρ : Type} (x : Option α) (k : α → Option ρ) : Option ρ :=
 match x with
 | some q=>k q
 | none=>none
noncomputable def runD {ρ : Type} (P : Program) (Γ : Env) (call : CallT) (nid : Nat) (op : Op) (t0 : TT) (h0 : List (Nat × LObj)) (nx0 : Nat) (k : MEff × Nat × Bool → Option ρ) : Option ρ :=
 match callOf op with
 | some (f,args)=>(match mvT t0 f with
  | .fn g caps=>andK (runC P Γ call g (appQ (mvs (mvT t0) args.toList) caps) h0 nx0) k
  | .bnd g first=>andK (runC P Γ call g (appQ first (mvs (mvT t0) args.toList)) h0 nx0) k
  | _=>none)
 | none=>andK (evOpQ P nid op (mvT t0) h0 some) fun e=>k (e,nx0,false)
noncomputable def opD {ρ : Type} (P : Program) (Γ : Env) (call : CallT) (ops : List Oper) (op : Op) (d : Option Tmp) (g : Option (Nat × Bool)) (nid : Nat) (st : TSt) (fs : List Foot) (k : TSt → List Foot → Option ρ) : Option ρ :=
 match st with
 | ⟨t0,len,h0,nx0⟩ =>
  match g with
  | none=>runD P Γ call nid op t0 h0 nx0 (contD d t0 len h0 fs k)
  | some (j,want) =>
   match gardQ ops t0 j with
   | .bool b=>bif b == want then runD P Γ call nid op t0 h0 nx0 (contD d t0 len h0 fs k) else contD d t0 len h0 fs k ({ v:=.undef },nx0,false)
   | .undef=>contD d t0 len h0 fs k ({ v:=.undef },nx0,false)
   | _=>none
noncomputable def evDrawQ {ρ : Type} (P : Program) (Γ : Env) (call : CallT) (ops : List Oper) (k : TSt → List Foot → Option ρ) (l : List Oper) (nid : Nat) (st : TSt) (fs : List Foot) : Option ρ :=
 @List.rec Oper (fun _=>Nat → TSt → List Foot → Option ρ) (fun _ st fs=>k st fs) (fun o _ ih nid st fs=>opD P Γ call ops o.op o.dst o.guard nid st fs fun st fs=>natK (Nat.succ nid) fun n=>ih n st fs) l nid st fs
noncomputable def revF (l : List Foot) : List Foot → List Foot:=@List.rec Foot (fun _=>List Foot → List Foot) (fun r=>r) (fun a _ ih r=>ih (a :: r)) l
noncomputable def regionQ {ρ : Type} (P : Program) (Γ : Env) (call : CallT) (round : CodeT) (ops : List Oper) (sz : Nat) (aops : Array Oper) (draw : Bool) (st : TSt) (k : Ex → TSt → Option ρ) : Option ρ :=
 match st with
 | ⟨t0,len,h0,nx0⟩=>bif draw then natK (nx0 + sz) fun nx=>natK nx0 fun n0=>evDrawQ P Γ call ops (fun st' fs=>bif drawOk aops (revF fs []) then k .normal st' else none) ops n0 ⟨t0,len,h0,nx⟩ []
  else natK (nx0 + sz) fun nx=>natK nx0 fun n0=>evOpsQ P Γ call round ops (fun st'=>k .normal st') ops n0 ⟨t0,len,h0,nx⟩
noncomputable def condQ {ρ : Type} (v : MV) (a b : Option ρ) : Option ρ :=
 match v with
 | .bool t=>bif t then a else b
 | _=>none
noncomputable def rangeQ {ρ : Type} (P : Program) (call : CallT) (g : Operand) (ps : Array Tmp) (assign body : Code) (st : TSt) (k : Ex → TSt → Option ρ) : Option ρ :=
  match st with
  | ⟨t0,len,h0,nx0⟩ =>
  match mvT t0 g with
  | .fn gf caps=>if entersB P gf && Go.Ev.hasBody P gf then natK (nx0 + 1) fun nx=>call ρ gf (.yld nx0 :: caps) ((nx0,.loop false (listT t0 len []) ps assign body) :: h0) nx fun _ h nx=>match get h nx0 with
   | some (.loop false _ _ _ _)=>delK h nx0 fun h=>k .normal ⟨t0,len,h,nx⟩
   | _=>none
   else none
  | _=>none
noncomputable def unrQ (f : (ρ : Type) → TSt → (Ex → TSt → Option ρ) → Option ρ) (n : Nat) : (ρ : Type) → TSt → (Ex → TSt → Option ρ) → Option ρ :=
 @Nat.rec (fun _=>(ρ : Type) → TSt → (Ex → TSt → Option ρ) → Option ρ) (fun _ _ _=>none) (fun _ ih ρ st k=>f ρ st fun e st'=>exK e (ih ρ st' k) fun e=>k e st') n
noncomputable def evCQ (P : Program) (Γ : Env) (call : CallT) (round : CodeT) (c : Code) : (ρ : Type) → TSt → (Ex → TSt → Option ρ) → Option ρ :=
 @Code.rec (fun _=>(ρ : Type) → TSt → (Ex → TSt → Option ρ) → Option ρ)
  (fun _ st k=>k .normal st)
  (fun _ ops draw _ st k=>regionQ P Γ call round ops.toList ops.size ops draw st k)
  (fun _ _ ia ib ρ st k=>ia ρ st fun e st'=>exK e (ib ρ st' k) fun e=>k e st')
  (fun c _ _ ia ib ρ st k=>condQ (mvT st.t c) (ia ρ st k) (ib ρ st k))
  (fun id _ ib ρ st k=>ib ρ st fun e st'=>@Ex.rec (fun _=>Option ρ) (k .normal st') (fun i=>bif Nat.beq i id then k .normal st' else k (.exit i) st') (k .ret st') e)
  (fun _ ib ρ st k=>unrQ ib ROUNDS ρ st k)
  (fun g ps assign body _ _ _ st k=>rangeQ P call g ps assign body st k)
  (fun id _ st k=>k (.exit id) st)
  (fun _ _ _ _ _=>none)
  (fun _ _ st k=>k .normal st)
  (fun _ _ _ _=>none)
  (fun _ st k=>k .ret st)
  (fun _ _ _ _=>none) c
noncomputable def resultQ {ρ : Type} (P : Program) (t : TT) (h : List (Nat × LObj)) (rv : ResultVar) (k : MV → Option ρ) : Option ρ :=
 match rv with
 | .tmp n=>k (getT t n)
 | .cell n ty =>
  match getT t n with
  | .ptr id off=>match cellsAt h id with
   | some cs=>loadQ P ty (dropQ off cs) k
   | none=>none
  | _=>none
noncomputable def resultsQ {ρ : Type} (P : Program) (t : TT) (h : List (Nat × LObj)) (l : List ResultVar) : (List MV → Option ρ) → Option ρ :=
 @List.rec ResultVar (fun _=>(List MV → Option ρ) → Option ρ) (fun k=>k []) (fun r _ ih k=>resultQ P t h r fun v=>ih fun vs=>k (v :: vs)) l
noncomputable def endQ {ρ : Type} (P : Program) (rs : List ResultVar) (st : TSt) (k : MV → List (Nat × LObj) → Nat → Option ρ) : Option ρ :=
 match st with
 | ⟨t,_,h,nx⟩=>resultsQ P t h rs fun vs=>k (oneM vs) h nx
noncomputable def bodyQ {ρ : Type} (P : Program) (Γ : Env) (call : CallT) (round : CodeT) (fn : Func) (args : List MV) (h : List (Nat × LObj)) (nx : Nat) (k : MV → List (Nat × LObj) → Nat → Option ρ) : Option ρ :=
 match fn.body with
 | some c=>natK (max fn.ntmps (lenQ args)) fun len=>treeK args 0 .leaf fun t=>evCQ P Γ call round c ρ ⟨t,len,h,nx⟩ fun e st=>match e with
   | .exit _=>none
   | _=>endQ P fn.results.toList st k
 | none=>none
noncomputable def bodyT (P : Program) (Γ : Env) (call : CallT) (round : CodeT) : CallT:=fun _ g args h nx k =>
 match P.funcs[g]? with
 | some fn=>bodyQ P Γ call round fn args h nx k
 | none=>none
noncomputable def callM (P : Program) (Γ : Env) (pin : CallT → CallT) : Nat → CallT × CodeT
 | 0=>(fun _ _ _ _ _ _=>none,fun _ _ _ _=>none)
 | n + 1=>(nearM <| pin <| bodyT P Γ (callM P Γ pin n).1 (callM P Γ pin n).2,fun _ c st k=>treeK st.tm 0 .leaf fun t=>natK st.tm.length fun len=>evCQ P Γ (callM P Γ pin n).1 (callM P Γ pin n).2 c _ ⟨t,len,st.h,st.nx⟩ fun e s=>k e ⟨listT s.t s.len [],s.h,s.nx⟩)
end Go.Mi


namespace Go.Mi
open Go.Ev (AV Sh Summ Env Ex find entersB ancTab)
theorem getT_leaf (m : Nat) : getT .leaf m = .unk:=rfl
theorem getT_zero (v : MV) (l r : TT) : getT (.node v l r) 0 = v:=rfl
theorem beq_mod (m : Nat) : Nat.beq (Nat.mod m 2) 0 = decide (m % 2 = 0):=beq_dec _ _
theorem getT_succ (v : MV) (l r : TT) (m : Nat) : getT (.node v l r) (m + 1) = if m % 2 = 0 then getT l (m / 2) else getT r (m / 2):=by
 show (bif Nat.beq (Nat.mod m 2) 0 then getT l (Nat.div m 2) else getT r (Nat.div m 2)) = _
 rw [beq_mod]
 by_cases e : m % 2 = 0
 ·rw [if_pos e,decide_eq_true e];rfl
 ·rw [if_neg e,decide_eq_false e];rfl
theorem half_eq {a b : Nat} (h : a % 2 = b % 2) : a / 2 = b / 2 ↔ a = b:=by omega
theorem getT_newT (x : MV) : ∀ (f n m : Nat),n < f → getT (newT x f n) m = if m = n then x else .unk
 | 0,n,m,h=>by omega
 | f + 1,0,m,_=>by
  cases m with
  | zero=>rfl
  | succ m =>
   show getT (.node x .leaf .leaf) (m + 1) = _
   rw [getT_succ,getT_leaf,if_neg (by omega : ¬ m + 1 = 0)]
   split <;> rfl
 | f + 1,n + 1,m,h=>by
  have ih:=getT_newT x f (n / 2)
  show getT (if n % 2 = 0 then .node .unk (newT x f (n / 2)) .leaf else .node .unk .leaf (newT x f (n / 2))) m = _
  cases m with
  | zero=>split <;> rw [getT_zero,if_neg (by omega)]
  | succ m =>
   by_cases e : n % 2 = 0
   ·rw [if_pos e,getT_succ,ih _ (by omega),getT_leaf]
    by_cases e2 : m % 2 = 0
    ·rw [if_pos e2]
     by_cases e3 : m = n
     ·rw [if_pos (by rw [e3]),if_pos (by rw [e3])]
     ·rw [if_neg (fun h=>e3 ((half_eq (by omega)).1 h)),if_neg (by omega)]
    ·rw [if_neg e2,if_neg (by omega)]
   ·rw [if_neg e,getT_succ,ih _ (by omega),getT_leaf]
    by_cases e2 : m % 2 = 0
    ·rw [if_pos e2,if_neg (by omega)]
    ·rw [if_neg e2]
     by_cases e3 : m = n
     ·rw [if_pos (by rw [e3]),if_pos (by rw [e3])]
     ·rw [if_neg (fun h=>e3 ((half_eq (by omega)).1 h)),if_neg (by omega)]
theorem getT_putT (x : MV) : ∀ (t : TT) (n m : Nat),getT (putT x t n) m = if m = n then x else getT t m
 | .leaf,n,m=>by
  show getT (newT x (n + 1) n) m = _
  rw [getT_newT x _ _ _ (by omega),getT_leaf]
 | .node v l r,0,m=>by
  cases m with
  | zero=>rfl
  | succ m =>
   show getT (.node x l r) (m + 1) = _
   rw [if_neg (by omega : ¬ m + 1 = 0),getT_succ,getT_succ]
 | .node v l r,n + 1,m=>by
  show getT (if n % 2 = 0 then .node v (putT x l (n / 2)) r else .node v l (putT x r (n / 2))) m = _
  cases m with
  | zero=>split <;> rw [getT_zero,if_neg (by omega),getT_zero]
  | succ m =>
   rw [getT_succ v l r m]
   by_cases e : n % 2 = 0
   ·rw [if_pos e,getT_succ,getT_putT x l]
    by_cases e2 : m % 2 = 0
    ·rw [if_pos e2,if_pos e2]
     by_cases e3 : m = n
     ·rw [if_pos (by rw [e3]),if_pos (by rw [e3])]
     ·rw [if_neg (fun h=>e3 ((half_eq (by omega)).1 h)),if_neg (by omega)]
    ·rw [if_neg e2,if_neg e2,if_neg (by omega)]
   ·rw [if_neg e,getT_succ,getT_putT x r]
    by_cases e2 : m % 2 = 0
    ·rw [if_pos e2,if_pos e2,if_neg (by omega)]
    ·rw [if_neg e2,if_neg e2]
     by_cases e3 : m = n
     ·rw [if_pos (by rw [e3]),if_pos (by rw [e3])]
     ·rw [if_neg (fun h=>e3 ((half_eq (by omega)).1 h)),if_neg (by omega)]
section
variable {ρ : Type}
theorem newTK_eq (x : MV) : ∀ (f n : Nat) (k : TT → Option ρ),newTK x f n k = k (newT x f n)
 | 0,n,k=>rfl
 | f + 1,0,k=>rfl
 | f + 1,n + 1,k=>by
  show (bif Nat.beq (Nat.mod n 2) 0 then newTK x f (Nat.div n 2) (fun l=>k (.node .unk l .leaf)) else newTK x f (Nat.div n 2) fun r=>k (.node .unk .leaf r)) = k (if n % 2 = 0 then _ else _)
  rw [beq_mod,newTK_eq x f,newTK_eq x f]
  by_cases e : n % 2 = 0
  ·rw [if_pos e,decide_eq_true e];rfl
  ·rw [if_neg e,decide_eq_false e];rfl
theorem putTK_eq (x : MV) : ∀ (t : TT) (n : Nat) (k : TT → Option ρ),putTK x t n k = k (putT x t n)
 | .leaf,n,k=>by
  show newTK x (Nat.succ n) n k = k (newT x (n + 1) n)
  exact newTK_eq x (n + 1) n k
 | .node v l r,0,k=>rfl
 | .node v l r,n + 1,k=>by
  show (bif Nat.beq (Nat.mod n 2) 0 then putTK x l (Nat.div n 2) (fun l=>k (.node v l r)) else putTK x r (Nat.div n 2) fun r=>k (.node v l r)) = k (if n % 2 = 0 then _ else _)
  rw [beq_mod,putTK_eq x l,putTK_eq x r]
  by_cases e : n % 2 = 0
  ·rw [if_pos e,decide_eq_true e];rfl
  ·rw [if_neg e,decide_eq_false e];rfl
noncomputable def absT (t : TT) (len : Nat) : List MV:=(List.range len).map (getT t)
theorem listT_eq (t : TT) : ∀ (n : Nat) (l : List MV),listT t n l = absT t n ++ l
 | 0,l=>rfl
 | n + 1,l=>by
  show listT t n (getT t n :: l) = _
  rw [listT_eq t n]
  simp [absT,List.range_succ]
theorem listT_nil (t : TT) (n : Nat) : listT t n [] = absT t n:=by rw [listT_eq,List.append_nil]
def Inv (t : TT) (len : Nat) : Prop:=∀ n,len ≤ n → getT t n = .unk
theorem nth_abs {t : TT} {len : Nat} (hI : Inv t len) (n : Nat) : nth (absT t len) n = getT t n:=by
 rw [nth_eq]
 unfold absT
 by_cases h : n < len
 ·simp [List.getD,h]
 ·simp [List.getD,h,hI n (by omega)]
theorem mvT_eq {t : TT} {len : Nat} (hI : Inv t len) : mvT t = mval (absT t len):=by
 funext x
 cases x with
 | tmp n=>exact (nth_abs hI n).symm
 | _=>rfl
noncomputable def put2 (v : MV) (t : TT) (len n : Nat) : TT:=if n < len then putT v t n else t
theorem put2_inv {v : MV} {t : TT} {len : Nat} (hI : Inv t len) (n : Nat) : Inv (put2 v t len n) len:=by
 intro m hm
 unfold put2
 split
 ·rw [getT_putT,if_neg (by omega)];exact hI m hm
 ·exact hI m hm
theorem put2_abs (v : MV) (t : TT) (len n : Nat) : absT (put2 v t len n) len = (absT t len).set n v:=by
 apply List.ext_getElem?
 intro m
 rw [List.getElem?_set]
 unfold absT put2
 by_cases hm : m < len
 ·by_cases hn : n < len
  ·rw [if_pos hn]
   by_cases e : n = m
   ·subst e
    simp [hm,getT_putT]
   ·simp [hm,e,getT_putT,Ne.symm e]
  ·rw [if_neg hn,if_neg (by omega : ¬ n = m)]
 ·have h1 : ∀ t,((List.range len).map (getT t))[m]? = none:=fun t=>List.getElem?_eq_none (by simp;omega)
  rw [h1,h1]
  by_cases e : n = m
  ·rw [if_pos e,if_neg (by simp;omega)]
  ·rw [if_neg e]
noncomputable def slotT (v : MV) (t : TT) (len : Nat) : Option Tmp → TT
 | some n=>put2 v t len n
 | none=>t
theorem slotK_eq (v : MV) (t : TT) (len : Nat) (d : Option Tmp) (k : TT → Option ρ) : slotK v t len d k = k (slotT v t len d):=by
 cases d with
 | none=>rfl
 | some n =>
  show (bif Nat.blt n len then putTK v t n k else k t) = k (put2 v t len n)
  unfold put2
  cases hb : Nat.blt n len with
  | true =>
   have : n < len:=by rw [← Nat.blt_eq];exact hb
   rw [if_pos this]
   exact putTK_eq v t n k
  | false =>
   have : ¬ n < len:=fun h=>by
    rw [← Nat.blt_eq,hb] at h;cases h
   rw [if_neg this]
   rfl
theorem slotT_inv {v : MV} {t : TT} {len : Nat} (hI : Inv t len) (d : Option Tmp) : Inv (slotT v t len d) len:=by
 cases d with
 | none=>exact hI
 | some n=>exact put2_inv hI n
theorem slotT_abs (v : MV) (t : TT) (len : Nat) (d : Option Tmp) : absT (slotT v t len d) len = putD (absT t len) d v:=by
 cases d with
 | none=>rfl
 | some n=>exact put2_abs v t len n
noncomputable def treeT : List MV → Nat → TT → TT
 | [],_,t=>t
 | v :: l,n,t=>treeT l (n + 1) (putT v t n)
theorem treeK_eq : ∀ (l : List MV) (n : Nat) (t : TT) (k : TT → Option ρ),treeK l n t k = k (treeT l n t)
 | [],_,_,_=>rfl
 | v :: l,n,t,k=>by
  show putTK v t n (fun t=>treeK l (Nat.succ n) t k) = _
  rw [putTK_eq,treeK_eq l]
  rfl
theorem getT_treeT : ∀ (l : List MV) (n : Nat) (t : TT) (m : Nat),getT (treeT l n t) m = if n ≤ m ∧ m < n + l.length then l.getD (m - n) .unk else getT t m
 | [],n,t,m=>by
  rw [if_neg (by simp only [List.length_nil];omega)]
  rfl
 | v :: l,n,t,m=>by
  show getT (treeT l (n + 1) (putT v t n)) m = _
  rw [getT_treeT l,getT_putT]
  by_cases e : m = n
  ·subst e
   rw [if_neg (by omega),if_pos rfl,if_pos (by simp)]
   simp
  ·rw [if_neg e]
   by_cases h : n + 1 ≤ m ∧ m < n + 1 + l.length
   ·rw [if_pos h,if_pos (by simp only [List.length_cons];omega)]
    obtain ⟨j,hj⟩ : ∃ j,m - n = j + 1:=⟨m - n - 1,by omega⟩
    rw [hj,show m - (n + 1) = j by omega]
    simp
   ·rw [if_neg h,if_neg (by simp only [List.length_cons];omega)]
theorem treeT_inv (l : List MV) {len : Nat} (h : l.length ≤ len) : Inv (treeT l 0 .leaf) len:=fun m hm=>by
 rw [getT_treeT,if_neg (by omega)];rfl
theorem treeT_abs (l : List MV) {len : Nat} (h : l.length ≤ len) : absT (treeT l 0 .leaf) len = l ++ List.replicate (len - l.length) .unk:=by
 apply List.ext_getElem?
 intro m
 unfold absT
 by_cases hm : m < len
 ·simp only [List.getElem?_map,List.getElem?_range hm,Option.map_some,getT_treeT,Nat.zero_add,Nat.zero_le,true_and,Nat.sub_zero,getT_leaf]
  by_cases h2 : m < l.length
  ·rw [if_pos h2,List.getElem?_append_left h2]
   simp [List.getD,h2]
  ·rw [if_neg h2,List.getElem?_append_right (by omega),List.getElem?_replicate,if_pos (by omega)]
 ·rw [List.getElem?_eq_none (by simp;omega),List.getElem?_eq_none (by simp;omega)]
theorem treeT_abs_self (l : List MV) : absT (treeT l 0 .leaf) l.length = l:=by rw [treeT_abs l (Nat.le_refl _)];simp
end
noncomputable def absS (s : TSt) : MSt:=⟨absT s.t s.len,s.h,s.nx⟩
section
variable {ρ : Type} {P : Program} {Γ : Env} {call : CallT} {round : CodeT}
theorem stepQ_eq {nid : Nat} (o : Oper) {t0 : TT} {len : Nat} {h0 : List (Nat × LObj)} {nx0 : Nat} {kq : TSt → Option ρ} {k : MSt → Option ρ} (hI : Inv t0 len) (hk : ∀ s,Inv s.t s.len → kq s = k (absS s)) :
  stepQ P Γ call round nid o.op o.dst t0 len h0 nx0 kq = stepM P Γ call round nid o ⟨absT t0 len,h0,nx0⟩ k:=by
 have hk' : ∀ v h nx,kq ⟨slotT v t0 len o.dst,len,h,nx⟩ = k ⟨putD (absT t0 len) o.dst v,h,nx⟩:=fun v h nx=>by
  rw [hk _ (slotT_inv hI o.dst)]
  show k ⟨absT (slotT v t0 len o.dst) len,h,nx⟩ = _
  rw [slotT_abs]
 have heff : effK nid o.dst t0 len h0 nx0 kq = fun e=>forceK e.v fun v=>dstK v (absT t0 len) o.dst fun tm=>setK nid true e.sets h0 fun h=>k ⟨tm,h,nx0⟩:=by
  funext e
  obtain ⟨v,rs,sets⟩:=e
  show (forceK v fun v=>slotK v t0 len o.dst fun t=>setK nid true sets h0 fun h=>kq ⟨t,len,h,nx0⟩) = _
  simp only [forceK_eq,slotK_eq,dstK_eq,hk']
 have other : callOf o.op = none → stepQ P Γ call round nid o.op o.dst t0 len h0 nx0 kq = evOp P nid o (absT t0 len) h0 fun e=>forceK e.v fun v=>dstK v (absT t0 len) o.dst fun tm=>setK nid true e.sets h0 fun h=>k ⟨tm,h,nx0⟩:=fun hc=>by
  unfold stepQ
  rw [hc]
  show evOpQ P nid o.op (mvT t0) h0 (effK nid o.dst t0 len h0 nx0 kq) = _
  rw [heff,mvT_eq hI,evOpQ_eq]
 cases ho : o.op with
 | call c =>
  obtain ⟨cl,args,ts⟩:=c
  cases cl with
  | value f =>
   unfold stepQ stepM
   simp only [ho]
   show callQ P Γ call round f args o.dst t0 len h0 nx0 kq = _
   unfold callQ
   simp only [mvT_eq hI,mvs_eq,appQ_eq,forceK_eq,slotK_eq,dstK_eq,hk']
   rfl
  | _ =>
   have hc : callOf o.op = none:=by rw [ho];rfl
   have:=other hc
   rw [ho] at this
   rw [this]
   unfold stepM
   simp only [ho]
 | _ =>
  have hc : callOf o.op = none:=by rw [ho];rfl
  have:=other hc
  rw [ho] at this
  rw [this]
  unfold stepM
  simp only [ho]
theorem gardQ_eq (ops : List Oper) {t : TT} {len : Nat} (hI : Inv t len) (j : Nat) : gardQ ops t j = guardAt ops (absT t len) j:=by
 unfold gardQ guardAt
 cases ops[j]? with
 | none=>rfl
 | some o =>
  show (match o.dst with
   | some d=>getT t d
   | none=>.unk) = match o.dst with
   | some d=>nth (absT t len) d
   | none=>.unk
  cases o.dst with
  | none=>rfl
  | some d=>exact (nth_abs hI d).symm
theorem evOpsQ_eq {base : Nat} {ops : List Oper} : ∀ (l : List Oper) (i : Nat) (s : TSt) (kq : TSt → Option ρ) (k : MSt → Option ρ),Inv s.t s.len → (∀ s,Inv s.t s.len → kq s = k (absS s)) → evOpsQ P Γ call round ops kq l (base + i) s = evOps P Γ call round base ops k i l (absS s)
 | [],_,s,kq,k,hI,hk=>hk s hI
 | o :: rest,i,⟨t0,len,h0,nx0⟩,kq,k,hI,hk=>by
  have ih : ∀ s : TSt,Inv s.t s.len → (natK (Nat.succ (base + i)) fun n=>evOpsQ P Γ call round ops kq rest n s) = evOps P Γ call round base ops k (i + 1) rest (absS s):=fun s hs=>by
   rw [natK_eq]
   exact evOpsQ_eq rest (i + 1) s kq k hs hk
  show opQ P Γ call round ops o.op o.dst o.guard (base + i) ⟨t0,len,h0,nx0⟩ (fun st=>natK (Nat.succ (base + i)) fun n=>evOpsQ P Γ call round ops kq rest n st) = _
  have hstep:=stepQ_eq (P:=P) (Γ:=Γ) (call:=call) (round:=round) (nid:=base + i) o (h0:=h0) (nx0:=nx0) hI ih
  have hskip : (slotK .undef t0 len o.dst fun t=>natK (Nat.succ (base + i)) fun n=>evOpsQ P Γ call round ops kq rest n ⟨t,len,h0,nx0⟩) = skipK o (absS ⟨t0,len,h0,nx0⟩) (evOps P Γ call round base ops k (i + 1) rest):=by
   rw [slotK_eq,skipK_eq,dstK_eq,ih _ (slotT_inv hI o.dst)]
   show evOps P Γ call round base ops k (i + 1) rest ⟨absT (slotT .undef t0 len o.dst) len,h0,nx0⟩ = _
   rw [slotT_abs]
   rfl
  unfold opQ
  simp only [evOps,natK_eq] at hstep hskip ⊢
  cases hg : o.guard with
  | none=>exact hstep
  | some p =>
   obtain ⟨j,want⟩:=p
   simp only [gardQ_eq ops hI]
   show _ = match guardAt ops (absT t0 len) j with
    | .bool b=>_
    | .undef=>_
    | _=>none
   generalize guardAt ops (absT t0 len) j = v
   cases v with
   | bool b =>
    cases hbw : b == want with
    | true=>simp only [hbw,cond_true];exact hstep
    | false=>simp only [hbw,cond_false];exact hskip
   | undef=>exact hskip
   | _=>rfl
theorem revF_eq : ∀ (l r : List Foot),revF l r = l.reverse ++ r
 | [],r=>rfl
 | a :: l,r=>by
  show revF l (a :: r) = _
  rw [revF_eq l]
  simp
theorem runD_eq {nid : Nat} (o : Oper) {t0 : TT} {len : Nat} {h0 : List (Nat × LObj)} {nx0 : Nat} (hI : Inv t0 len) (k : MEff × Nat × Bool → Option ρ) : runD P Γ call nid o.op t0 h0 nx0 k = andK (runE P Γ call nid o (absT t0 len) h0 nx0) k:=by
 have other : callOf o.op = none → runD P Γ call nid o.op t0 h0 nx0 k = andK (match evOp P nid o (absT t0 len) h0 some with
  | some e=>some (e,nx0,false)
  | none=>none) k:=fun hc=>by
  unfold runD
  rw [hc]
  show andK (evOpQ P nid o.op (mvT t0) h0 some) _ = _
  rw [mvT_eq hI,evOpQ_eq]
  cases evOp P nid o (absT t0 len) h0 some <;> rfl
 cases ho : o.op with
 | call c =>
  obtain ⟨cl,args,ts⟩:=c
  cases cl with
  | value f =>
   unfold runD runE
   simp only [ho]
   show (match mvT t0 f with
    | .fn g caps=>andK (runC P Γ call g (appQ (mvs (mvT t0) args.toList) caps) h0 nx0) k
    | .bnd g first=>andK (runC P Γ call g (appQ first (mvs (mvT t0) args.toList)) h0 nx0) k
    | _=>none) = _
   simp only [mvT_eq hI,mvs_eq,appQ_eq]
   cases mval (absT t0 len) f <;> rfl
  | _ =>
   have hc : callOf o.op = none:=by rw [ho];rfl
   have:=other hc
   rw [ho] at this
   rw [this]
   unfold runE
   simp only [ho] <;> rfl
 | _ =>
  have hc : callOf o.op = none:=by rw [ho];rfl
  have:=other hc
  rw [ho] at this
  rw [this]
  unfold runE
  simp only [ho] <;> rfl
theorem evDrawQ_eq {base : Nat} {ops : List Oper} : ∀ (l : List Oper) (i : Nat) (s : TSt) (fs gs : List Foot) (kq : TSt → List Foot → Option ρ) (k : MSt → List Foot → Option ρ),Inv s.t s.len → gs = fs.reverse → (∀ s fs,Inv s.t s.len → kq s fs = k (absS s) fs.reverse) → evDrawQ P Γ call ops kq l (base + i) s fs = evDraw P Γ call base ops k i l (absS s) gs
 | [],i,s,fs,gs,kq,k,hI,hg,hk=>by rw [hg];exact hk s fs hI
 | o :: rest,i,⟨t0,len,h0,nx0⟩,fs,gs,kq,k,hI,hg,hk=>by
  have ih : ∀ (s : TSt) (fs : List Foot),Inv s.t s.len → (natK (Nat.succ (base + i)) fun n=>evDrawQ P Γ call ops kq rest n s fs) = evDraw P Γ call base ops k (i + 1) rest (absS s) fs.reverse:=fun s fs hs=>by
   rw [natK_eq]
   exact evDrawQ_eq rest (i + 1) s fs _ kq k hs rfl hk
  have hcont : ∀ q : MEff × Nat × Bool,contD o.dst t0 len h0 fs (fun st fs=>natK (Nat.succ (base + i)) fun n=>evDrawQ P Γ call ops kq rest n st fs) q = (forceK q.1.v fun v=>dstK v (absT t0 len) o.dst fun tm=>setK 0 false q.1.sets h0 fun h=>natK q.2.1 fun n=>evDraw P Γ call base ops k (i + 1) rest ⟨tm,h,n⟩ (gs ++ [⟨q.1.reads,q.1.sets.map (·.1),q.2.2⟩])):=fun q=>by
   obtain ⟨⟨v,rs,sets⟩,n,c⟩:=q
   show (forceK v fun v=>slotK v t0 len o.dst fun t=>setK 0 false sets h0 fun h=>natK n fun n=>natK (Nat.succ (base + i)) fun n2=>evDrawQ P Γ call ops kq rest n2 ⟨t,len,h,n⟩ (⟨rs,sets.map (·.1),c⟩ :: fs)) = _
   simp only [forceK_eq,slotK_eq,dstK_eq,natK_eq]
   congr 1
   funext h
   have:=ih ⟨slotT v t0 len o.dst,len,h,n⟩ (⟨rs,sets.map (·.1),c⟩ :: fs) (slotT_inv hI o.dst)
   rw [natK_eq] at this
   refine this.trans ?_
   show evDraw P Γ call base ops k (i + 1) rest ⟨absT (slotT v t0 len o.dst) len,h,n⟩ _ = _
   rw [slotT_abs,List.reverse_cons,hg]
  show opD P Γ call ops o.op o.dst o.guard (base + i) ⟨t0,len,h0,nx0⟩ fs (fun st fs=>natK (Nat.succ (base + i)) fun n=>evDrawQ P Γ call ops kq rest n st fs) = _
  have hrun : runD P Γ call (base + i) o.op t0 h0 nx0 (contD o.dst t0 len h0 fs (fun st fs=>natK (Nat.succ (base + i)) fun n=>evDrawQ P Γ call ops kq rest n st fs)) = andK (runE P Γ call (base + i) o (absT t0 len) h0 nx0) (fun q=>forceK q.1.v fun v=>dstK v (absT t0 len) o.dst fun tm=>setK 0 false q.1.sets h0 fun h=>natK q.2.1 fun n=>evDraw P Γ call base ops k (i + 1) rest ⟨tm,h,n⟩ (gs ++ [⟨q.1.reads,q.1.sets.map (·.1),q.2.2⟩])):=by
   rw [runD_eq o hI]
   congr 1
   funext q
   exact hcont q
  unfold opD
  simp only [evDraw,effM]
  cases hgd : o.guard with
  | none =>
   refine hrun.trans ?_
   show _ = match runE P Γ call (base + i) o (absT t0 len) h0 nx0 with
    | some q=>_
    | none=>none
   cases runE P Γ call (base + i) o (absT t0 len) h0 nx0 <;> rfl
  | some p =>
   obtain ⟨j,want⟩:=p
   simp only [gardQ_eq ops hI]
   show _ = match (match guardAt ops (absT t0 len) j with
    | .bool b=>bif b == want then runE P Γ call (base + i) o (absT t0 len) h0 nx0 else some (({ v:=.undef } : MEff),nx0,false)
    | .undef=>some ({ v:=.undef },nx0,false)
    | _=>none) with
    | some q=>_
    | none=>none
   generalize guardAt ops (absT t0 len) j = v
   cases v with
   | bool b =>
    cases hbw : b == want with
    | true =>
     simp only [hbw,cond_true]
     refine hrun.trans ?_
     cases runE P Γ call (base + i) o (absT t0 len) h0 nx0 <;> rfl
    | false=>simp only [hbw,cond_false];exact hcont _
   | undef=>exact hcont _
   | _=>rfl
theorem evCQ_eq : ∀ (c : Code) (ρ : Type) (s : TSt) (kq : Ex → TSt → Option ρ) (k : Ex → MSt → Option ρ),Inv s.t s.len → (∀ e s,Inv s.t s.len → kq e s = k e (absS s)) → evCQ P Γ call round c ρ s kq = evC P Γ call round c ρ (absS s) k
 | .skip,ρ,s,kq,k,hI,hk=>hk .normal s hI
 | .label _,ρ,s,kq,k,hI,hk=>hk .normal s hI
 | .region id ops draw,ρ,⟨t0,len,h0,nx0⟩,kq,k,hI,hk=>by
  rw [evC_region]
  show regionQ P Γ call round ops.toList ops.size ops draw ⟨t0,len,h0,nx0⟩ kq = _
  unfold regionQ
  simp only [natK_eq,absS]
  cases draw with
  | true =>
   simp only [cond_true,if_true]
   refine evDrawQ_eq (base:=nx0) ops.toList 0 ⟨t0,len,h0,nx0 + ops.size⟩ [] [] _ _ hI rfl fun s fs hs=>?_
   rw [revF_eq,List.append_nil,hk _ _ hs]
   cases drawOk ops fs.reverse <;> rfl
  | false =>
   simp only [cond_false,Bool.false_eq_true,if_false]
   exact evOpsQ_eq (base:=nx0) ops.toList 0 ⟨t0,len,h0,nx0 + ops.size⟩ _ _ hI fun s hs=>hk .normal s hs
 | .seq a b,ρ,s,kq,k,hI,hk=>by
  show evCQ P Γ call round a ρ s (fun e st'=>exK e (evCQ P Γ call round b ρ st' kq) fun e=>kq e st') = evC P Γ call round a ρ (absS s) _
  refine evCQ_eq a ρ s _ _ hI fun e s' hs'=>?_
  cases e with
  | normal=>exact evCQ_eq b ρ s' kq k hs' hk
  | exit i=>exact hk _ _ hs'
  | ret=>exact hk _ _ hs'
 | .cond c a b,ρ,s,kq,k,hI,hk=>by
  show condQ (mvT s.t c) (evCQ P Γ call round a ρ s kq) (evCQ P Γ call round b ρ s kq) = _
  rw [evCQ_eq a ρ s kq k hI hk,evCQ_eq b ρ s kq k hI hk,mvT_eq hI]
  show condQ (mval (absS s).tm c) _ _ = _
  unfold condQ
  rw [evC]
  rfl
 | .block id b,ρ,s,kq,k,hI,hk=>by
  show evCQ P Γ call round b ρ s (fun e st'=>@Ex.rec (fun _=>Option ρ) (kq .normal st') (fun i=>bif Nat.beq i id then kq .normal st' else kq (.exit i) st') (kq .ret st') e) = _
  rw [evC]
  refine evCQ_eq b ρ s _ _ hI fun e s' hs'=>?_
  cases e with
  | normal=>exact hk _ _ hs'
  | exit i =>
   show (bif Nat.beq i id then kq .normal s' else kq (.exit i) s') = if i = id then k .normal (absS s') else k (.exit i) (absS s')
   rw [beq_dec,hk _ _ hs',hk _ _ hs']
   by_cases e : i = id
   ·simp [e]
   ·simp [e]
  | ret=>exact hk _ _ hs'
 | .loop b,ρ,s,kq,k,hI,hk=>by
  show unrQ (evCQ P Γ call round b) ROUNDS ρ s kq = _
  rw [evC]
  have key : ∀ (n : Nat) (s : TSt),Inv s.t s.len → unrQ (evCQ P Γ call round b) n ρ s kq = unrM (fun ρ st k=>evC P Γ call round b ρ st k) n ρ (absS s) k:=by
   intro n
   induction n with
   | zero=>intro s _;rfl
   | succ n ih =>
    intro s hs
    show evCQ P Γ call round b ρ s (fun e st'=>exK e (unrQ (evCQ P Γ call round b) n ρ st' kq) fun e=>kq e st') = evC P Γ call round b ρ (absS s) _
    refine evCQ_eq b ρ s _ _ hs fun e s' hs'=>?_
    cases e with
    | normal=>exact ih s' hs'
    | exit i=>exact hk _ _ hs'
    | ret=>exact hk _ _ hs'
  exact key _ s hI
 | .exit id,ρ,s,kq,k,hI,hk=>hk _ s hI
 | .ret,ρ,s,kq,k,hI,hk=>hk _ s hI
 | .rangeFunc g ps assign body,ρ,⟨t0,len,h0,nx0⟩,kq,k,hI,hk=>by
  rw [evC_range]
  show rangeQ P call g ps assign body ⟨t0,len,h0,nx0⟩ kq = _
  have hk' : ∀ h nx,kq .normal ⟨t0,len,h,nx⟩ = k .normal ⟨absT t0 len,h,nx⟩:=fun h nx=>hk _ _ hI
  unfold rangeQ
  simp only [mvT_eq hI,listT_nil,hk',absS]
  rfl
 | .scope _,_,_,_,_,_,_=>by rw [evC] <;> first | rfl | (intros;contradiction)
 | .goto _,_,_,_,_,_,_=>by rw [evC] <;> first | rfl | (intros;contradiction)
 | .refuse _,_,_,_,_,_,_=>by rw [evC] <;> first | rfl | (intros;contradiction)
theorem resultsQ_eq {t : TT} {len : Nat} (hI : Inv t len) {h : List (Nat × LObj)} {nx : Nat} : ∀ (rs : List ResultVar) (k : List MV → Option ρ),resultsQ P t h rs k = resultsM P ⟨absT t len,h,nx⟩ rs k
 | [],k=>rfl
 | rv :: rs,k=>by
  show resultQ P t h rv (fun v=>resultsQ P t h rs fun vs=>k (v :: vs)) = _
  have ih:=fun k=>resultsQ_eq hI (h:=h) (nx:=nx) rs k
  simp only [resultsM,ih]
  cases rv with
  | tmp n=>simp only [resultQ,resultM,nth_abs hI]
  | cell n ty =>
   simp only [resultQ,resultM,nth_abs hI,loadQ_eq,dropQ_eq]
   rfl
theorem bodyT_eq : bodyT P Γ call round = bodyM P Γ call round:=by
 funext ρ g args h nx k
 unfold bodyT bodyM
 cases P.funcs[g]? with
 | none=>rfl
 | some fn =>
  simp only [bodyQ]
  cases fn.body with
  | none=>rfl
  | some c =>
   simp only [natK_eq,treeK_eq,lenQ_eq]
   have hle : args.length ≤ max fn.ntmps args.length:=Nat.le_max_right _ _
   have habs : absS ⟨treeT args 0 .leaf,max fn.ntmps args.length,h,nx⟩ = ⟨args ++ List.replicate (fn.ntmps - args.length) .unk,h,nx⟩:=by
    unfold absS
    rw [treeT_abs args hle,show max fn.ntmps args.length - args.length = fn.ntmps - args.length by omega]
   rw [← habs]
   refine evCQ_eq c ρ _ _ _ (treeT_inv args hle) fun e s hs=>?_
   have fin : endQ P fn.results.toList s k = endM P fn (absS s) k:=by
    rw [endM_eq]
    obtain ⟨t,len,h,nx⟩:=s
    exact resultsQ_eq hs _ _
   cases e with
   | normal=>exact fin
   | exit i=>rfl
   | ret=>exact fin
theorem roundT_eq : (fun _ c st k=>treeK st.tm 0 .leaf fun t=>natK st.tm.length fun len=>evCQ P Γ call round c _ ⟨t,len,st.h,st.nx⟩ fun e s=>k e ⟨listT s.t s.len [],s.h,s.nx⟩ : CodeT) = fun ρ c st k=>evC P Γ call round c ρ st k:=by
 funext ρ c st k
 simp only [treeK_eq,natK_eq]
 have habs : absS ⟨treeT st.tm 0 .leaf,st.tm.length,st.h,st.nx⟩ = st:=by
  unfold absS
  rw [treeT_abs_self]
 refine (evCQ_eq c ρ _ _ k (treeT_inv st.tm (Nat.le_refl _)) fun e s hs=>?_).trans (by rw [habs])
 rw [listT_nil]
 rfl
end
end Go.Mi


namespace Go.Mi
open Go.RowKit
open Go.Ev (AV Sh Summ Env Ex find entersB hasBody nilB VRel VRels Kept Glb Goes SumOK markD exOf resRun)
section results
variable {ρ : Type} {P : Program} {B : Nat → Prop} {w0 w : World} {df : List Deferred} {ι : Io} {st : MSt} {a : Act} {r : ρ}
theorem resultM_sound (hR : Mrl B w0 w df ι st a) {rv : ResultVar} {k : MV → Option ρ} (h : resultM P st rv k = some r) : ∃ v u,k v = some r ∧ (resRun a.tmps rv).run P w = .ok u w ∧ MRel ι v u:=by
 cases rv with
 | tmp t=>exact ⟨_,_,h,rfl,getD_rel hR.tm t⟩
 | cell t ty =>
  simp only [resultM] at h
  have hg:=getD_rel hR.tm t
  split at h
  ·rename_i id off hp
   rw [hp] at hg
   obtain ⟨p,hpp,hu⟩:=ptr_inv hg
   split at h
   ·rename_i cs hc
    obtain ⟨frz,hgc⟩:=cellsAt_some hc
    obtain ⟨arr,tt,fz,hh,hsz,hfz,hle,h1,hvs⟩:=hR.cells hgc hpp
    obtain ⟨v,u,hy,hvu,hor⟩:=loadM_sound h (hvs.drop off) (fun u hu=>h1 u (List.mem_of_mem_drop (List.mem_of_mem_take (List.mem_of_mem_drop hu))))
    refine ⟨v,u,hy,?_,hvu⟩
    have hrun:=run_loadM (P:=P) (w:=w) hor (ad:=⟨p.g,p.sh + off,none⟩) fun j u hj=>by
     rw [List.drop_take,List.drop_drop] at hj
     exact part_cells hh _ _ j u hj
    simp only [resRun,hu,asAddr,pure_bind]
    exact hrun
   ·cases h
  ·cases h
theorem resultsM_sound (hR : Mrl B w0 w df ι st a) : ∀ (rs : List ResultVar) (k : List MV → Option ρ),resultsM P st rs k = some r → ∃ vs us,k vs = some r ∧ (rs.mapM (resRun a.tmps)).run P w = .ok us w ∧ MRels ι vs us
 | [],k,h=>⟨[],[],h,by simp,MRels.nil⟩
 | rv :: rs,k,h=>by
  simp only [resultsM] at h
  obtain ⟨v,u,h1,hu,hv⟩:=resultM_sound hR h
  obtain ⟨vs,us,h2,hus,hvs⟩:=resultsM_sound hR rs _ h1
  refine ⟨v :: vs,u :: us,h2,?_,MRels.cons hv hvs⟩
  rw [List.mapM_cons]
  simp only [Sem.run_bind]
  rw [hu]
  simp only [Result.andThen_ok]
  rw [hus]
  rfl
theorem finishM_sound (hR : Mrl B w0 w df ι st a) {fn : Func} {k : MV → Option ρ} (h : resultsM P st fn.results.toList (fun vs=>k (oneM vs)) = some r) : ∃ v u,k v = some r ∧ (results fn a.tmps).run P w = .ok u w ∧ MRel ι v u:=by
 obtain ⟨vs,us,hk,hus,hvs⟩:=resultsM_sound hR _ _ h
 have hres : (results fn a.tmps).run P w = .ok (if h : us.toArray.size = 1 then us.toArray[0] else .tuple us.toArray) w:=by
  show (do let vs ← fn.results.mapM (resRun a.tmps);pure (if h : vs.size = 1 then vs[0] else .tuple vs) : Sem Value).run P w = _
  rw [Array.mapM_eq_mapM_toList]
  simp only [Sem.run_bind,Sem.run_map]
  rw [hus]
  rfl
 refine ⟨_,_,hk,hres,?_⟩
 unfold oneM
 split
 ·rename_i x
  obtain ⟨u,us',rfl,hu,hn⟩:=hvs.inv
  rw [hn.inv_nil]
  simpa using hu
 ·rename_i hx
  have hne : us.length ≠ 1:=by
   rw [hvs.1]
   intro hl
   match vs,hl with
   | [x],_=>exact hx x rfl
  have : ¬ us.toArray.size = 1:=by simpa using hne
  rw [dif_neg this]
  exact .tup _ _ hvs.1 hvs.2
theorem leavesM {B1 : Nat → Prop} {w1 : World} {df1 : List Deferred} {fn : Func} {Z : Ending → World → Prop} (hE : Mk B w0 [] B1 w1 df1) (hR : Mrl B1 w1 w df1 ι st a)
  (hfin : ∀ w',Mem B w0 w' ι st.h st.nx → (∃ B2 w2 df2,Mrl B2 w2 w' df2 ι st { a with defers:=df2 }) → ∃ v,(results fn a.tmps).run P w' = .ok v w' ∧ Z (.returned v) w') (hG : Glb B w0) : Go.LeavesInM Fence.wide 0 P fn a.tmps Z a.defers .returning w:=by
 obtain ⟨Ds,e1,e2,e3⟩:=hE.marks
 have key : ∀ (l : List Nat) (w : World),l.Nodup → (∀ D ∈ l,D ∈ Ds) → (∀ D ∈ l,w.heap[D]? = some (.deferred (some []))) → Mem B w0 w ι st.h st.nx → (∀ id o p,get st.h id = some o → ι id = some p → ¬ B1 p.g) → Go.LeavesInM Fence.wide 0 P fn a.tmps Z (l.map markD) .returning w:=by
  intro l
  induction l with
  | nil =>
   intro w _ _ _ hM _
   exact hfin w hM ⟨B,w0,[],hM.act hR.tm rfl⟩
  | cons D l ih =>
   intro w hn hin hh hM hL
   obtain ⟨hn1,hn2⟩:=List.nodup_cons.1 hn
   obtain ⟨d1,d2,_⟩:=e3 D (hin D (by simp))
   refine ⟨by simp,.inl ⟨D,_,rfl,run_takeDeferred (hh D (by simp)),?_⟩⟩
   refine ih (w.putObj D (.deferred none)) hn2 (fun x hx=>hin x (by simp [hx])) (fun x hx=>?_) (hM.putOther _ d2 fun id o p ho hp e=>hL id o p ho hp (by rw [e];exact d1)) hL
   rw [World.putObj_heap_other (fun e=>hn1 (by rw [← e];exact hx))]
   exact hh x (by simp [hx])
 have hkept : Kept B w0 w:=hE.kept.trans ⟨hR.kept.os,hR.kept.tape,hR.kept.output,hR.kept.size,fun k hk=>hR.kept.block k (hE.up k hk)⟩
 have hM0 : Mem B w0 w ι st.h st.nx:=⟨MRels.nil,rfl,fun id o ho=>let ⟨p,hp,hr,hb⟩:=hR.obj id o ho;⟨p,hp,hr,fun h=>hb (hE.up _ h)⟩,hR.inj,hR.lt,hR.nx,hkept,fun b hb=>hR.ble b (hE.up b hb),hG⟩
 rw [hR.df,e1,List.append_nil]
 exact key Ds w e2 (fun _ h=>h) (fun D hD=>(hR.kept.block D (e3 D hD).1).trans (e3 D hD).2.2) hM0 (fun id o p ho hp=>by
  obtain ⟨p',hp',_,hb⟩:=hR.obj id o ho
  rw [hp] at hp';cases hp';exact hb)
end results
section calls
variable {P : Program} {Γ : Env} {call : CallT} {round : CodeT}
theorem bodyM_sound (hΓ : ∀ g F,find Γ g = some F → SumOK P g F) (hD : DrawM P Γ call) (hC : COK P call) (hRd : RDK P round) : COK P (bodyM P Γ call round):=by
 intro ρ g args h nx k r B w0 w ι vs hk hm hn hv
 unfold bodyM at hk
 split at hk
 ·rename_i fn hfn
  split at hk
  ·rename_i c hb
   refine Goes.of hfn hb (callsIn_wide.1 (callsIn_of_wp_marks (F:=Fence.wide) (n:=0) hfn hb trivial ?_))
   have hrep : ∀ m,MRels ι (List.replicate m MV.unk) (List.replicate m undef):=by
    intro m
    induction m with
    | zero=>exact MRels.nil
    | succ m ih=>exact MRels.cons (.unk _) ih
   have htm : MRels ι (args ++ List.replicate (fn.ntmps - args.length) .unk) (vs.toArray ++ Array.replicate (fn.ntmps - vs.toArray.size) undef).toList:=by
    have e : (vs.toArray ++ Array.replicate (fn.ntmps - vs.toArray.size) undef).toList = vs ++ List.replicate (fn.ntmps - args.length) undef:=by simp [hv.1]
    rw [e]
    exact hv.append (hrep _)
   refine evC_sound (R:=none) hΓ hD hC hRd c (.inl rfl) ρ _ _ r B w0 [] ι _ w _ hk (hm.act (a:={ tmps:=vs.toArray ++ Array.replicate (fn.ntmps - vs.toArray.size) undef,defers:=[] }) htm rfl) hn fun e st' a' w' hk' hX=>?_
   obtain ⟨B1,w1,df1,ι1,hm1,_,he1,hne1,hle1,hM1,hn1⟩:=hX
   have fin : resultsM P st' fn.results.toList (fun vs=>k (oneM vs) st'.h st'.nx) = some r → Go.LeavesInM Fence.wide 0 P fn a'.tmps (fun e w'=>∃ u v ι' h' nx',e = .returned u ∧ k v h' nx' = some r ∧ Ext ι ι' ∧ (∀ id,id < nx → ι' id = ι id) ∧ nx ≤ nx' ∧ MRel ι' v u ∧ Mem B w0 w' ι' h' nx' ∧ (keys h').Nodup) a'.defers .returning w':=fun hf=>by
    refine leavesM hm1 hM1 (fun w'' hmem hR=>?_) hm.glb
    obtain ⟨B2,w2,df2,hR2⟩:=hR
    obtain ⟨v,u,hk2,hrun,hvu⟩:=finishM_sound (a:={ a' with defers:=df2 }) (k:=fun v=>k v st'.h st'.nx) hR2 hf
    exact ⟨u,hrun,u,v,ι1,st'.h,st'.nx,rfl,hk2,he1,hne1,hle1,hvu,hmem,hn1⟩
   cases e with
   | ret=>exact fin (by rw [← endM_eq];exact hk')
   | normal=>exact fin (by rw [← endM_eq];exact hk')
   | exit id=>cases hk'
  ·cases hk
 ·cases hk
theorem codeM_sound (hΓ : ∀ g F,find Γ g = some F → SumOK P g F) (hD : DrawM P Γ call) (hC : COK P call) (hRd : RDK P round) : RDK P (fun ρ c st k=>evC P Γ call round c ρ st k):=by
 intro l c ρ st k r B w0 w df ι a Q hnr hk hR hn hQ
 refine evC_sound (R:=some l) hΓ hD hC hRd c (.inr hnr) ρ st k r B w0 df ι a w Q hk hR hn fun e st' a' w' hk' hX=>?_
 obtain ⟨B1,w1,df1,ι1,_,hs1,he1,hne1,hle1,hM1,hn1⟩:=hX
 obtain ⟨rfl,rfl,rfl⟩:=hs1 hnr
 exact hQ e st' a' w' ι1 hk' he1 hne1 hle1 hM1 hn1
theorem callM_sound (hΓ : ∀ g F,find Γ g = some F → SumOK P g F) (hD : ∀ call,COK P call → DrawM P Γ call) {pin : CallT → CallT} (hp : ∀ call,COK P call → COK P (pin call)) : ∀ n,COK P (callM P Γ pin n).1 ∧ RDK P (callM P Γ pin n).2
 | 0=>⟨fun ρ g args h nx k r B w0 w ι vs hk=>(by cases hk),fun l c ρ st k r B w0 w df ι a Q _ hk=>(by cases hk)⟩
 | n + 1=>by
  obtain ⟨h1,h2⟩:=callM_sound hΓ hD hp n
  refine ⟨nearM_sound (hp _ ?_),?_⟩
  ·rw [bodyT_eq];exact bodyM_sound hΓ (hD _ h1) h1 h2
  ·have e : (callM P Γ pin (n + 1)).2 = fun ρ c st k=>evC P Γ (callM P Γ pin n).1 (callM P Γ pin n).2 c ρ st k:=roundT_eq
   rw [e];exact codeM_sound hΓ (hD _ h1) h1 h2
theorem sumOK_closed (hC : COK P call) {g : Nat} {args : List MV} {v0 : MV} {h0 : List (Nat × LObj)} {n0 : Nat} (hrun : call (MV × List (Nat × LObj) × Nat) g args [] 0 (fun v h n=>some (v,h,n)) = some (v0,h0,n0)) {F : Summ}
  (hF : ∀ (ρ : Type) (avs : List AV) (k : AV → Option ρ) (r : ρ),F ρ avs k = some r → (∀ w S vs,VRels w S Go.Ev.nob avs vs → ∃ ι,MRels ι args vs ∧ ι = fun _=>none) ∧ k v0.av = some r) : SumOK P g F:=by
 intro ρ w S avs vs k r hS hv hk
 obtain ⟨hS,hG⟩:=hS
 obtain ⟨h1,h2⟩:=hF ρ avs k r hk
 obtain ⟨ι,hv',rfl⟩:=h1 w S vs hv
 have hmem : Mem (fun b=>b < w.heap.size) w w (fun _=>none) [] 0:=⟨MRels.nil,rfl,fun id o ho=>(by simp [get_nil] at ho),fun id id' o o' p p' ho=>(by simp [get_nil] at ho),fun id p hp=>(by cases hp),fun id p hp=>(by cases hp),Kept.refl _ _,fun b hb=>hb,hG⟩
 refine goes_mono (hC _ g args [] 0 _ _ (fun b=>b < w.heap.size) w w (fun _=>none) vs hrun hmem (by simp [keys]) hv') fun e w' hp=>?_
 obtain ⟨u,v,ι',h',nx',rfl,hk',he,hne,hle,hvu,hM,hn⟩:=hp
 simp only [Option.some.injEq,Prod.mk.injEq] at hk'
 obtain ⟨rfl,rfl,rfl⟩:=hk'
 exact ⟨u,v.av,fun _=>False,rfl,h2,hM.kept.below,fun b h=>h.elim,fun b h=>h.elim,hvu.av w' _ _⟩
end calls
end Go.Mi

namespace Go.Mi
open Go.RowKit
open Go.Ev (AV Sh Summ Env Ex find entersB hasBody nilB VRel VRels Kept Glb Goes SumOK markD exOf wp_value wp_skip' ancTab rem mem_rem rem_split getD_tf getD_ft tab_spec rem_none)
section op
variable {P : Program} {nid : Nat}
theorem evOp_tm {o : Oper} {tm tm' : List MV} {h : List (Nat × LObj)} (he : ∀ x ∈ o.op.operands.toList,mval tm x = mval tm' x) : evOp P nid o tm h some = evOp P nid o tm' h some:=by
 have opt : ∀ {x : Option Operand},(∀ z,x = some z → mval tm z = mval tm' z) → x.map (mval tm) = x.map (mval tm'):=fun {x} hx=>by
  cases x with
  | none=>rfl
  | some z=>simp only [Option.map_some];rw [hx z rfl]
 have lst : ∀ l : List Operand,(∀ x ∈ l,mval tm x = mval tm' x) → mvals tm l = mvals tm' l:=by
  intro l
  induction l with
  | nil=>intro _;rfl
  | cons x l ih=>intro hl;simp only [mvals];rw [hl x (by simp),ih fun y hy=>hl y (by simp [hy])]
 have prt : ∀ l : List (Nat × Operand),(∀ p ∈ l,mval tm p.2 = mval tm' p.2) → (l.map fun p=>(p.1,mval tm p.2)) = l.map fun p=>(p.1,mval tm' p.2):=fun l hl=>List.map_congr_left fun p hp=>by rw [hl p hp]
 unfold evOp
 cases ho : o.op with
 | move x=>simp only [ho,Op.operands] at he ⊢;rw [he x (by simp)]
 | assign x=>simp only [ho,Op.operands] at he ⊢;rw [he x (by simp)]
 | pick c x z=>simp only [ho,Op.operands] at he ⊢;rw [he c (by simp),he x (by simp),he z (by simp)]
 | alloc t=>rfl
 | box t x=>simp only [ho,Op.operands] at he ⊢;rw [he x (by simp)]
 | build t ps =>
  simp only [ho,Op.operands] at he ⊢
  rw [prt ps.toList fun p hp=>he p.2 (by simp only [List.mem_map];exact ⟨p,hp,rfl⟩)]
 | buildSlice t n ps =>
  simp only [ho,Op.operands] at he ⊢
  rw [prt ps.toList fun p hp=>he p.2 (by simp only [List.mem_map];exact ⟨p,hp,rfl⟩)]
 | insert t m k v=>rfl
 | load t x=>simp only [ho,Op.operands] at he ⊢;rw [he x (by simp)]
 | store t x z=>simp only [ho,Op.operands] at he ⊢;rw [he x (by simp),he z (by simp)]
 | ready g=>rfl
 | waits g=>rfl
 | nilCheck x=>simp only [ho,Op.operands] at he ⊢;rw [he x (by simp)]
 | binOp op t x z yt=>simp only [ho,Op.operands] at he ⊢;rw [he x (by simp),he z (by simp)]
 | unOp op t x=>simp only [ho,Op.operands] at he ⊢;rw [he x (by simp)]
 | convert s d x=>simp only [ho,Op.operands] at he ⊢;rw [he x (by simp)]
 | sliceToArrayPointer d x=>rfl
 | makeInterface t x=>rfl
 | makeFunc f first cap =>
  simp only [ho,Op.operands] at he ⊢
  cases f with
  | func f=>simp only;rw [lst cap.toList fun x hx=>he x (by simp at hx ⊢;exact .inr hx),lst first.toList fun x hx=>he x (by simp at hx ⊢;exact .inl hx)]
  | _=>rfl
 | makeMap t r=>rfl
 | makeChan t x=>rfl
 | makeSlice t l c=>simp only [ho,Op.operands] at he ⊢;rw [he l (by simp),he c (by simp)]
 | slice t x lo hi mx =>
  simp only [ho,Op.operands] at he ⊢
  rw [he x (by simp),opt (x:=lo) fun z hz=>he z (by simp [hz]),opt (x:=hi) fun z hz=>he z (by simp [hz]),opt (x:=mx) fun z hz=>he z (by simp [hz])]
 | fieldAddr t x f=>simp only [ho,Op.operands] at he ⊢;rw [he x (by simp)]
 | field t x f=>simp only [ho,Op.operands] at he ⊢;rw [he x (by simp)]
 | indexAddr t x i=>simp only [ho,Op.operands] at he ⊢;rw [he x (by simp),he i (by simp)]
 | index t x i=>simp only [ho,Op.operands] at he ⊢;rw [he x (by simp),he i (by simp)]
 | lookup t x k ok=>simp only [ho,Op.operands] at he ⊢;rw [he x (by simp),he k (by simp)]
 | mapUpdate t m k x=>simp only [ho,Op.operands] at he ⊢;rw [he m (by simp),he k (by simp),he x (by simp)]
 | mapEntry t m k=>simp only [ho,Op.operands] at he ⊢;rw [he m (by simp),he k (by simp)]
 | entryStore t m s x=>simp only [ho,Op.operands] at he ⊢;rw [he m (by simp),he s (by simp),he x (by simp)]
 | range t x=>simp only [ho,Op.operands] at he ⊢;rw [he x (by simp)]
 | next x s=>cases s <;> simp only [ho,Op.operands] at he ⊢;rw [he x (by simp)]
 | entry x=>rfl
 | typeAssert x t u ok=>rfl
 | extract x i=>simp only [ho,Op.operands] at he ⊢;rw [he x (by simp)]
 | call c =>
  obtain ⟨callee,args,ts⟩:=c
  cases callee with
  | builtin b =>
   simp only [ho,Op.operands,Call.operands] at he ⊢
   rw [lst args.toList fun x hx=>he x (by simpa using hx)]
  | value f=>rfl
  | invoke f m=>rfl
 | go c=>rfl
 | defer c=>rfl
 | panic x=>rfl
 | send c x=>rfl
 | recv t c ok=>rfl
 | select cs b=>rfl
theorem cellsAt_get {h h' : List (Nat × LObj)} {id : Nat} (he : get h' id = get h id) : cellsAt h' id = cellsAt h id:=by unfold cellsAt;rw [he]
theorem loadM_eff {t : TypeId} {cs : List MV} {f : MV → MEff} {e : MEff} (h : loadM P t cs (fun v=>some (f v)) = some e) : ∃ v,e = f v:=by
 unfold loadM at h
 repeat' split at h
 all_goals first | (cases h;exact ⟨_,rfl⟩) | cases h
theorem elemsM_get {h h' : List (Nat × LObj)} {wd : Nat} {z : MV} {q : List MV × List Nat} (hq : elemsM h wd z = some q) (he : ∀ id ∈ q.2,get h' id = get h id) : elemsM h' wd z = some q:=by
 unfold elemsM at hq ⊢
 split at hq
 ·exact hq
 ·rename_i id off len cap wd'
  split at hq
  ·rename_i hwd
   rw [if_pos hwd]
   split at hq
   ·rename_i cs hc
    split at hq
    ·rename_i hle
     cases hq
     rw [cellsAt_get (he id (by simp)),hc]
     simp only [hle,if_true]
    ·cases hq
   ·cases hq
  ·cases hq
 ·cases hq
theorem srcM_get {h h' : List (Nat × LObj)} {e t' : TypeId} {z : MV} {q : List MV × List Nat} (hq : srcM P h e t' z = some q) (he : ∀ id ∈ q.2,get h' id = get h id) : srcM P h' e t' z = some q:=by
 unfold srcM at hq ⊢
 split at hq
 ·exact hq
 ·rename_i e' ht
  split at hq
  ·rename_i hee;rw [if_pos hee];exact elemsM_get hq he
  ·cases hq
 ·cases hq
theorem appTo_reads {nid : Nat} {e : TypeId} {q : List MV × List Nat} {x : MV} {h h' : List (Nat × LObj)} {ef : MEff} (hev : appTo P nid e q x h some = some ef) (he : ∀ id ∈ ef.reads,get h' id = get h id) : appTo P nid e q x h' some = some ef ∧ ∀ id ∈ q.2,id ∈ ef.reads:=by
 unfold appTo at hev ⊢
 split at hev
 ·split at hev
  ·rename_i hc;cases hev;exact ⟨by simp only [hc,if_true],fun id h=>h⟩
  ·rename_i hc
   split at hev
   ·rename_i hr;cases hev;exact ⟨by simp only [hc,hr,if_true];rfl,fun id h=>h⟩
   ·cases hev
 ·split at hev
  ·cases hev
  ·rename_i hw
   simp only [hw]
   split at hev
   ·rename_i hc;cases hev;exact ⟨by simp only [hc,if_true];rfl,fun id h=>h⟩
   ·rename_i hc
    simp only [hc]
    split at hev
    ·rename_i cs hg
     split at hev
     ·rename_i h1
      split at hev
      ·rename_i h2
       cases hev
       refine ⟨?_,fun id h=>by simp [h]⟩
       rw [he _ (by simp),hg]
       simp only [h1,h2,if_true]
       rfl
      ·cases hev
     ·rename_i h1
      split at hev
      ·rename_i h2
       cases hev
       refine ⟨?_,fun id h=>by simp [h]⟩
       rw [he _ (by simp),hg]
       simp only [h1,h2,if_true]
       rfl
      ·cases hev
    ·cases hev
 ·cases hev
theorem builtin_reads {b : Builtin} {ts : List TypeId} {args : List MV} {h h' : List (Nat × LObj)} {e : MEff} (hev : builtinM P nid b ts args h some = some e) (he : ∀ id ∈ e.reads,get h' id = get h id) : builtinM P nid b ts args h' some = some e:=by
 unfold builtinM at hev ⊢
 split at hev
 ·unfold appendM at hev ⊢
  split at hev
  ·split at hev
   ·rename_i ht
    split at hev
    ·cases hev
    ·rename_i hel
     rw [if_neg hel]
     split at hev
     ·exact hev
     ·rename_i hno
      split at hev
      ·cases hev
      ·rename_i q hq
       obtain ⟨h1,h2⟩:=appTo_reads hev he
       have hq':=srcM_get hq fun id hid=>he id (h2 id hid)
       split
       ·rename_i hnone;rw [hq'] at hnone;cases hnone
       ·rename_i q2 hsome;rw [hq'] at hsome;cases hsome;exact h1
   ·cases hev
  ·cases hev
 ·exact hev
 ·exact hev
 ·split at hev
  ·split at hev
   ·rename_i ht
    split at hev
    ·cases hev
    ·rename_i q hq
     split at hev
     ·split at hev
      ·cases hev
      ·rename_i hw
       split at hev
       ·rename_i cs hg
        split at hev
        ·rename_i hfit
         cases hev
         rw [srcM_get hq fun id hid=>he id (by simp [hid])]
         dsimp only
         rw [if_neg hw,he _ (by simp),hg]
         simp only [hfit,if_true]
        ·cases hev
       ·cases hev
     ·cases hev
   ·cases hev
  ·cases hev
 ·split at hev
  ·split at hev
   ·exact hev
   ·exact hev
   ·rename_i hne ht
    split at hev
    ·cases hev
    ·rename_i hc
     split at hev
     ·rename_i cs z hg hz
      split at hev
      ·rename_i hfit
       cases hev
       rw [if_neg hc,he _ (by simp),hg,hz]
       simp only [hfit,if_true]
      ·cases hev
     ·cases hev
   ·cases hev
  ·cases hev
 ·exact hev
 ·exact hev
 ·cases hev
theorem evOp_reads {o : Oper} {tm : List MV} {h h' : List (Nat × LObj)} {e : MEff} (hev : evOp P nid o tm h some = some e) (he : ∀ id ∈ e.reads,get h' id = get h id) : evOp P nid o tm h' some = some e:=by
 unfold evOp at hev ⊢
 cases ho : o.op with
 | load t x =>
  simp only [ho] at hev ⊢
  split at hev
  ·rename_i id off hx
   split at hev
   ·rename_i cs hc
    obtain ⟨v,rfl⟩:=loadM_eff hev
    rw [cellsAt_get (he id (by simp)),hc]
    exact hev
   ·cases hev
  ·cases hev
 | store t x z =>
  simp only [ho] at hev ⊢
  split at hev
  ·rename_i hc
   rw [if_pos hc]
   split at hev
   ·rename_i id off hx
    split at hev
    ·rename_i cs hg
     split at hev
     ·rename_i hle
      cases hev
      rw [he id (by simp),hg]
      simp only [hle,if_true]
     ·cases hev
    ·cases hev
   ·cases hev
  ·cases hev
 | convert src dst x =>
  simp only [ho] at hev ⊢
  split at hev
  ·exact hev
  ·exact hev
  ·exact hev
  ·exact hev
  ·rename_i e' id off len cap wd hs hd hx
   split at hev
   ·rename_i hc
    rw [if_pos hc]
    split at hev
    ·rename_i q hq
     split at hev
     ·rename_i s hstr
      cases hev
      rw [elemsM_get hq he]
      simp only [hstr]
     ·cases hev
    ·cases hev
   ·cases hev
  ·split at hev
   ·rename_i hc
    rw [if_pos hc]
    split at hev
    ·rename_i frz cs hg
     cases hev
     rw [he _ (by simp),hg]
    ·cases hev
   ·cases hev
  ·cases hev
 | slice t x lo hi mx =>
  simp only [ho] at hev ⊢
  split at hev
  ·exact hev
  ·exact hev
  ·exact hev
  ·rename_i k e' id off ht hx
   split at hev
   ·cases hev
   ·rename_i hw
    rw [if_neg hw]
    split at hev
    ·rename_i l n cs hl hh hc
     split at hev
     ·rename_i hcc
      cases hev
      rw [cellsAt_get (he id (by simp)),hl,hh,hc]
      simp only [hcc,if_true]
     ·cases hev
    ·cases hev
  ·cases hev
 | next x s =>
  cases s with
  | false=>simp only [ho] at hev;cases hev
  | true =>
   simp only [ho] at hev ⊢
   split at hev
   ·rename_i id hx
    split at hev
    ·rename_i s p hg
     have hin : id ∈ e.reads:=by
      cases hb : Nat.blt p s.length <;> rw [hb] at hev <;> cases hev <;> simp
     rw [he id hin,hg]
     exact hev
    ·cases hev
   ·cases hev
 | lookup t x k ok =>
  simp only [ho] at hev ⊢
  split at hev
  ·split at hev
   ·cases hev
   ·rename_i hk
    rw [if_neg hk]
    split at hev
    ·rename_i id hx
     split at hev
     ·rename_i es c hg
      have hin : id ∈ e.reads:=by
       split at hev <;> first | (cases hev;simp;done) | cases hev
      rw [he id hin,hg]
      exact hev
     ·cases hev
    ·cases hev
  ·cases hev
 | mapUpdate t m k x =>
  simp only [ho] at hev ⊢
  split at hev
  ·split at hev
   ·cases hev
   ·rename_i hk
    rw [if_neg hk]
    split at hev
    ·rename_i id hx
     split at hev
     ·rename_i es c hg
      have hin : id ∈ e.reads:=by
       split at hev <;> first | (cases hev;simp;done) | cases hev
      rw [he id hin,hg]
      exact hev
     ·cases hev
    ·cases hev
  ·cases hev
 | mapEntry t m k =>
  simp only [ho] at hev ⊢
  split at hev
  ·split at hev
   ·cases hev
   ·rename_i hk
    rw [if_neg hk]
    split at hev
    ·rename_i id hx
     split at hev
     ·rename_i es c hg
      have hin : id ∈ e.reads:=by
       split at hev <;> first | (cases hev;simp;done) | cases hev
      rw [he id hin,hg]
      exact hev
     ·cases hev
    ·cases hev
  ·cases hev
 | entryStore t m s x =>
  simp only [ho] at hev ⊢
  split at hev
  ·rename_i id k b hx hs
   split at hev
   ·rename_i es c hg
    have hin : id ∈ e.reads:=by
     split at hev <;> first | (cases hev;simp;done) | cases hev
    rw [he id hin,hg]
    exact hev
   ·cases hev
  ·cases hev
 | call c =>
  obtain ⟨callee,args,ts⟩:=c
  cases callee with
  | builtin b=>simp only [ho] at hev ⊢;exact builtin_reads hev he
  | value f=>simp only [ho] at hev;cases hev
  | invoke f m=>simp only [ho] at hev;cases hev
 | makeFunc f first cap=>cases f <;> simp only [ho] at hev ⊢ <;> exact hev
 | _=>simp only [ho] at hev ⊢;exact hev
end op
section draw
variable {P : Program} {Γ : Env} {call : CallT} {ops : Array Oper} {base : Nat}
theorem nth_put {tm : List MV} {d : Option Tmp} {v : MV} {t : Nat} (h : d ≠ some t) : nth (putD tm d v) t = nth tm t:=by
 cases d with
 | none=>rfl
 | some x =>
  have hne : x ≠ t:=fun e=>h (by rw [e])
  rw [nth_eq,nth_eq]
  show (tm.set x v).getD t .unk = _
  simp [List.getD,List.getElem?_set_ne hne]
theorem effM_tm {nid : Nat} {o : Oper} {tm tm' : List MV} {h : List (Nat × LObj)} {nx : Nat} (ht : ∀ t ∈ o.looksAt ops,nth tm' t = nth tm t) : effM P Γ call ops.toList nid o tm' h nx = effM P Γ call ops.toList nid o tm h nx:=by
 have hop : ∀ x ∈ o.op.operands.toList,mval tm' x = mval tm x:=fun x hx=>by
  cases x with
  | tmp t =>
   refine ht t ?_
   simp only [Oper.looksAt,List.mem_append,List.mem_filterMap]
   exact .inl ⟨_,hx,rfl⟩
  | _=>rfl
 have hrun : runE P Γ call nid o tm' h nx = runE P Γ call nid o tm h nx:=by
  unfold runE
  split
  ·rename_i f args ts ho
   simp only [ho,Op.operands,Call.operands] at hop
   have lst : ∀ l : List Operand,(∀ x ∈ l,mval tm' x = mval tm x) → mvals tm' l = mvals tm l:=by
    intro l
    induction l with
    | nil=>intro _;rfl
    | cons x l ih=>intro hl;simp only [mvals];rw [hl x (by simp),ih fun y hy=>hl y (by simp [hy])]
   rw [hop f (by simp),lst args.toList fun x hx=>hop x (by simp at hx ⊢;exact .inr hx)]
  ·rw [evOp_tm hop]
 have hg : ∀ g want,o.guard = some (g,want) → guardAt ops.toList tm' g = guardAt ops.toList tm g:=fun g want hgd=>by
  unfold guardAt
  simp only [Array.getElem?_toList]
  cases hog : ops[g]? with
  | none=>rfl
  | some og =>
   simp only
   cases hdg : og.dst with
   | none=>rfl
   | some d =>
    simp only
    refine ht d ?_
    simp [Oper.looksAt,hgd,hog,hdg]
 unfold effM
 split
 ·exact hrun
 ·rename_i j want hgd
  rw [hg j want hgd,hrun]
theorem runC_reads {g : Nat} {args : List MV} {h h' : List (Nat × LObj)} {nx : Nat} {e : MEff × Nat × Bool} (hev : runC P Γ call g args h nx = some e) (he : ∀ id ∈ e.1.reads,get h' id = get h id) : runC P Γ call g args h' nx = some e:=by
 unfold runC at hev ⊢
 split at hev
 ·rename_i hen
  rw [if_pos hen]
  split at hev
  ·exact hev
  ·split at hev
   ·rename_i hr hreach
    obtain ⟨_,_,_,h4⟩:=reachS_spec 3000 _ _ _ hreach (by simp [keys]) (fun i o h=>by simp [get_nil] at h)
    split at hev
    ·rename_i q hq
     cases hev
     rw [h4 h' he]
     simp only [hq]
    ·cases hev
   ·cases hev
 ·cases hev
theorem runE_reads {nid : Nat} {o : Oper} {tm : List MV} {h h' : List (Nat × LObj)} {nx : Nat} {e : MEff × Nat × Bool} (hev : runE P Γ call nid o tm h nx = some e) (he : ∀ id ∈ e.1.reads,get h' id = get h id) : runE P Γ call nid o tm h' nx = some e:=by
 unfold runE at hev ⊢
 split at hev
 ·split at hev
  ·exact runC_reads hev he
  ·exact runC_reads hev he
  ·cases hev
 ·split at hev
  ·rename_i e' hop
   cases hev
   rw [evOp_reads hop he]
  ·cases hev
theorem effM_reads {nid : Nat} {o : Oper} {tm : List MV} {h h' : List (Nat × LObj)} {nx : Nat} {e : MEff × Nat × Bool} (hev : effM P Γ call ops.toList nid o tm h nx = some e) (he : ∀ id ∈ e.1.reads,get h' id = get h id) : effM P Γ call ops.toList nid o tm h' nx = some e:=by
 unfold effM at hev ⊢
 split at hev
 ·exact runE_reads hev he
 ·split at hev
  ·rename_i b hb
   cases hbw : (b == _) with
   | true=>rw [hbw] at hev;exact runE_reads hev he
   | false=>rw [hbw] at hev;exact hev
  ·exact hev
  ·cases hev
theorem runC_flat (hΓ : ∀ g F,find Γ g = some F → Go.Ev.SNat F) {g : Nat} {args : List MV} {h : List (Nat × LObj)} {nx n2 : Nat} {e : MEff} (hev : runC P Γ call g args h nx = some (e,n2,false)) : n2 = nx ∧ ∀ m,runC P Γ call g args h m = some (e,m,false):=by
 unfold runC at hev ⊢
 split at hev
 ·rename_i hen
  split at hev
  ·rename_i F hF
   have hnat:=hΓ g F hF
   rw [hnat] at hev
   cases hs : F AV (MV.avs args) some with
   | none=>rw [hs] at hev;cases hev
   | some v =>
    rw [hs] at hev
    simp only [Option.bind_some] at hev
    split at hev
    ·rename_i m hm
     simp only [Option.some.injEq,Prod.mk.injEq,and_true] at hev
     obtain ⟨rfl,rfl⟩:=hev
     refine ⟨rfl,fun n=>?_⟩
     rw [if_pos hen,hnat,hs]
     simp only [Option.bind_some,hm]
    ·cases hev
  ·split at hev
   ·split at hev
    ·simp at hev
    ·cases hev
   ·cases hev
 ·cases hev
theorem effM_flat (hΓ : ∀ g F,find Γ g = some F → Go.Ev.SNat F) {nid : Nat} {o : Oper} {tm : List MV} {h : List (Nat × LObj)} {nx n2 : Nat} {e : MEff} (hev : effM P Γ call ops.toList nid o tm h nx = some (e,n2,false)) : n2 = nx ∧ ∀ m,effM P Γ call ops.toList nid o tm h m = some (e,m,false):=by
 have run : ∀ {n2 : Nat} {e : MEff},runE P Γ call nid o tm h nx = some (e,n2,false) → n2 = nx ∧ ∀ m,runE P Γ call nid o tm h m = some (e,m,false):=fun {n2 e} hr=>by
  unfold runE at hr ⊢
  split at hr
  ·split at hr
   ·exact runC_flat hΓ hr
   ·exact runC_flat hΓ hr
   ·cases hr
  ·split at hr
   ·rename_i e' hop
    simp only [Option.some.injEq,Prod.mk.injEq,and_true] at hr
    obtain ⟨rfl,rfl⟩:=hr
    exact ⟨rfl,fun m=>rfl⟩
   ·cases hr
 unfold effM at hev ⊢
 split at hev
 ·exact run hev
 ·split at hev
  ·rename_i b hb
   cases hbw : (b == _) with
   | true=>rw [hbw] at hev;exact run hev
   | false =>
    rw [hbw] at hev
    simp only [cond_false,Option.some.injEq,Prod.mk.injEq,and_true] at hev
    obtain ⟨rfl,rfl⟩:=hev
    exact ⟨rfl,fun m=>rfl⟩
  ·simp only [Option.some.injEq,Prod.mk.injEq,and_true] at hev
   obtain ⟨rfl,rfl⟩:=hev
   exact ⟨rfl,fun m=>rfl⟩
  ·cases hev
noncomputable def stepG (P : Program) (Γ : Env) (call : CallT) (ops : Array Oper) (base i : Nat) (st : MSt) : Option (MSt × Foot) :=
 match ops[i]? with
 | none=>some (st,⟨[],[],false⟩)
 | some o=>(effM P Γ call ops.toList (base + i) o st.tm st.h st.nx).map fun q=>(applyM o.dst q.1 q.2.1 st,⟨q.1.reads,q.1.sets.map (·.1),q.2.2⟩)
structure Eqv (s t : MSt) : Prop where
 tm : s.tm = t.tm
 h : ∀ i,get s.h i = get t.h i
 nx : s.nx = t.nx
theorem Eqv.refl (s : MSt) : Eqv s s:=⟨rfl,fun _=>rfl,rfl⟩
theorem Eqv.symm {s t : MSt} (h : Eqv s t) : Eqv t s:=⟨h.tm.symm,fun i=>(h.h i).symm,h.nx.symm⟩
theorem Eqv.trans {s t u : MSt} (h : Eqv s t) (h' : Eqv t u) : Eqv s u:=⟨h.tm.trans h'.tm,fun i=>(h.h i).trans (h'.h i),h.nx.trans h'.nx⟩
theorem sets_get : ∀ (l : List (Nat × Option LObj)) (h1 h2 : List (Nat × LObj)),(∀ i,get h1 i = get h2 i) → ∀ i,get (l.foldl set1 h1) i = get (l.foldl set1 h2) i
 | [],_,_,h=>h
 | p :: l,h1,h2,h=>sets_get l _ _ fun i=>by rw [get_set1,get_set1,h i]
theorem sets_other : ∀ (l : List (Nat × Option LObj)) (h : List (Nat × LObj)) (i : Nat),i ∉ l.map (·.1) → get (l.foldl set1 h) i = get h i
 | [],_,_,_=>rfl
 | p :: l,h,i,hi=>by
  simp only [List.map_cons,List.mem_cons,not_or] at hi
  rw [List.foldl_cons,sets_other l _ i hi.2,get_set1,if_neg hi.1]
theorem sets_comm (l l' : List (Nat × Option LObj)) (hd : ∀ i ∈ l.map (·.1),i ∉ l'.map (·.1)) (h : List (Nat × LObj)) (i : Nat) : get (l'.foldl set1 (l.foldl set1 h)) i = get (l.foldl set1 (l'.foldl set1 h)) i:=by
 by_cases h1 : i ∈ l.map (·.1)
 ·rw [sets_other l' _ i (hd i h1)]
  have key : ∀ (l : List (Nat × Option LObj)) (h1 h2 : List (Nat × LObj)),i ∈ l.map (·.1) → get (l.foldl set1 h1) i = get (l.foldl set1 h2) i:=by
   intro l
   induction l with
   | nil=>intro _ _ hi;simp at hi
   | cons p l ih =>
    intro g1 g2 hi
    simp only [List.foldl_cons]
    by_cases h2 : i ∈ l.map (·.1)
    ·exact ih _ _ h2
    ·have e : i = p.1:=by simp only [List.map_cons,List.mem_cons] at hi;exact hi.resolve_right h2
     rw [sets_other l _ i h2,sets_other l _ i h2,get_set1,get_set1,if_pos e,if_pos e]
  exact key l _ _ h1
 ·rw [sets_other l _ i h1]
  by_cases h2 : i ∈ l'.map (·.1)
  ·have key : ∀ (l : List (Nat × Option LObj)) (h1 h2 : List (Nat × LObj)),i ∈ l.map (·.1) → get (l.foldl set1 h1) i = get (l.foldl set1 h2) i:=by
    intro l
    induction l with
    | nil=>intro _ _ hi;simp at hi
    | cons p l ih =>
     intro g1 g2 hi
     simp only [List.foldl_cons]
     by_cases h2 : i ∈ l.map (·.1)
     ·exact ih _ _ h2
     ·have e : i = p.1:=by simp only [List.map_cons,List.mem_cons] at hi;exact hi.resolve_right h2
      rw [sets_other l _ i h2,sets_other l _ i h2,get_set1,get_set1,if_pos e,if_pos e]
   exact key l' _ _ h2
  ·rw [sets_other l' _ i h2,sets_other l' _ i h2,sets_other l _ i h1]
theorem stepG_eqv {i : Nat} {s t s1 : MSt} {f : Foot} (h : stepG P Γ call ops base i s = some (s1,f)) (he : Eqv s t) : ∃ t1,stepG P Γ call ops base i t = some (t1,f) ∧ Eqv s1 t1:=by
 unfold stepG at h ⊢
 cases ho : ops[i]? with
 | none=>simp only [ho] at h ⊢;cases h;exact ⟨t,rfl,he⟩
 | some o =>
  simp only [ho] at h ⊢
  cases hev : effM P Γ call ops.toList (base + i) o s.tm s.h s.nx with
  | none=>rw [hev] at h;cases h
  | some e =>
   rw [hev] at h
   cases h
   rw [← he.tm,← he.nx,effM_reads hev fun id _=>(he.h id).symm]
   exact ⟨_,rfl,by show putD s.tm _ _ = putD t.tm _ _;rw [he.tm],fun i=>sets_get _ _ _ he.h i,rfl⟩
structure Indep (ops : Array Oper) (φ : Nat → Foot) (i j : Nat) (x y : Oper) : Prop where
 xy : ∀ d,x.dst = some d → d ∉ y.looksAt ops
 yx : ∀ d,y.dst = some d → d ∉ x.looksAt ops
 dd : ∀ d,x.dst = some d → y.dst ≠ some d
 f1 : ∀ id ∈ (φ i).sets,id ∉ (φ j).reads ∧ id ∉ (φ j).sets
 f2 : ∀ id ∈ (φ j).sets,id ∉ (φ i).reads
 cc : (φ i).call = false ∨ (φ j).call = false
theorem putD_comm {tm : List MV} {d d' : Option Tmp} {v v' : MV} (h : ∀ x,d = some x → d' ≠ some x) : putD (putD tm d v) d' v' = putD (putD tm d' v') d v:=by
 cases d with
 | none=>cases d' <;> rfl
 | some x =>
  cases d' with
  | none=>rfl
  | some x' =>
   have hne : x ≠ x':=fun e=>h x rfl (by rw [e])
   exact List.set_comm _ _ hne
theorem swapG (hΓ : ∀ g F,find Γ g = some F → Go.Ev.SNat F) {φ : Nat → Foot} {i j : Nat} {x y : Oper} (hx : ops[i]? = some x) (hy : ops[j]? = some y) (hI : Indep ops φ i j x y) {st s1 s2 : MSt} (h1 : stepG P Γ call ops base i st = some (s1,φ i)) (h2 : stepG P Γ call ops base j s1 = some (s2,φ j)) :
  ∃ t1 t2,stepG P Γ call ops base j st = some (t1,φ j) ∧ stepG P Γ call ops base i t1 = some (t2,φ i) ∧ Eqv s2 t2:=by
 unfold stepG at h1 h2 ⊢
 simp only [hx,hy] at h1 h2 ⊢
 cases he : effM P Γ call ops.toList (base + i) x st.tm st.h st.nx with
 | none=>rw [he] at h1;cases h1
 | some q =>
  obtain ⟨e,n1,c1⟩:=q
  rw [he] at h1
  simp only [Option.map_some,Option.some.injEq,Prod.mk.injEq] at h1
  obtain ⟨rfl,hfi⟩:=h1
  cases hf : effM P Γ call ops.toList (base + j) y (applyM x.dst e n1 st).tm (applyM x.dst e n1 st).h (applyM x.dst e n1 st).nx with
  | none=>rw [hf] at h2;cases h2
  | some q =>
   obtain ⟨f,n2,c2⟩:=q
   rw [hf] at h2
   simp only [Option.map_some,Option.some.injEq,Prod.mk.injEq] at h2
   obtain ⟨rfl,hfj⟩:=h2
   have hr1 : (φ i).reads = e.reads:=by rw [← hfi]
   have hs1 : (φ i).sets = e.sets.map (·.1):=by rw [← hfi]
   have hc1 : (φ i).call = c1:=by rw [← hfi]
   have hr2 : (φ j).reads = f.reads:=by rw [← hfj]
   have hs2 : (φ j).sets = f.sets.map (·.1):=by rw [← hfj]
   have hc2 : (φ j).call = c2:=by rw [← hfj]
   have hcc:=hI.cc
   rw [hc1,hc2] at hcc
   have hf1 : effM P Γ call ops.toList (base + j) y st.tm st.h n1 = some (f,n2,c2):=by
    rw [← effM_tm (tm':=(applyM x.dst e n1 st).tm) (tm:=st.tm) fun t ht=>nth_put fun hd=>hI.xy t hd ht]
    exact effM_reads hf fun id hid=>(sets_other _ _ _ fun hm=>(hI.f1 id (by rw [hs1];exact hm)).1 (by rw [hr2];exact hid)).symm
   have he1 : ∀ m,effM P Γ call ops.toList (base + i) x (applyM y.dst f m st).tm (applyM y.dst f m st).h st.nx = some (e,n1,c1):=fun m=>by
    rw [effM_tm (tm':=(applyM y.dst f m st).tm) (tm:=st.tm) fun t ht=>nth_put fun hd=>hI.yx t hd ht]
    exact effM_reads he fun id hid=>sets_other _ _ _ fun hm=>hI.f2 id (by rw [hs2];exact hm) (by rw [hr1];exact hid)
   have fin : ∀ m m2,m2 = n2 → Eqv (applyM y.dst f n2 (applyM x.dst e n1 st)) (applyM x.dst e m2 (applyM y.dst f m st)):=fun m m2 hm=>by
    refine ⟨putD_comm hI.dd,fun i'=>?_,hm.symm⟩
    exact sets_comm e.sets f.sets (fun id hid=>by rw [← hs2];exact (hI.f1 id (by rw [hs1];exact hid)).2) st.h i'
   rcases hcc with rfl | rfl
   ·obtain ⟨rfl,hen⟩:=effM_flat hΓ he
    have hem:=he1 n2
    obtain ⟨_,hen2⟩:=effM_flat hΓ hem
    exact ⟨applyM y.dst f n2 st,applyM x.dst e n2 (applyM y.dst f n2 st),by rw [hf1];simp [hfj],by
     have : (applyM y.dst f n2 st).nx = n2:=rfl
     rw [this,hen2 n2];simp [hfi],fin n2 n2 rfl⟩
   ·obtain ⟨rfl,hfn⟩:=effM_flat hΓ hf1
    exact ⟨applyM y.dst f st.nx st,applyM x.dst e n2 (applyM y.dst f st.nx st),by rw [hfn st.nx];simp [hfj],by
     have : (applyM y.dst f st.nx st).nx = st.nx:=rfl
     rw [this,he1 st.nx];simp [hfi],fin st.nx n2 rfl⟩
noncomputable def RunG (P : Program) (Γ : Env) (call : CallT) (ops : Array Oper) (base : Nat) (φ : Nat → Foot) : List Nat → MSt → MSt → Prop
 | [],s,t=>Eqv s t
 | i :: l,s,t=>∃ s1,stepG P Γ call ops base i s = some (s1,φ i) ∧ RunG P Γ call ops base φ l s1 t
theorem RunG.eqv {φ : Nat → Foot} : ∀ (l : List Nat) {s s' t : MSt},Eqv s s' → RunG P Γ call ops base φ l s t → RunG P Γ call ops base φ l s' t
 | [],_,_,_,he,h=>he.symm.trans h
 | i :: l,s,s',t,he,⟨s1,h1,h2⟩=>by
  obtain ⟨s1',h3,h4⟩:=stepG_eqv h1 he
  exact ⟨s1',h3,RunG.eqv l h4 h2⟩
theorem toFrontG (hΓ : ∀ g F,find Γ g = some F → Go.Ev.SNat F) {φ : Nat → Foot} {i : Nat} {x : Oper} (hx : ops[i]? = some x) : ∀ (l1 l2 : List Nat) (s t : MSt),(∀ j ∈ l1,∃ y,ops[j]? = some y ∧ Indep ops φ j i y x) → RunG P Γ call ops base φ (l1 ++ i :: l2) s t →
  ∃ s1,stepG P Γ call ops base i s = some (s1,φ i) ∧ RunG P Γ call ops base φ (l1 ++ l2) s1 t
 | [],l2,s,t,_,h=>h
 | j :: l1,l2,s,t,hi,⟨s1,h1,h2⟩=>by
  obtain ⟨y,hy,hind⟩:=hi j (by simp)
  obtain ⟨s2,h3,h4⟩:=toFrontG hΓ hx l1 l2 s1 t (fun k hk=>hi k (by simp [hk])) h2
  obtain ⟨t1,t2,h5,h6,h7⟩:=swapG hΓ hy hx hind h1 h3
  exact ⟨t1,h5,t2,h6,RunG.eqv _ h7 h4⟩
end draw
end Go.Mi
