/-
 Everybody is reached once: the card.
-/
import Derived.Test.YtijdnecnjenleaaGreatDoorMiP
import Derived.Test.YtijdnecnjenleaaGreatDoorKnD
import Derived.Test.YtijdnecnjenleaaGreatDoorMiE
import Derived.Test.YtijdnecnjenleaaGreatDoorRows
import Derived.WalkKit
import Derived.ProofKit
import Derived.OpenShut
import Derived.HandedShaped
import Derived.Shelf.Vars
import Derived.LaidMore
import Derived.Lay
import Derived.SevenTiedAt
import Derived.Lib.LaidU8
import Derived.Shelf.Unicode.PredsPay
import Derived.Test.YtijdnecnjenleaaGreatDoorTie
import Derived.Test.YtijdnecnjenleaaGreatDoorCards
import Derived.Stop.Joined
import Derived.JoinedOf

namespace Go.Mi
open Go.RowKit
open Go.Ev (AV Sh Summ Env Ex find entersB hasBody nilB VRel VRels Kept Glb Goes SumOK markD exOf wp_value wp_skip' ancTab rem mem_rem rem_split getD_tf getD_ft tab_spec rem_none)
section draw
variable {R : Option Nat} {P : Program} {Γ : Env} {call : CallT} {ops : Array Oper} {base : Nat} {B : Nat → Prop} {w0 w : World} {df : List Deferred} {ι : Io} {st : MSt} {a : Act}
theorem call_get {h hr h' h0 : List (Nat × LObj)} (hn : (keys h').Nodup) (hh : h0 = ((hr.map fun p=>(p.1,(none : Option LObj))) ++ h'.map fun p=>(p.1,some p.2)).foldl set1 h) (i : Nat) (o : LObj) (ho : get h0 i = some o) : get h' i = some o ∨ (get hr i = none ∧ get h i = some o):=by
 rw [hh,List.foldl_append,made_get _ _ _ hn,gone_get] at ho
 cases hg : get h' i with
 | some o'=>rw [hg] at ho;cases ho;exact .inl rfl
 | none =>
  rw [hg] at ho
  simp only at ho
  split at ho
  ·cases ho
  ·rename_i hk
   exact .inr ⟨get_key hk,ho⟩
theorem runC_sound (hΓ : ∀ g F,find Γ g = some F → SumOK P g F) (hC : COK P call) (hR : Mrl B w0 w df ι st a) {g : Nat} {args : List MV} {vs : List Value} {q : MEff × Nat × Bool} {nid : Nat} (hv : MRels ι args vs) (h : runC P Γ call g args st.h st.nx = some q) :
  entersB P g = true ∧ Goes P g vs.toArray w fun x w'=>∃ u ι',x = .returned u ∧ Ext ι ι' ∧ (∀ id,id < st.nx → id ≠ nid → ι' id = ι id) ∧ st.nx ≤ q.2.1 ∧ MRel ι' q.1.v u ∧ Mem B w0 w' ι' (q.1.sets.foldl set1 st.h) q.2.1:=by
 unfold runC at h
 split at h
 ·rename_i hen
  refine ⟨hen,?_⟩
  split at h
  ·rename_i F hF
   have hG : Glb (fun b=>b < w.heap.size) w:=Glb.mono (B:=B) (fun w' hk'=>hR.glb w' (hR.kept.trans hk')) hR.ble
   have hgo:=hΓ g F hF _ w (fun _=>False) _ _ _ q ⟨fun b hb=>hb.elim,hG⟩ (hv.avs w (fun _=>False) Go.Ev.nob) h
   refine goes_mono hgo fun x w' hp=>?_
   obtain ⟨u,v,S',rfl,hkv,hb,_,_,hvr⟩:=hp
   split at hkv
   ·rename_i m hmv
    cases hkv
    refine ⟨u,ι,rfl,Ext.refl _,fun _ _ _=>rfl,Nat.le_refl _,ofAV_rel hvr hmv,?_⟩
    exact ⟨MRels.nil,rfl,fun i x hx=>let ⟨q,hq,ho,hg⟩:=hR.obj i x hx;⟨q,hq,ho.keep (Ext.refl _) (hb.block _ (hR.lt i q hq)),hg⟩,hR.inj,fun i q hq=>Nat.lt_of_lt_of_le (hR.lt i q hq) hb.size,hR.nx,hR.kept.trans (Kept.of_below hb hR.ble),fun b h=>Nat.lt_of_lt_of_le (hR.ble b h) hb.size,hR.glb⟩
   ·cases hkv
  ·split at h
   ·rename_i hr hreach
    obtain ⟨s1,s2,_,_⟩:=reachS_spec 3000 _ _ _ hreach (by simp [keys]) (fun i o h=>by simp [get_nil] at h)
    split at h
    ·rename_i t ht
     cases h
     refine goes_mono (near_core hC ht hR.mem s1 s2 hv) fun x w' hp=>?_
     obtain ⟨u,v,ι',h',nx',rfl,hk,he,hne,hle,hvu,hn',hM⟩:=hp
     simp only [Option.some.injEq] at hk
     subst hk
     exact ⟨u,ι',rfl,he,fun id hid _=>hne id hid,hle,hvu,hM _ fun i o ho=>call_get hn' rfl i o ho⟩
    ·cases h
   ·cases h
 ·cases h
theorem runE_sound (hΓ : ∀ g F,find Γ g = some F → SumOK P g F) (hC : COK P call) (hR : Mrl B w0 w df ι st a) {nid : Nat} (hf : ι nid = none) (hlt : nid < st.nx) {o : Oper} {q : MEff × Nat × Bool} (h : runE P Γ call nid o st.tm st.h st.nx = some q) {K : Act → World → Prop} {Q : Exit → Act → World → Prop}
  (hK : ∀ a' w' ι',Ext ι ι' → (∀ id,id < st.nx → id ≠ nid → ι' id = ι id) → st.nx ≤ q.2.1 → Mrl B w0 w' df ι' (applyM o.dst q.1 q.2.1 st) a' → K a' w') : o.wpR R P a w K Q:=by
 have called : ∀ {g : Nat} {args : List MV} {vs : List Value},MRels ι args vs → runC P Γ call g args st.h st.nx = some q → (∀ s,(callFunc g vs.toArray).run P w = s → (execOp a.eval o).run P w = s) → o.wpR R P a w K Q:=fun {g args vs} hv hc hrun=>by
  obtain ⟨hen,hgo⟩:=runC_sound (nid:=nid) hΓ hC hR hv hc
  refine hgo.wp hen hrun fun x w' hp=>?_
  obtain ⟨u,ι',rfl,he,hne,hle,hvu,hM⟩:=hp
  exact ⟨u,rfl,hK _ _ ι' he hne hle (hM.act (put_rel (hR.tm.mono he) o.dst hvu) (by rw [Go.Ev.Act.put_defers];exact hR.df))⟩
 unfold runE at h
 split at h
 ·rename_i f args ts ho
  have hfv:=mval_rel hR.tm f
  have hargs:=mvals_rel hR.tm args.toList
  split at h
  ·rename_i g caps hfe
   rw [hfe] at hfv
   generalize hfe2 : a.eval f = fv at hfv
   cases hfv with
   | fn _ _ cvs hcl hch =>
    have hmap : (args.map a.eval) ++ cvs.toArray = (args.toList.map a.eval ++ cvs).toArray:=by apply Array.ext';simp
    exact called (hargs.append ⟨hcl,hch⟩) h fun s hcf=>by
     simp only [execOp,ho,resolve,hfe2,Deferred.ofValue]
     simp only [pure_bind,invoke,Array.empty_append,hmap]
     exact hcf
  ·rename_i g first hfe
   rw [hfe] at hfv
   generalize hfe2 : a.eval f = fv at hfv
   cases hfv with
   | bnd _ _ cvs hcl hch =>
    have hmap : cvs.toArray ++ (args.map a.eval) = (cvs ++ args.toList.map a.eval).toArray:=by apply Array.ext';simp
    exact called (MRels.append ⟨hcl,hch⟩ hargs) h fun s hcf=>by
     simp only [execOp,ho,resolve,hfe2,Deferred.ofValue]
     simp only [pure_bind,invoke,Array.append_empty,hmap]
     exact hcf
  ·cases h
 ·split at h
  ·rename_i e hop
   cases h
   obtain ⟨e',hy,hD⟩:=evOp_sound hR hf hlt hop
   cases hy
   obtain ⟨u,w',ι',hr,he,ho,hv,hM⟩:=hD
   have hfin:=hK (a.put o.dst u) w' ι' he (fun id _ hid=>ho id hid) (Nat.le_refl _) (hM.putA o.dst hv fun _=>rfl)
   rcases hr with hr | ⟨hr,rfl⟩
   ·exact wp_value hr hfin
   ·exact wp_skip' hr hfin
  ·cases h
theorem stepG_sound (hΓ : ∀ g F,find Γ g = some F → SumOK P g F) (hC : COK P call) {i : Nat} {t : MSt} {f : Foot} (hs : stepG P Γ call ops base i st = some (t,f)) (hR : Mrl B w0 w df ι st a) (hf : ι (base + i) = none) (hlt : base + i < st.nx) {K : Act → World → Prop} {Q : Exit → Act → World → Prop}
  (hK : ∀ a' w' ι',Ext ι ι' → (∀ id,id < st.nx → id ≠ base + i → ι' id = ι id) → st.nx ≤ t.nx → Mrl B w0 w' df ι' t a' → K a' w') : wpOpIn (fen R) 0 P ops Q i K a w:=by
 unfold wpOpIn
 unfold stepG at hs
 cases ho : ops[i]? with
 | none=>simp only [ho] at hs;cases hs;exact hK a w ι (Ext.refl _) (fun _ _ _=>rfl) (Nat.le_refl _) hR
 | some o =>
  simp only [ho] at hs ⊢
  cases hev : effM P Γ call ops.toList (base + i) o st.tm st.h st.nx with
  | none=>rw [hev] at hs;cases hs
  | some e =>
   rw [hev] at hs
   simp only [Option.map_some,Option.some.injEq,Prod.mk.injEq] at hs
   obtain ⟨rfl,_⟩:=hs
   have run : runE P Γ call (base + i) o st.tm st.h st.nx = some e → o.wpR R P a w K Q:=fun hr=>runE_sound hΓ hC hR hf hlt hr hK
   have skip : e = ({ v:=.undef },st.nx,false) → K (a.put o.dst undef) w:=fun hr=>by
    subst hr
    exact hK _ _ ι (Ext.refl _) (fun _ _ _=>rfl) (Nat.le_refl _) (hR.putA o.dst .undef fun _=>rfl)
   unfold effM at hev
   split at hev
   ·rename_i hg
    simp only [Region.wanted,hg,if_true]
    exact run hev
   ·rename_i j want hg
    obtain ⟨hgb,hgu⟩:=guard_at hR.tm ops j
    simp only [Region.wanted,hg]
    split at hev
    ·rename_i b hb
     rw [hgb b hb]
     cases hbw : (b == want) with
     | true =>
      simp only [hbw,cond_true] at hev
      have hbe : b = want:=by simpa using hbw
      simp only [hbe,beq_self_eq_true,if_true]
      exact run hev
     | false =>
      simp only [hbw,cond_false,Option.some.injEq] at hev
      have hbe : ¬ (some b == some want) = true:=by simpa using hbw
      rw [if_neg hbe]
      exact ⟨fun _ _=>trivial,skip hev.symm⟩
    ·rename_i hb
     rw [hgu hb]
     have : ¬ ((none : Option Bool) == some want) = true:=by simp
     rw [if_neg this]
     exact ⟨fun _ _=>trivial,skip (by simpa using hev.symm)⟩
    ·cases hev
theorem memN_eq : ∀ (l : List Nat) (i : Nat),memN l i = true ↔ i ∈ l
 | [],i=>by simp [memN]
 | a :: l,i=>by
  show (bif Nat.beq a i then true else memN l i) = true ↔ _
  rw [beq_dec]
  by_cases e : a = i
  ·simp [e]
  ·rw [decide_eq_false e]
   show memN l i = true ↔ _
   rw [memN_eq l i]
   simp only [List.mem_cons]
   exact ⟨.inr,fun h=>h.resolve_left fun h=>e h.symm⟩
theorem noneN_eq : ∀ (l m : List Nat),noneN l m = true → ∀ i ∈ l,i ∉ m
 | [],m,_,i,hi=>by cases hi
 | a :: l,m,h,i,hi=>by
  have h : (bif memN m a then false else noneN l m) = true:=h
  cases hm : memN m a with
  | true=>rw [hm] at h;cases h
  | false =>
   rw [hm] at h
   rcases List.mem_cons.1 hi with rfl | hi
   ·intro h2
    rw [(memN_eq m i).2 h2] at hm;cases hm
   ·exact noneN_eq l m h i hi
theorem nthL_eq : ∀ (l : List (List Nat)) (n : Nat),nthL l n = l.getD n []
 | [],n=>by simp [nthL]
 | a :: l,0=>rfl
 | a :: l,n + 1=>by
  show nthL l n = _
  rw [nthL_eq l n]
  simp
theorem apartF_spec {a b : Foot} (h : apartF a b = true) : (a.call = false ∨ b.call = false) ∧ (∀ i ∈ a.sets,i ∉ b.reads ∧ i ∉ b.sets) ∧ ∀ i ∈ b.sets,i ∉ a.reads:=by
 unfold apartF at h
 cases hc : a.call && b.call with
 | true=>rw [hc] at h;cases h
 | false =>
  rw [hc] at h
  simp only [cond_false] at h
  cases h1 : noneN a.sets b.reads with
  | false=>rw [h1] at h;cases h
  | true =>
   rw [h1] at h
   simp only [cond_true] at h
   cases h2 : noneN a.sets b.sets with
   | false=>rw [h2] at h;cases h
   | true =>
    rw [h2] at h
    simp only [cond_true] at h
    refine ⟨?_,fun i hi=>⟨noneN_eq _ _ h1 i hi,noneN_eq _ _ h2 i hi⟩,noneN_eq _ _ h⟩
    cases ha : a.call with
    | false=>exact .inl rfl
    | true=>rw [ha] at hc;exact .inr (by simpa using hc)
theorem allF_spec {p : Nat → Foot → Bool} : ∀ (fs : List Foot) (n : Nat),allF p fs n = true → ∀ i f,fs[i]? = some f → p (n + i) f = true
 | [],n,_,i,f,hf=>by simp at hf
 | a :: fs,n,h,i,f,hf=>by
  have h : (bif p n a then allF p fs (Nat.succ n) else false) = true:=h
  cases hp : p n a with
  | false=>rw [hp] at h;cases h
  | true =>
   rw [hp] at h
   cases i with
   | zero=>simp at hf;subst hf;exact hp
   | succ i =>
    have:=allF_spec fs (Nat.succ n) h i f (by simpa using hf)
    rwa [show Nat.succ n + i = n + (i + 1) by omega] at this
theorem drawOk_parts {fs : List Foot} (h : drawOk ops fs = true) : statOk ops = true ∧ fs.length = ops.size ∧ dynOk (ancTab ops.toList) fs = true:=by
 unfold drawOk at h
 cases h1 : statOk ops with
 | false=>rw [h1] at h;cases h
 | true =>
  rw [h1] at h
  simp only [cond_true,lenQ_eq] at h
  cases h2 : Nat.beq fs.length ops.size with
  | false=>rw [h2] at h;cases h
  | true =>
   rw [h2] at h
   exact ⟨rfl,Nat.eq_of_beq_eq_true h2,h⟩
theorem drawOk_edge {fs : List Foot} (h : drawOk ops fs = true) {j : Nat} {o : Oper} (ho : ops[j]? = some o) : ∀ e ∈ o.after,Region.binds .any e = true → e.on < j:=by
 have h:=(drawOk_parts h).1
 unfold statOk at h
 rw [List.all_eq_true] at h
 have h1:=h j (by rw [List.mem_range];exact (Array.getElem?_eq_some_iff.1 ho).1)
 simp only [ho,Option.map_some,Option.getD_some,Bool.and_eq_true] at h1
 intro e he hb
 have:=Array.all_eq_true'.1 h1.1 e he
 simp only [hb,Bool.not_true,Bool.false_or,Nat.blt_eq] at this
 exact this
theorem drawOk_pair {fs : List Foot} (h : drawOk ops fs = true) {i j : Nat} {x y : Oper} (hx : ops[i]? = some x) (hy : ops[j]? = some y) (hij : i < j) (hn : i ∉ (ancTab ops.toList).getD j []) : Indep ops (fun n=>fs.getD n ⟨[],[],false⟩) i j x y:=by
 obtain ⟨hst,hlen,hdy⟩:=drawOk_parts h
 have hanc : memN (nthL (ancTab ops.toList) j) i = false:=by
  rw [nthL_eq]
  cases hm : memN ((ancTab ops.toList).getD j []) i with
  | false=>rfl
  | true=>exact absurd ((memN_eq _ _).1 hm) hn
 unfold statOk at hst
 rw [List.all_eq_true] at hst
 have h1:=hst j (by rw [List.mem_range];exact (Array.getElem?_eq_some_iff.1 hy).1)
 simp only [Bool.and_eq_true] at h1
 have h2:=(List.all_eq_true.1 h1.2) i (by rw [List.mem_range];exact hij)
 simp only [hx,hy,hanc,Bool.false_or] at h2
 obtain ⟨a1,a2,a3⟩:=Oper.apart_spec h2
 have hi : i < fs.length:=by rw [hlen];exact (Array.getElem?_eq_some_iff.1 hx).1
 have hj : j < fs.length:=by rw [hlen];exact (Array.getElem?_eq_some_iff.1 hy).1
 have hfi : fs[i]? = some fs[i]:=List.getElem?_eq_getElem hi
 have hfj : fs[j]? = some fs[j]:=List.getElem?_eq_getElem hj
 have ef : fs.getD i ⟨[],[],false⟩ = fs[i]:=by simp [List.getD,hfi]
 have eg : fs.getD j ⟨[],[],false⟩ = fs[j]:=by simp [List.getD,hfj]
 have pair : ∀ (u v : Nat) (f g : Foot),fs[u]? = some f → fs[v]? = some g → Nat.beq v u = false → ancQ (ancTab ops.toList) v u = false → (f.sets.isEmpty && !f.call) = false → apartF f g = true:=fun u v f g hu hv huv ha hq=>by
  unfold dynOk at hdy
  have:=allF_spec fs 0 hdy u f hu
  simp only [hq,cond_false] at this
  have:=allF_spec fs 0 this v g hv
  simp only [Nat.zero_add,huv,ha,cond_false] at this
  exact this
 have key : (fs[i].call = false ∨ fs[j].call = false) ∧ (∀ id ∈ fs[i].sets,id ∉ fs[j].reads ∧ id ∉ fs[j].sets) ∧ ∀ id ∈ fs[j].sets,id ∉ fs[i].reads:=by
  cases hq : fs[i].sets.isEmpty && !fs[i].call with
  | false =>
   refine apartF_spec (pair i j _ _ hfi hfj (by rw [beq_dec];exact decide_eq_false (by omega)) ?_ hq)
   unfold ancQ
   have : Nat.blt j i = false:=by
    cases hb : Nat.blt j i with
    | false=>rfl
    | true=>rw [Nat.blt_eq] at hb;omega
   rw [this]
   exact hanc
  | true =>
   simp only [Bool.and_eq_true,Bool.not_eq_true',List.isEmpty_iff] at hq
   cases hq2 : fs[j].sets.isEmpty && !fs[j].call with
   | true =>
    simp only [Bool.and_eq_true,Bool.not_eq_true',List.isEmpty_iff] at hq2
    exact ⟨.inl hq.2,fun id hid=>(by rw [hq.1] at hid;cases hid),fun id hid=>(by rw [hq2.1] at hid;cases hid)⟩
   | false =>
    obtain ⟨b1,b2,b3⟩:=apartF_spec (pair j i _ _ hfj hfi (by rw [beq_dec];exact decide_eq_false (by omega)) (by
     unfold ancQ
     have : Nat.blt i j = true:=by rw [Nat.blt_eq];exact hij
     rw [this]
     exact hanc) hq2)
    exact ⟨b1.symm,fun id hid=>(by rw [hq.1] at hid;cases hid),fun id hid=>(b2 id hid).1⟩
 refine ⟨a1,a3,a2,fun id hid=>?_,fun id hid=>?_,?_⟩
 ·simp only [ef,eg] at hid ⊢
  exact key.2.1 id hid
 ·simp only [ef,eg] at hid ⊢
  exact key.2.2 id hid
 ·simp only [ef,eg]
  exact key.1
theorem Indep.symm {φ : Nat → Foot} {i j : Nat} {x y : Oper} (h : Indep ops φ i j x y) : Indep ops φ j i y x :=
 ⟨h.yx,h.xy,fun d hd hx=>h.dd d hx hd,fun id hid=>⟨h.f2 id hid,fun hm=>(h.f1 id hm).2 hid⟩,fun id hid=>(h.f1 id hid).1,h.cc.symm⟩
theorem wpAnyM (hΓ : ∀ g F,find Γ g = some F → SumOK P g F) (hN : ∀ g F,find Γ g = some F → Go.Ev.SNat F) (hC : COK P call) {fs : List Foot} (hok : drawOk ops fs = true) {fin : MSt} {ι0 : Io} {n0 : Nat} {Q : Exit → Act → World → Prop}
  (hQ : ∀ a w ι',Ext ι0 ι' → (∀ id,id < base → ι' id = ι0 id) → n0 ≤ fin.nx → Mrl B w0 w df ι' fin a → Q .normal a w) :
  ∀ (fuel : Nat) (listed : Array Bool) (st : MSt) (a : Act) (w : World) (ι : Io),listed.size = ops.size → (rem listed ops.size).length ≤ fuel →
   (∀ j,j < ops.size → listed.getD j false = true → ∀ y ∈ (ancTab ops.toList).getD j [],listed.getD y false = true) →
   RunG P Γ call ops base (fun n=>fs.getD n ⟨[],[],false⟩) (rem listed ops.size) st fin → Ext ι0 ι → (∀ id,id < base → ι id = ι0 id) → (∀ j,j < ops.size → listed.getD j true = false → ι (base + j) = none) → base + ops.size ≤ st.nx → n0 ≤ st.nx →
   Mrl B w0 w df ι st a → wpAnyIn (fen R) 0 P .any ops Q fuel listed a w:=by
 have done : ∀ (listed : Array Bool) (st : MSt) (a : Act) (w : World) (ι : Io),listed.size = ops.size → Region.ready .any ops listed = [] →
   RunG P Γ call ops base (fun n=>fs.getD n ⟨[],[],false⟩) (rem listed ops.size) st fin → Ext ι0 ι → (∀ id,id < base → ι id = ι0 id) → n0 ≤ st.nx → Mrl B w0 w df ι st a → Q .normal a w:=by
  intro listed st a w ι hls hr hrun he hne hn0 hX
  have hnil : rem listed ops.size = []:=by
   by_cases hne : rem listed ops.size = []
   ·exact hne
   ·exfalso
    have hex : ∃ i,i < ops.size ∧ listed.getD i true = false:=by
     obtain ⟨i,hi⟩:=List.exists_mem_of_ne_nil _ hne
     exact ⟨i,mem_rem.1 hi⟩
    have key : ∀ i,i < ops.size → listed.getD i true = false → False:=by
     intro i
     induction i using Nat.strongRecOn with
     | ind i ih =>
      intro hi hu
      have : i ∈ Region.ready .any ops listed:=mem_ready.2 ⟨hu,_,Array.getElem?_eq_getElem hi,fun e he hb=>by
       have hlt:=drawOk_edge hok (Array.getElem?_eq_getElem hi) e he hb
       cases hc : listed.getD e.on true with
       | true=>exact getD_ft (by omega) hc
       | false=>exact (ih e.on hlt (by omega) hc).elim⟩
      rw [hr] at this
      cases this
    obtain ⟨i,h1,h2⟩:=hex
    exact key i h1 h2
  rw [hnil] at hrun
  have hE : Eqv st fin:=hrun
  have hl:=hX.look (h':=fin.h) fun i=>(hE.h i).symm
  refine hQ a w ι he hne (by rw [← hE.nx];exact hn0) ?_
  have e1 : fin = ⟨st.tm,fin.h,st.nx⟩:=by rw [hE.tm,hE.nx]
  rw [e1]
  exact hl
 intro fuel
 induction fuel with
 | zero =>
  intro listed st a w ι hls hlen hcl hrun he hne hfree hb hn0 hX
  have hnil : rem listed ops.size = []:=List.eq_nil_of_length_eq_zero (by omega)
  have hr : Region.ready .any ops listed = []:=by
   refine List.eq_nil_iff_forall_not_mem.2 fun i hi=>?_
   obtain ⟨hu,o,ho,_⟩:=mem_ready.1 hi
   have : i ∈ rem listed ops.size:=mem_rem.2 ⟨(Array.getElem?_eq_some_iff.1 ho).1,hu⟩
   rw [hnil] at this
   cases this
  exact ⟨hr,done listed st a w ι hls hr hrun he hne hn0 hX⟩
 | succ fuel ih =>
  intro listed st a w ι hls hlen hcl hrun he hne hfree hb hn0 hX
  refine ⟨fun hr=>done listed st a w ι hls hr hrun he hne hn0 hX,fun i hi=>?_⟩
  obtain ⟨hu,o,ho,hall⟩:=mem_ready.1 hi
  have hin:=(Array.getElem?_eq_some_iff.1 ho).1
  obtain ⟨l1,l2,hs1,hs2,hl1⟩:=rem_split hls hin hu
  have hbef : ∀ y ∈ (ancTab ops.toList).getD i [],listed.getD y false = true:=fun y hy=>by
   obtain ⟨e,he,hb,h2⟩:=tab_spec ho hy
   have hlt:=drawOk_edge hok ho e he hb
   have h3:=hall e he hb
   rcases h2 with rfl | h2
   ·exact h3
   ·exact hcl e.on (by omega) h3 y h2
  rw [hs1] at hrun
  obtain ⟨t,h1,h2⟩:=toFrontG hN ho l1 l2 st fin (fun j hj=>by
   obtain ⟨hji,hju⟩:=hl1 j hj
   have hjn : j < ops.size:=by omega
   have hn : j ∉ (ancTab ops.toList).getD i []:=fun hm=>by
    have:=getD_tf (hbef j hm)
    rw [hju] at this
    cases this
   exact ⟨ops[j],Array.getElem?_eq_getElem hjn,drawOk_pair hok (Array.getElem?_eq_getElem hjn) ho hji hn⟩) hrun
  refine stepG_sound hΓ hC h1 hX (hfree i hin hu) (by omega) fun a' w' ι' hE' hne' hle' hX'=>?_
  refine ih (listed.setIfInBounds i true) t a' w' ι' (by simpa using hls) ?_ ?_ (by rw [hs2];exact h2) (he.trans hE') (fun id hid=>(hne' id (by omega) (by omega)).trans (hne id hid)) (fun j hj hlj=>?_) (by omega) (by omega) hX'
  ·have : (rem listed ops.size).length = (l1 ++ l2).length + 1:=by rw [hs1];simp;omega
   rw [hs2]
   omega
  ·intro j hj hlj y hy
   by_cases hji : i = j
   ·subst hji
    exact getD_set_true (hbef y hy)
   ·rw [getD_set_ne false hji] at hlj
    exact getD_set_true (hcl j hj hlj y hy)
  ·by_cases hji : i = j
   ·subst hji
    have : i < listed.size:=by omega
    simp [this] at hlj
   ·rw [getD_set_ne true hji] at hlj
    exact (hne' (base + j) (by omega) (by omega)).trans (hfree j hj hlj)
theorem evDraw_run {ρ : Type} {k : MSt → List Foot → Option ρ} {r : ρ} : ∀ (l : List Oper) (i : Nat) (st : MSt) (fs : List Foot),evDraw P Γ call base ops.toList k i l st fs = some r → l = ops.toList.drop i → fs.length = i → (keys st.h).Nodup →
  ∃ st' gs,k st' (fs ++ gs) = some r ∧ RunG P Γ call ops base (fun n=>(fs ++ gs).getD n ⟨[],[],false⟩) (List.range' i l.length) st st' ∧ (keys st'.h).Nodup
 | [],_,st,fs,hk,_,_,hn=>⟨st,[],by rw [List.append_nil];exact hk,Eqv.refl _,hn⟩
 | o :: l,i,st,fs,h,hl,hf,hn=>by
  have ho : ops[i]? = some o:=by
   rw [← Array.getElem?_toList]
   have:=congrArg (fun z=>z[0]?) hl
   simpa using this.symm
  simp only [evDraw,forceK_eq,dstK_eq,natK_eq] at h
  split at h
  ·rename_i q he
   obtain ⟨e,n,c⟩:=q
   obtain ⟨h1,h2,h3,h4⟩:=setK_spec e.sets false st.h h hn (fun hf=>by cases hf)
   obtain ⟨st',gs,g1,g2,g3⟩:=evDraw_run l (i + 1) _ _ h2 (by
    have:=congrArg List.tail hl
    simpa [List.tail_drop] using this) (by simp [hf]) h4
   refine ⟨st',⟨e.reads,e.sets.map (·.1),c⟩ :: gs,by simpa using g1,?_,g3⟩
   have e1 : fs ++ [⟨e.reads,e.sets.map (·.1),c⟩] ++ gs = fs ++ ⟨e.reads,e.sets.map (·.1),c⟩ :: gs:=by simp
   rw [e1] at g2
   rw [List.length_cons,List.range'_succ]
   refine ⟨applyM o.dst e n st,?_,RunG.eqv (s:=⟨putD st.tm o.dst e.v,h1,n⟩) _ ⟨rfl,h3,rfl⟩ g2⟩
   unfold stepG
   simp only [ho,he,Option.map_some,Option.some.injEq,Prod.mk.injEq,true_and]
   simp [List.getD,← hf]
  ·cases h
theorem drawM (hΓ : ∀ g F,find Γ g = some F → SumOK P g F) (hN : ∀ g F,find Γ g = some F → Go.Ev.SNat F) (hm : P.follows .mixedOrders = true) (hC : COK P call) : DrawM P Γ call:=by
 intro R ρ B w0 w df ι st a id ops k r base Q h hR hn hfree hnx hK
 obtain ⟨fin,gs,h1,h2,h3⟩:=evDraw_run (ops:=ops) ops.toList 0 st [] h (by simp) rfl hn
 simp only [List.nil_append] at h1 h2
 split at h1
 ·rename_i hok
  refine wpIn_region_any hm ?_
  have hX : Mrl B w0 { w with drawn:=w.drawn + 1 } df ι st a:=⟨hR.tm,hR.df,fun i x hx=>let ⟨q,hq,ho,hg⟩:=hR.obj i x hx;⟨q,hq,ho.keep (Ext.refl _) rfl,hg⟩,hR.inj,hR.lt,hR.nx,hR.kept.trans ⟨rfl,rfl,rfl,Nat.le_refl _,fun _ _=>rfl⟩,hR.ble,hR.glb⟩
  refine wpAnyM (B:=B) (w0:=w0) (df:=df) (ι0:=ι) (n0:=st.nx) hΓ hN hC hok (fun a' w' ι' he hne hle hX'=>hK fin gs a' w' ι' h1 he hne hle hX' h3) ops.size _ st a _ ι (by simp) (by rw [rem_none];simp) (fun j hj hl=>?_) ?_ (Ext.refl _) (fun _ _=>rfl) (fun j hj _=>hfree j hj) hnx (Nat.le_refl _) hX
  ·simp [hj] at hl
  ·rw [rem_none]
   simpa using h2
 ·cases h1
end draw
end Go.Mi


namespace Go.Mi
open Go.RowKit
open Go.Ev (AV Sh Summ Env Ex find entersB hasBody nilB VRel VRels Kept Glb Goes SumOK)
def eqNil : Value → Value → Bool
 | .nilIface,.nilIface=>true
 | .pointer none,.pointer none=>true
 | .nilFunc,.nilFunc=>true
 | .map none,.map none=>true
 | _,_=>false
theorem eqNil_sound : ∀ {a b : Value},eqNil a b = true → a = b:=by
 intro a b h
 unfold eqNil at h
 split at h <;> first | rfl | cases h
mutual
noncomputable def eqV : MV → MV → Bool
 | .unk,.unk=>true
 | .undef,.undef=>true
 | .int k n,.int k' n'=>Nat.beq (kIx k) (kIx k') && eqI n n'
 | .bool b,.bool b'=>bif b then b' else !b'
 | .str s,.str s'=>eqS s s'
 | .nl v,.nl v'=>eqNil v v'
 | .agg cs,.agg ds=>eqVs cs ds
 | .tup cs,.tup ds=>eqVs cs ds
 | .ptr a b,.ptr a' b'=>Nat.beq a a' && Nat.beq b b'
 | .slc a b c d e,.slc a' b' c' d' e'=>Nat.beq a a' && (Nat.beq b b' && (Nat.beq c c' && (Nat.beq d d' && Nat.beq e e')))
 | .slz,.slz=>true
 | .fn f cs,.fn f' ds=>Nat.beq f f' && eqVs cs ds
 | .bnd f cs,.bnd f' ds=>Nat.beq f f' && eqVs cs ds
 | .mp a,.mp a'=>Nat.beq a a'
 | .it a,.it a'=>Nat.beq a a'
 | _,_=>false
noncomputable def eqVs : List MV → List MV → Bool
 | [],[]=>true
 | c :: cs,d :: ds=>eqV c d && eqVs cs ds
 | _,_=>false
end
theorem eqK_sound {k k' : IntKind} (h : Nat.beq (kIx k) (kIx k') = true) : k = k':=by
 rw [kIx_eq] at h;exact of_decide_eq_true h
mutual
theorem eqV_sound : ∀ (a b : MV),eqV a b = true → a = b
 | .unk,b,h=>by cases b <;> first | rfl | (simp [eqV] at h)
 | .undef,b,h=>by cases b <;> first | rfl | (simp [eqV] at h)
 | .int k n,b,h=>by
  cases b <;> simp only [eqV,Bool.and_eq_true,Bool.false_eq_true] at h
  have h1:=eqK_sound h.1
  have h2:=h.2
  rw [eqI_eq,beq_iff_eq] at h2
  rw [h1,h2]
 | .bool x,b,h=>by
  cases b <;> simp only [eqV,Bool.false_eq_true] at h
  rename_i y
  cases x <;> cases y <;> first | rfl | cases h
 | .str s,b,h=>by
  cases b <;> simp only [eqV,Bool.false_eq_true] at h
  rw [eqS_eq,beq_iff_eq] at h
  rw [h]
 | .nl v,b,h=>by
  cases b <;> simp only [eqV,Bool.false_eq_true] at h
  rw [eqNil_sound h]
 | .agg cs,b,h=>by
  cases b <;> simp only [eqV,Bool.false_eq_true] at h
  rw [eqVs_sound cs _ h]
 | .tup cs,b,h=>by
  cases b <;> simp only [eqV,Bool.false_eq_true] at h
  rw [eqVs_sound cs _ h]
 | .ptr x y,b,h=>by
  cases b <;> simp only [eqV,Bool.and_eq_true,Bool.false_eq_true,Nat.beq_eq] at h
  rw [h.1,h.2]
 | .slc a1 a2 a3 a4 a5,b,h=>by
  cases b <;> simp only [eqV,Bool.and_eq_true,Bool.false_eq_true,Nat.beq_eq] at h
  rw [h.1,h.2.1,h.2.2.1,h.2.2.2.1,h.2.2.2.2]
 | .slz,b,h=>by cases b <;> first | rfl | (simp [eqV] at h)
 | .fn f cs,b,h=>by
  cases b <;> simp only [eqV,Bool.and_eq_true,Bool.false_eq_true,Nat.beq_eq] at h
  rw [h.1,eqVs_sound cs _ h.2]
 | .bnd f cs,b,h=>by
  cases b <;> simp only [eqV,Bool.and_eq_true,Bool.false_eq_true,Nat.beq_eq] at h
  rw [h.1,eqVs_sound cs _ h.2]
 | .mp x,b,h=>by
  cases b <;> simp only [eqV,Bool.false_eq_true,Nat.beq_eq] at h
  rw [h]
 | .it x,b,h=>by
  cases b <;> simp only [eqV,Bool.false_eq_true,Nat.beq_eq] at h
  rw [h]
 | .yld x,b,h=>by cases b <;> simp [eqV] at h
theorem eqVs_sound : ∀ (a b : List MV),eqVs a b = true → a = b
 | [],b,h=>by cases b <;> first | rfl | (simp [eqVs] at h)
 | c :: cs,b,h=>by
  cases b with
  | nil=>simp [eqVs] at h
  | cons d ds =>
   simp only [eqVs,Bool.and_eq_true] at h
   rw [eqV_sound c d h.1,eqVs_sound cs ds h.2]
end
noncomputable def eqO : LObj → LObj → Bool
 | .cells false cs,.cells false ds=>eqVs cs ds
 | .cells true cs,.cells true ds=>eqVs cs ds
 | .iter s p,.iter s' p'=>eqS s s' && Nat.beq p p'
 | _,_=>false
theorem eqO_sound : ∀ {a b : LObj},eqO a b = true → a = b:=by
 intro a b h
 unfold eqO at h
 split at h
 ·rw [eqVs_sound _ _ h]
 ·rw [eqVs_sound _ _ h]
 ·simp only [Bool.and_eq_true,Nat.beq_eq,eqS_eq,beq_iff_eq] at h
  rw [h.1,h.2]
 ·cases h
noncomputable def eqH : List (Nat × LObj) → List (Nat × LObj) → Bool
 | [],[]=>true
 | a :: l,b :: m=>Nat.beq a.1 b.1 && (eqO a.2 b.2 && eqH l m)
 | _,_=>false
theorem eqH_sound : ∀ (a b : List (Nat × LObj)),eqH a b = true → a = b
 | [],[],_=>rfl
 | a :: l,b :: m,h=>by
  simp only [eqH,Bool.and_eq_true,Nat.beq_eq] at h
  rw [eqH_sound l m h.2.2]
  congr 1
  exact Prod.ext h.1 (eqO_sound h.2.1)
 | [],_ :: _,h=>by simp [eqH] at h
 | _ :: _,[],h=>by simp [eqH] at h
structure Pin where
 g : Nat
 nx : Nat
 args : List MV
 h : List (Nat × LObj)
 v : MV
 h' : List (Nat × LObj)
 nx' : Nat
noncomputable def lookP : List Pin → Nat → List MV → List (Nat × LObj) → Nat → Option Pin
 | [],_,_,_,_=>none
 | p :: ps,g,args,h,nx=>bif Nat.beq p.nx nx && (Nat.beq p.g g && (eqVs p.args args && eqH p.h h)) then some p else lookP ps g args h nx
noncomputable def pinM (ps : List Pin) (call : CallT) : CallT:=fun ρ g args h nx k =>
 match lookP ps g args h nx with
 | some p=>k p.v p.h' p.nx'
 | none=>call ρ g args h nx k
def PinOK (P : Program) (p : Pin) : Prop:=∃ call : CallT,COK P call ∧ call (MV × List (Nat × LObj) × Nat) p.g p.args p.h p.nx (fun v h n=>some (v,h,n)) = some (p.v,p.h',p.nx')
theorem lookP_sound {g : Nat} {args : List MV} {h : List (Nat × LObj)} {nx : Nat} {p : Pin} : ∀ (ps : List Pin),lookP ps g args h nx = some p → p ∈ ps ∧ p.nx = nx ∧ p.g = g ∧ p.args = args ∧ p.h = h
 | [],hl=>by cases hl
 | q :: ps,hl=>by
  simp only [lookP] at hl
  cases hc : Nat.beq q.nx nx && (Nat.beq q.g g && (eqVs q.args args && eqH q.h h)) with
  | true =>
   rw [hc] at hl
   cases hl
   simp only [Bool.and_eq_true,Nat.beq_eq] at hc
   exact ⟨by simp,hc.1,hc.2.1,eqVs_sound _ _ hc.2.2.1,eqH_sound _ _ hc.2.2.2⟩
  | false =>
   rw [hc] at hl
   obtain ⟨h1,h2⟩:=lookP_sound ps hl
   exact ⟨by simp [h1],h2⟩
theorem pinM_sound {P : Program} {ps : List Pin} (hp : ∀ p ∈ ps,PinOK P p) {call : CallT} (hC : COK P call) : COK P (pinM ps call):=by
 intro ρ g args h nx k r B w0 w ι vs hk hm hn hv
 unfold pinM at hk
 split at hk
 ·rename_i p hl
  obtain ⟨hmem,rfl,rfl,rfl,rfl⟩:=lookP_sound ps hl
  obtain ⟨call0,hC0,hrun⟩:=hp p hmem
  refine goes_mono (hC0 _ p.g p.args p.h p.nx _ _ B w0 w ι vs hrun hm hn hv) fun e w' hX=>?_
  obtain ⟨u,v,ι',h',nx',rfl,hk',he,hne,hle,hvu,hM,hn'⟩:=hX
  simp only [Option.some.injEq,Prod.mk.injEq] at hk'
  obtain ⟨rfl,rfl,rfl⟩:=hk'
  exact ⟨u,_,ι',_,_,rfl,hk,he,hne,hle,hvu,hM,hn'⟩
 ·exact hC ρ g args h nx k r B w0 w ι vs hk hm hn hv
end Go.Mi


namespace Go.Proofs.YtijdnecnjenleaaGreatDoor
open Go.Ev Go.Mi
noncomputable def GM : Env:={ pure:=[(159,Fidx),(187,ofT F187),(254,ofT F254),(208,ofT F208),(158,ofT F158),(312,ofT F312)] }
theorem g0 : GOK Tryz.prog { pure:=[] }:=GOK.empty
theorem gm : GOK Tryz.prog GM:=GOK.also (GOK.also (GOK.also (GOK.also (GOK.also (GOK.also g0 ok312) ok158) ok208) ok254) ok187) ok159
theorem okM (n : Nat) : COK Tryz.prog (callM Tryz.prog GM id n).1:=(callM_sound gm.pure (fun _ hC=>drawM gm.pure (fun g F h=>gm.snat g F h) hmix hC) (fun _ hC=>hC) n).1
def i (n : Int) : MV:=.int .i64 n
def b8 (l : List Nat) : List MV:=l.map fun n=>.int .u8 (Int.ofNat n)
end Go.Proofs.YtijdnecnjenleaaGreatDoor


namespace Go.Proofs.YtijdnecnjenleaaGreatDoor
open Go.Ev Go.Mi
def pin0 : Pin:={ g:=24,nx:=56,args:=[.agg [.slz,i 0],.agg [.str [115,64,120],.slc 26 0 1 1 2,.str [55],.slz,.slz],i 0],h:=[(26,.cells false [.str [97,64,121],i 7])],v:=.tup [.agg [.slc 1005 0 1 1 10,i 1],i 0,.agg [i 0,i 0]],h':=[(995,.cells false [.str [97,64,121],i 7,i 0,.bool false]),(957,.cells false [.str [97,64,121],i 7]),(1005,.cells false [i 0,.str [115,64,120],.slc 957 0 1 1 2,.str [55],.slz,.slz,i 0,i 0,i 0,.slc 995 0 1 1 4]),(26,.cells false [.str [97,64,121],i 7])],nx':=1023 }
theorem pinOK0 : PinOK Tryz.prog pin0:=⟨(callM Tryz.prog GM id 60).1,okM 60,by kernel_rfl⟩
def pin1 : Pin:={ g:=67,nx:=1054,args:=[.slz,.agg [i 1,i 0,.str [115,64,120],.slc 26 0 1 1 2,.str [55],.slz,.slz,i 0,.str [],.slz,.slz]],h:=[(26,.cells false [.str [97,64,121],i 7])],v:=.tup [.slc 4996 0 95 95 1,.agg [i 0,i 0]],h':=[(4996,.cells false (b8 [79,0,0,0,0,0,0,0,1,0,0,0,0,0,0,0,0,0,0,0,0,0,0,0,3,0,0,0,0,0,0,0,115,64,120,1,0,0,0,0,0,0,0,3,0,0,0,0,0,0,0,97,64,121,7,0,0,0,0,0,0,0,1,0,0,0,0,0,0,0,55,0,0,0,0,0,0,0,0,0,0,0,0,0,0,0,0,25,65,130,53,209,47,17,28])),(26,.cells false [.str [97,64,121],i 7])],nx':=5039 }
theorem pinOK1 : PinOK Tryz.prog pin1:=⟨(callM Tryz.prog GM id 60).1,okM 60,by kernel_rfl⟩
def pin2 : Pin:={ g:=9,nx:=5069,args:=[.agg [.slc 1005 0 1 1 10,i 1],i 0],h:=[(995,.cells false [.str [97,64,121],i 7,i 0,.bool false]),(957,.cells false [.str [97,64,121],i 7]),(1005,.cells false [i 0,.str [115,64,120],.slc 957 0 1 1 2,.str [55],.slz,.slz,i 0,i 0,i 0,.slc 995 0 1 1 4])],v:=.tup [.slc 6820 0 1 1 3,.agg [i 0,i 0]],h':=[(6772,.cells false [i 0]),(6820,.cells false [i 0,.str [121],.slc 6772 0 1 1 1]),(995,.cells false [.str [97,64,121],i 7,i 0,.bool false]),(957,.cells false [.str [97,64,121],i 7]),(1005,.cells false [i 0,.str [115,64,120],.slc 957 0 1 1 2,.str [55],.slz,.slz,i 0,i 0,i 0,.slc 995 0 1 1 4])],nx':=6835 }
theorem pinOK2 : PinOK Tryz.prog pin2:=⟨(callM Tryz.prog GM id 60).1,okM 60,by kernel_rfl⟩
def pin3 : Pin:={ g:=168,nx:=10596,args:=[.agg [.str [99,108,105,101,110,116],.str [115,64,120],.slc 10004 0 1 1 2,.str [55],.slz,.slz,.bool false,.slz,i 0,.bool false,.bool false,.slc 9985 0 1 1 1],.slc 10499 0 8 8 1],h:=[(10499,.cells false (b8 [50,50,48,32,109,120,13,10])),(9985,.cells false [i 0]),(10004,.cells false [.str [97,64,121],i 7])],v:=.tup [.agg [.str [99,108,105,101,110,116],.str [115,64,120],.slc 12078 0 1 1 2,.str [55],.slz,.slz,.bool false,.slc 13766 0 0 0 1,i 1,.bool false,.bool false,.slc 12106 0 1 1 1],.slc 13707 0 14 14 1,.agg [i 0,i 0]],h':=[(13707,.cells false (b8 [104,101,108,108,111,32,99,108,105,101,110,116,13,10])),(12106,.cells false [i 0]),(13766,.cells false []),(12078,.cells false [.str [97,64,121],i 7]),(10499,.cells false (b8 [50,50,48,32,109,120,13,10])),(9985,.cells false [i 0]),(10004,.cells false [.str [97,64,121],i 7])],nx':=13790 }
theorem pinOK3 : PinOK Tryz.prog pin3:=⟨(callM Tryz.prog GM id 60).1,okM 60,by kernel_rfl⟩
def pin4 : Pin:={ g:=169,nx:=13908,args:=[.agg [.str [109,120],i 12000,i 60,i 0,.bool false,.bool false,.str [],.slz,.slz,.slz,i 0,i 0,.bool false,i 0,.bool false,.bool false,i 0],.slc 13811 0 14 14 1],h:=[(13811,.cells false (b8 [104,101,108,108,111,32,99,108,105,101,110,116,13,10]))],v:=.tup [.agg [.str [109,120],i 12000,i 60,i 0,.bool true,.bool false,.str [],.slz,.slz,.slz,i 0,i 0,.bool false,i 0,.bool false,.bool false,i 0],.slc 17143 0 1 1 2,.slz,.agg [i 0,i 0]],h':=[(17132,.cells false [.str [109,120],.str [115,105,122,101,32,49,50,48,48,48],.str [114,101,99,105,112,105,101,110,116,115,32,54,48]]),(17143,.cells false [i 250,.slc 17132 0 3 3 1]),(13811,.cells false (b8 [104,101,108,108,111,32,99,108,105,101,110,116,13,10]))],nx':=17170 }
theorem pinOK4 : PinOK Tryz.prog pin4:=⟨(callM Tryz.prog GM id 60).1,okM 60,by kernel_rfl⟩
end Go.Proofs.YtijdnecnjenleaaGreatDoor


namespace Go.Proofs.YtijdnecnjenleaaGreatDoor
open Go.Ev Go.Mi
def pin5 : Pin:={ g:=168,nx:=18202,args:=[.agg [.str [99,108,105,101,110,116],.str [115,64,120],.slc 12078 0 1 1 2,.str [55],.slz,.slz,.bool false,.slc 13766 0 0 0 1,i 1,.bool false,.bool false,.slc 12106 0 1 1 1],.slc 18101 0 43 43 1],h:=[(18101,.cells false (b8 [50,53,48,45,109,120,13,10,50,53,48,45,115,105,122,101,32,49,50,48,48,48,13,10,50,53,48,32,114,101,99,105,112,105,101,110,116,115,32,54,48,13,10])),(12106,.cells false [i 0]),(13766,.cells false []),(12078,.cells false [.str [97,64,121],i 7])],v:=.tup [.agg [.str [99,108,105,101,110,116],.str [115,64,120],.slc 19684 0 1 1 2,.str [55],.slz,.slz,.bool false,.slc 24916 0 0 0 1,i 2,.bool false,.bool false,.slc 19712 0 1 1 1],.slc 24857 0 19 19 1,.agg [i 0,i 0]],h':=[(24857,.cells false (b8 [109,97,105,108,32,60,115,64,120,62,32,115,105,122,101,61,50,13,10])),(19712,.cells false [i 0]),(24916,.cells false []),(19684,.cells false [.str [97,64,121],i 7]),(18101,.cells false (b8 [50,53,48,45,109,120,13,10,50,53,48,45,115,105,122,101,32,49,50,48,48,48,13,10,50,53,48,32,114,101,99,105,112,105,101,110,116,115,32,54,48,13,10])),(13766,.cells false []),(12106,.cells false [i 0]),(12078,.cells false [.str [97,64,121],i 7])],nx':=24940 }
theorem pinOK5 : PinOK Tryz.prog pin5:=⟨(callM Tryz.prog GM id 60).1,okM 60,by kernel_rfl⟩
def pin6 : Pin:={ g:=169,nx:=25058,args:=[.agg [.str [109,120],i 12000,i 60,i 0,.bool true,.bool false,.str [],.slz,.slz,.slz,i 0,i 0,.bool false,i 0,.bool false,.bool false,i 0],.slc 24961 0 19 19 1],h:=[(24961,.cells false (b8 [109,97,105,108,32,60,115,64,120,62,32,115,105,122,101,61,50,13,10]))],v:=.tup [.agg [.str [109,120],i 12000,i 60,i 0,.bool true,.bool true,.str [115,64,120],.slz,.slz,.slz,i 0,i 0,.bool false,i 0,.bool false,.bool false,i 0],.slc 29028 0 1 1 2,.slz,.agg [i 0,i 0]],h':=[(29017,.cells false [.str [111,107]]),(29028,.cells false [i 250,.slc 29017 0 1 1 1]),(24961,.cells false (b8 [109,97,105,108,32,60,115,64,120,62,32,115,105,122,101,61,50,13,10]))],nx':=29055 }
theorem pinOK6 : PinOK Tryz.prog pin6:=⟨(callM Tryz.prog GM id 60).1,okM 60,by kernel_rfl⟩
def pin7 : Pin:={ g:=168,nx:=29407,args:=[.agg [.str [99,108,105,101,110,116],.str [115,64,120],.slc 19684 0 1 1 2,.str [55],.slz,.slz,.bool false,.slc 24916 0 0 0 1,i 2,.bool false,.bool false,.slc 19712 0 1 1 1],.slc 29306 0 8 8 1],h:=[(29306,.cells false (b8 [50,53,48,32,111,107,13,10])),(19712,.cells false [i 0]),(24916,.cells false []),(19684,.cells false [.str [97,64,121],i 7])],v:=.tup [.agg [.str [99,108,105,101,110,116],.str [115,64,120],.slc 30889 0 1 1 2,.str [55],.slz,.slz,.bool false,.slc 32626 0 0 0 1,i 3,.bool false,.bool false,.slc 30917 0 1 1 1],.slc 32567 0 41 41 1,.agg [i 0,i 0]],h':=[(32567,.cells false (b8 [114,99,112,116,32,60,97,64,121,62,32,110,111,116,105,102,121,61,102,97,105,108,117,114,101,44,100,101,108,97,121,44,115,117,99,99,101,115,115,13,10])),(30917,.cells false [i 0]),(32626,.cells false []),(30889,.cells false [.str [97,64,121],i 7]),(29306,.cells false (b8 [50,53,48,32,111,107,13,10])),(24916,.cells false []),(19712,.cells false [i 0]),(19684,.cells false [.str [97,64,121],i 7])],nx':=32650 }
theorem pinOK7 : PinOK Tryz.prog pin7:=⟨(callM Tryz.prog GM id 60).1,okM 60,by kernel_rfl⟩
def pin8 : Pin:={ g:=169,nx:=32768,args:=[.agg [.str [109,120],i 12000,i 60,i 0,.bool true,.bool true,.str [115,64,120],.slz,.slz,.slz,i 0,i 0,.bool false,i 0,.bool false,.bool false,i 0],.slc 32671 0 41 41 1],h:=[(32671,.cells false (b8 [114,99,112,116,32,60,97,64,121,62,32,110,111,116,105,102,121,61,102,97,105,108,117,114,101,44,100,101,108,97,121,44,115,117,99,99,101,115,115,13,10]))],v:=.tup [.agg [.str [109,120],i 12000,i 60,i 0,.bool true,.bool true,.str [115,64,120],.slc 40245 0 1 1 2,.slz,.slz,i 0,i 0,.bool false,i 0,.bool false,.bool false,i 0],.slc 40298 0 1 1 2,.slz,.agg [i 0,i 0]],h':=[(40287,.cells false [.str [111,107]]),(40298,.cells false [i 250,.slc 40287 0 1 1 1]),(40245,.cells false [.str [97,64,121],i 7]),(32671,.cells false (b8 [114,99,112,116,32,60,97,64,121,62,32,110,111,116,105,102,121,61,102,97,105,108,117,114,101,44,100,101,108,97,121,44,115,117,99,99,101,115,115,13,10]))],nx':=40325 }
theorem pinOK8 : PinOK Tryz.prog pin8:=⟨(callM Tryz.prog GM id 60).1,okM 60,by kernel_rfl⟩
def pin9 : Pin:={ g:=168,nx:=40677,args:=[.agg [.str [99,108,105,101,110,116],.str [115,64,120],.slc 30889 0 1 1 2,.str [55],.slz,.slz,.bool false,.slc 32626 0 0 0 1,i 3,.bool false,.bool false,.slc 30917 0 1 1 1],.slc 40576 0 8 8 1],h:=[(40576,.cells false (b8 [50,53,48,32,111,107,13,10])),(30917,.cells false [i 0]),(32626,.cells false []),(30889,.cells false [.str [97,64,121],i 7])],v:=.tup [.agg [.str [99,108,105,101,110,116],.str [115,64,120],.slc 42159 0 1 1 2,.str [55],.slz,.slz,.bool false,.slc 43601 0 0 0 1,i 4,.bool false,.bool false,.slc 42187 0 1 1 1],.slc 43542 0 6 6 1,.agg [i 0,i 0]],h':=[(43542,.cells false (b8 [100,97,116,97,13,10])),(42187,.cells false [i 0]),(43601,.cells false []),(42159,.cells false [.str [97,64,121],i 7]),(40576,.cells false (b8 [50,53,48,32,111,107,13,10])),(32626,.cells false []),(30917,.cells false [i 0]),(30889,.cells false [.str [97,64,121],i 7])],nx':=43625 }
theorem pinOK9 : PinOK Tryz.prog pin9:=⟨(callM Tryz.prog GM id 60).1,okM 60,by kernel_rfl⟩
end Go.Proofs.YtijdnecnjenleaaGreatDoor


namespace Go.Proofs.YtijdnecnjenleaaGreatDoor
open Go.Ev Go.Mi
def pin10 : Pin:={ g:=169,nx:=43743,args:=[.agg [.str [109,120],i 12000,i 60,i 0,.bool true,.bool true,.str [115,64,120],.slc 40245 0 1 1 2,.slz,.slz,i 0,i 0,.bool false,i 0,.bool false,.bool false,i 0],.slc 43646 0 6 6 1],h:=[(43646,.cells false (b8 [100,97,116,97,13,10])),(40245,.cells false [.str [97,64,121],i 7])],v:=.tup [.agg [.str [109,120],i 12000,i 60,i 1,.bool true,.bool true,.str [115,64,120],.slc 44684 0 1 1 2,.slz,.slz,i 0,i 0,.bool false,i 0,.bool false,.bool false,i 0],.slc 46239 0 1 1 2,.slz,.agg [i 0,i 0]],h':=[(46228,.cells false [.str [103,111,32,111,110]]),(46239,.cells false [i 354,.slc 46228 0 1 1 1]),(44684,.cells false [.str [97,64,121],i 7]),(40245,.cells false [.str [97,64,121],i 7]),(43646,.cells false (b8 [100,97,116,97,13,10]))],nx':=46266 }
theorem pinOK10 : PinOK Tryz.prog pin10:=⟨(callM Tryz.prog GM id 60).1,okM 60,by kernel_rfl⟩
def pin11 : Pin:={ g:=168,nx:=46717,args:=[.agg [.str [99,108,105,101,110,116],.str [115,64,120],.slc 42159 0 1 1 2,.str [55],.slz,.slz,.bool false,.slc 43601 0 0 0 1,i 4,.bool false,.bool false,.slc 42187 0 1 1 1],.slc 46616 0 11 11 1],h:=[(46616,.cells false (b8 [51,53,52,32,103,111,32,111,110,13,10])),(42187,.cells false [i 0]),(43601,.cells false []),(42159,.cells false [.str [97,64,121],i 7])],v:=.tup [.agg [.str [99,108,105,101,110,116],.str [115,64,120],.slc 48199 0 1 1 2,.str [55],.slz,.slz,.bool false,.slc 49667 0 0 0 1,i 5,.bool true,.bool false,.slc 48227 0 1 1 1],.slc 49606 0 5 5 1,.agg [i 0,i 0]],h':=[(49606,.cells false (b8 [13,10,46,13,10])),(48227,.cells false [i 0]),(49667,.cells false []),(48199,.cells false [.str [97,64,121],i 7]),(46616,.cells false (b8 [51,53,52,32,103,111,32,111,110,13,10])),(43601,.cells false []),(42187,.cells false [i 0]),(42159,.cells false [.str [97,64,121],i 7])],nx':=49691 }
theorem pinOK11 : PinOK Tryz.prog pin11:=⟨(callM Tryz.prog GM id 60).1,okM 60,by kernel_rfl⟩
def pin12 : Pin:={ g:=169,nx:=49809,args:=[.agg [.str [109,120],i 12000,i 60,i 1,.bool true,.bool true,.str [115,64,120],.slc 44684 0 1 1 2,.slz,.slz,i 0,i 0,.bool false,i 0,.bool false,.bool false,i 0],.slc 49712 0 5 5 1],h:=[(49712,.cells false (b8 [13,10,46,13,10])),(44684,.cells false [.str [97,64,121],i 7])],v:=.tup [.agg [.str [109,120],i 12000,i 60,i 0,.bool true,.bool false,.str [],.slz,.slz,.slz,i 0,i 0,.bool false,i 0,.bool false,.bool false,i 1],.slc 51467 0 1 1 2,.slc 51443 0 1 1 5,.agg [i 0,i 0]],h':=[(51452,.cells false [.str [97,64,121],i 7]),(51443,.cells false [.str [115,64,120],.slc 51452 0 1 1 2,.str [109,120,45,49],.slz,.slz]),(51456,.cells false [.str [109,120,45,49]]),(51467,.cells false [i 250,.slc 51456 0 1 1 1]),(44684,.cells false [.str [97,64,121],i 7]),(49712,.cells false (b8 [13,10,46,13,10]))],nx':=51526 }
theorem pinOK12 : PinOK Tryz.prog pin12:=⟨(callM Tryz.prog GM id 60).1,okM 60,by kernel_rfl⟩
def pin13 : Pin:={ g:=168,nx:=51944,args:=[.agg [.str [99,108,105,101,110,116],.str [115,64,120],.slc 48199 0 1 1 2,.str [55],.slz,.slz,.bool false,.slc 49667 0 0 0 1,i 5,.bool true,.bool false,.slc 48227 0 1 1 1],.slc 51843 0 10 10 1],h:=[(51843,.cells false (b8 [50,53,48,32,109,120,45,49,13,10])),(48227,.cells false [i 0]),(49667,.cells false []),(48199,.cells false [.str [97,64,121],i 7])],v:=.tup [.agg [.str [99,108,105,101,110,116],.str [115,64,120],.slc 53426 0 1 1 2,.str [55],.slz,.slz,.bool false,.slz,i 5,.bool true,.bool true,.slc 53454 0 1 1 1],.slc 54849 0 6 6 1,.agg [i 0,i 0]],h':=[(54849,.cells false (b8 [113,117,105,116,13,10])),(53454,.cells false [i 1]),(53426,.cells false [.str [97,64,121],i 7]),(51843,.cells false (b8 [50,53,48,32,109,120,45,49,13,10])),(49667,.cells false []),(48227,.cells false [i 0]),(48199,.cells false [.str [97,64,121],i 7])],nx':=54912 }
theorem pinOK13 : PinOK Tryz.prog pin13:=⟨(callM Tryz.prog GM id 60).1,okM 60,by kernel_rfl⟩
def pin14 : Pin:={ g:=169,nx:=55030,args:=[.agg [.str [109,120],i 12000,i 60,i 0,.bool true,.bool false,.str [],.slz,.slz,.slz,i 0,i 0,.bool false,i 0,.bool false,.bool false,i 1],.slc 54933 0 6 6 1],h:=[(54933,.cells false (b8 [113,117,105,116,13,10]))],v:=.tup [.agg [.str [109,120],i 12000,i 60,i 3,.bool true,.bool false,.str [],.slz,.slz,.slz,i 0,i 0,.bool false,i 0,.bool false,.bool false,i 1],.slc 56953 0 1 1 2,.slz,.agg [i 0,i 0]],h':=[(56942,.cells false [.str [98,121,101]]),(56953,.cells false [i 221,.slc 56942 0 1 1 1]),(54933,.cells false (b8 [113,117,105,116,13,10]))],nx':=57024 }
theorem pinOK14 : PinOK Tryz.prog pin14:=⟨(callM Tryz.prog GM id 60).1,okM 60,by kernel_rfl⟩
end Go.Proofs.YtijdnecnjenleaaGreatDoor


namespace Go.Proofs.YtijdnecnjenleaaGreatDoor
open Go.Ev Go.Mi
def pin15 : Pin:={ g:=168,nx:=57409,args:=[.agg [.str [99,108,105,101,110,116],.str [115,64,120],.slc 53426 0 1 1 2,.str [55],.slz,.slz,.bool false,.slz,i 5,.bool true,.bool true,.slc 53454 0 1 1 1],.slc 57308 0 9 9 1],h:=[(57308,.cells false (b8 [50,50,49,32,98,121,101,13,10])),(53454,.cells false [i 1]),(53426,.cells false [.str [97,64,121],i 7])],v:=.tup [.agg [.str [99,108,105,101,110,116],.str [115,64,120],.slc 58668 0 1 1 2,.str [55],.slz,.slz,.bool false,.slz,i 5,.bool true,.bool true,.slc 58696 0 1 1 1],.slz,.agg [i 0,i 0]],h':=[(58696,.cells false [i 1]),(58668,.cells false [.str [97,64,121],i 7]),(57308,.cells false (b8 [50,50,49,32,98,121,101,13,10])),(53454,.cells false [i 1]),(53426,.cells false [.str [97,64,121],i 7])],nx':=59016 }
theorem pinOK15 : PinOK Tryz.prog pin15:=⟨(callM Tryz.prog GM id 60).1,okM 60,by kernel_rfl⟩
def pin16 : Pin:={ g:=67,nx:=59122,args:=[.slc 4996 0 95 95 1,.agg [i 2,i 0,.str [],.slz,.str [],.slz,.slz,i 0,.str [121],.slc 6772 0 1 1 1,.slc 58696 0 1 1 1]],h:=[(58696,.cells false [i 1]),(6772,.cells false [i 0]),(4996,.cells false (b8 [79,0,0,0,0,0,0,0,1,0,0,0,0,0,0,0,0,0,0,0,0,0,0,0,3,0,0,0,0,0,0,0,115,64,120,1,0,0,0,0,0,0,0,3,0,0,0,0,0,0,0,97,64,121,7,0,0,0,0,0,0,0,1,0,0,0,0,0,0,0,55,0,0,0,0,0,0,0,0,0,0,0,0,0,0,0,0,25,65,130,53,209,47,17,28]))],v:=.tup [.slc 62125 0 176 176 1,.agg [i 0,i 0]],h':=[(62125,.cells false (b8 [79,0,0,0,0,0,0,0,1,0,0,0,0,0,0,0,0,0,0,0,0,0,0,0,3,0,0,0,0,0,0,0,115,64,120,1,0,0,0,0,0,0,0,3,0,0,0,0,0,0,0,97,64,121,7,0,0,0,0,0,0,0,1,0,0,0,0,0,0,0,55,0,0,0,0,0,0,0,0,0,0,0,0,0,0,0,0,25,65,130,53,209,47,17,28,65,0,0,0,0,0,0,0,2,0,0,0,0,0,0,0,0,0,0,0,0,0,0,0,0,0,0,0,0,0,0,0,1,0,0,0,0,0,0,0,121,1,0,0,0,0,0,0,0,0,0,0,0,0,0,0,0,1,0,0,0,0,0,0,0,1,0,0,0,0,0,0,0,108,233,31,166,126,182,143,3])),(4996,.cells false (b8 [79,0,0,0,0,0,0,0,1,0,0,0,0,0,0,0,0,0,0,0,0,0,0,0,3,0,0,0,0,0,0,0,115,64,120,1,0,0,0,0,0,0,0,3,0,0,0,0,0,0,0,97,64,121,7,0,0,0,0,0,0,0,1,0,0,0,0,0,0,0,55,0,0,0,0,0,0,0,0,0,0,0,0,0,0,0,0,25,65,130,53,209,47,17,28])),(58696,.cells false [i 1]),(6772,.cells false [i 0])],nx':=62168 }
theorem pinOK16 : PinOK Tryz.prog pin16:=⟨(callM Tryz.prog GM id 60).1,okM 60,by kernel_rfl⟩
def pin17 : Pin:={ g:=11,nx:=62196,args:=[.agg [.slc 8710 0 1 1 10,i 1],.agg [i 0,.str [121],.slc 6772 0 1 1 1],.slc 58696 0 1 1 1,i 0],h:=[(58696,.cells false [i 1]),(6772,.cells false [i 0]),(8784,.cells false [.str [97,64,121],i 7,i 0,.bool true]),(8756,.cells false [.str [97,64,121],i 7]),(8710,.cells false [i 0,.str [115,64,120],.slc 8756 0 1 1 2,.str [55],.slz,.slz,i 0,i 0,i 0,.slc 8784 0 1 1 4])],v:=.tup [.agg [.slc 63640 0 0 1 10,i 1],.slc 63829 0 1 1 3,.agg [i 0,i 0]],h':=[(63829,.cells false [i 0,i 0,i 1]),(63640,.cells false [i 0,.str [],.slz,.str [],.slz,.slz,i 0,i 0,i 0,.slz]),(58696,.cells false [i 1]),(8784,.cells false [.str [97,64,121],i 7,i 0,.bool true]),(8756,.cells false [.str [97,64,121],i 7]),(8710,.cells false [i 0,.str [115,64,120],.slc 8756 0 1 1 2,.str [55],.slz,.slz,i 0,i 0,i 0,.slc 8784 0 1 1 4]),(6772,.cells false [i 0])],nx':=63953 }
theorem pinOK17 : PinOK Tryz.prog pin17:=⟨(callM Tryz.prog GM id 60).1,okM 60,by kernel_rfl⟩
end Go.Proofs.YtijdnecnjenleaaGreatDoor


namespace Go.Proofs.YtijdnecnjenleaaGreatDoor
open Go.Ev Go.Mi
def pins : List Pin:=[pin0,pin1,pin2,pin3,pin4,pin5,pin6,pin7,pin8,pin9,pin10,pin11,pin12,pin13,pin14,pin15,pin16,pin17]
theorem pinsOK : ∀ p ∈ pins,PinOK Tryz.prog p:=by
 intro p hp
 simp only [pins,List.mem_cons,List.not_mem_nil,or_false] at hp
 rcases hp with rfl | rfl | rfl | rfl | rfl | rfl | rfl | rfl | rfl | rfl | rfl | rfl | rfl | rfl | rfl | rfl | rfl | rfl
 ·exact pinOK0
 ·exact pinOK1
 ·exact pinOK2
 ·exact pinOK3
 ·exact pinOK4
 ·exact pinOK5
 ·exact pinOK6
 ·exact pinOK7
 ·exact pinOK8
 ·exact pinOK9
 ·exact pinOK10
 ·exact pinOK11
 ·exact pinOK12
 ·exact pinOK13
 ·exact pinOK14
 ·exact pinOK15
 ·exact pinOK16
 ·exact pinOK17
noncomputable def callK : Go.Mi.CallT:=(callM Tryz.prog GM (pinM pins) 60).1
theorem okK : COK Tryz.prog callK:=(callM_sound gm.pure (fun _ hC=>drawM gm.pure (fun g F h=>gm.snat g F h) hmix hC) (fun _ hC=>pinM_sound pinsOK hC) 60).1
theorem runK : callK (MV × List (Nat × LObj) × Nat) 5 [] [] 0 (fun v h n=>some (v,h,n)) = some (.bool true,[],64022):=by kernel_rfl
def F5 : List AV → Tr AV
 | []=>.leaf (.bool true)
 | _=>.no
theorem ok5 : SumOK Tryz.prog 5 (ofT F5) ∧ SNat (ofT F5):=by
 refine ⟨sumOK_closed okK runK fun ρ avs k r h=>?_,snat_ofT F5⟩
 change (F5 avs).run k = some r at h
 unfold F5 at h
 split at h
 ·exact ⟨fun w S vs hv=>⟨fun _=>none,by rw [hv.inv_nil];exact MRels.nil,rfl⟩,h⟩
 ·cases h
end Go.Proofs.YtijdnecnjenleaaGreatDoor


namespace Go.Proofs.YtijdnecnjenleaaGreatDoor
open Go.Ev
noncomputable def G4 : Env:={ pure:=[(5,ofT F5),(14,ofT F14),(15,ofT F15),(16,ofT F16),(17,ofT F17),(18,ofT F18),(19,ofT F19)] }
theorem g4 : GOK Tryz.prog G4:=GOK.also (GOK.also (GOK.also (GOK.also (GOK.also (GOK.also (GOK.also gE ok19) ok18) ok17) ok16) ok15) ok14) ok5
noncomputable def b6 : Code:=((Tryz.f4.body.map loopsOf).getD []).headD .skip
noncomputable def b21 : Code:=(((Tryz.f4.body.map loopsOf).getD []).tail.tail).headD .skip
noncomputable def b12 : Code:=(loopsOf b6).headD .skip
theorem room65b {n : Nat} (h : n ≤ 1000000000) : roomB n (Tryz.prog.bytesOf 65) = true:=by
 have h9 : Tryz.prog.bytesOf 65 = 24:=by kernel_rfl
 rw [h9]
 unfold roomB
 have h1 : n * 24 ≤ 140737488355328:=by omega
 have h2 : n ≤ 4611686018427387904:=by omega
 rw [decide_eq_true h1,decide_eq_true h2]
 rfl
def L12 : List AV → List (Option Row) → Tr LOut
 | [.slv (.agg [.str,.slice .str,.bool]) fs,.slv .str es,.own 9999,.int .i64 i,.slv .str ts,.int .i64 k],[some (.arr false (.agg [.str,.int .i64]) e out none)] =>
  .gd (cnt ts.length k ts.length && decide (e = 65 ∧ out.length + (ts.length - k.toNat) ≤ 100000000)) (.leaf (.exit 2,[.slv sF fs,.slv .str es,.own 9999,.int .i64 i,.slv .str ts,.int .i64 ts.length],[some (.arr false sR e (out ++ (ts.drop k.toNat).map rcE) none)]))
 | _,_=>.no
def l12 : Ev.Loop:=⟨{ len:=141,slots:=[1,7,9,10,11,13],rows:=[9999],homes:=[(9,9999,65)] },ofL L12⟩
def μ12 (vs : List AV) (_ : List (Option Row)) : Nat:=match vs with
 | [_,_,_,_,.slv _ ts,.int _ k]=>((ts.length : Int) - k).toNat
 | _=>0
theorem loop12 (K : List (Nat × Ev.Loop)) : LoopOK Tryz.prog G4 ((12,l12) :: K) b12 l12:=by
 refine loopT g4.natOK rfl (KOK.nil (by kernel_rfl)) μ12 (fun ρ vs rs k r h=>?_)
 unfold L12 at h
 split at h
 ·rename_i fs es i ts k' e out
  obtain ⟨hc,hk⟩:=gd_some h
  simp only [Bool.and_eq_true] at hc
  obtain ⟨hc,hb⟩:=hc
  obtain ⟨rfl,ho⟩:=of_decide_eq_true hb
  obtain ⟨_,hs,j,rfl,hj⟩:=cnt_spec hc
  rw [Int.toNat_natCast] at hk ho
  refine Eq.trans (b:=bif decide ((↑j : Int) < (↑ts.length : Int)) then bif inb (↑j : Int) ts.length then bif roomB (out.length + [AV.agg [AV.str (pS (ts.getD j AV.unk)),AV.int .i64 1]].length) (Tryz.prog.bytesOf 65) then bif decide (((↑ts.length : Int) - IntKind.i64.wrap ((↑j : Int) + (1 : Int))).toNat < ((↑ts.length : Int) - (↑j : Int)).toNat) then bif cnt (↑ts.length : Int) (IntKind.i64.wrap ((↑j : Int) + (1 : Int))) ts.length && decide ((65 : Nat) = (65 : TypeId) ∧ (out ++ [AV.agg [AV.str (pS (ts.getD j AV.unk)),AV.int .i64 1]]).length + (ts.length - (IntKind.i64.wrap ((↑j : Int) + (1 : Int))).toNat) ≤ (100000000 : Nat)) then k (Ex.exit (2 : Nat)) [AV.slv (Sh.agg [Sh.str,Sh.str.slice,Sh.bool]) fs,AV.slv Sh.str es,AV.own 9999,AV.int .i64 i,AV.slv Sh.str ts,AV.int .i64 (↑ts.length : Int)] [some (Row.arr false (Sh.agg [Sh.str,Sh.int IntKind.i64]) 65 (out ++ [AV.agg [AV.str (pS (ts.getD j AV.unk)),AV.int .i64 1]] ++ List.map rcE (List.drop (IntKind.i64.wrap ((↑j : Int) + (1 : Int))).toNat ts)) none)] else none else none else none else none else k (Ex.exit (2 : Nat)) [AV.slv (Sh.agg [Sh.str,Sh.str.slice,Sh.bool]) fs,AV.slv Sh.str es,AV.own 9999,AV.int .i64 i,AV.slv Sh.str ts,AV.int .i64 (↑j : Int)] [some (Row.arr false (Sh.agg [Sh.str,Sh.int IntKind.i64]) 65 out none)]) (by kernel_rfl) ?_
  rw [← hk]
  by_cases hlt : j < ts.length
  ·obtain ⟨e1,e2,e3,e4,e5⟩:=cnt_facts hlt hs
   have e6 : ∀ x : AV,roomB (out.length + ([x] : List AV).length) (Tryz.prog.bytesOf 65) = true:=fun x=>room65b (by rw [List.length_singleton];omega)
   have e7 : ∀ x : AV,decide (True ∧ (out ++ [x]).length + (ts.length - (j + 1)) ≤ 100000000) = true:=fun x=>decide_eq_true ⟨trivial,by rw [List.length_append,List.length_singleton];omega⟩
   have e8 : out ++ (ts.drop j).map rcE = out ++ [rcE (ts.getD j .unk)] ++ (ts.drop (j + 1)).map rcE:=by
    rw [List.drop_eq_getElem_cons hlt,List.map_cons,List.getD,List.getElem?_eq_getElem hlt,List.append_assoc]
    rfl
   rw [e8]
   simp only [e1,e2,e3,e4,e5,e6,e7,cond_true,Int.toNat_natCast,Bool.and_self]
   rfl
  ·obtain rfl : j = ts.length:=by omega
   rw [decide_eq_false (by omega),List.drop_length,List.map_nil,List.append_nil]
   rfl
 ·cases h
def allE (fs es : List AV) : List AV:=es.flatMap fun x=>(trR fs (pS x)).map rcE
def adE (e : AV) : Bool:=smallS (pS e).length && adB (pS e)
def vF (fs : List AV) : Bool:=small fs.length && (wtF fs.length && (fs.all aOK && vcF fs == 0))
theorem trR_spec {fs : List AV} (a : List UInt8) (h : vcF fs = 0) : ∃ U,Inv (tabE (fs.map alE)) U (ms1 a) (q1 a) ∧ U = univ (fs.map alE) a:=by
 obtain ⟨g1,g2⟩:=vd_good (es:=fs.map alE) h
 exact ⟨_,inv_start a g1 (List.all_eq_true.2 fun e he=>(g2 e he).2.1),rfl⟩
theorem trR_len {fs : List AV} (a : List UInt8) (h : vcF fs = 0) : (trR fs a).length ≤ 5000:=by
 obtain ⟨U,hU,_⟩:=trR_spec a h
 obtain ⟨l,e1,_,e3,_⟩:=run_spec (kp1 fs) (mu (ms1 a) (q1 a)) (ms1 a) (q1 a) [] (Nat.le_refl _) hU
 unfold trR
 rw [e1,List.nil_append]
 exact Nat.le_trans e3 (by show (5000 - 1) + 1 ≤ 5000;omega)
def L6 : List AV → List (Option Row) → Tr LOut
 | [.slv (.agg [.str,.slice .str,.bool]) fs,.slv .str es,.own 9999,.int .i64 i],[some (.arr false (.agg [.str,.int .i64]) e out none)] =>
  .gd (cnt es.length i es.length && (vF fs && (es.all adE && decide (e = 65 ∧ es.length ≤ 5000 ∧ out.length ≤ i.toNat * 5000)))) (.leaf (.exit 0,[.slv sF fs,.slv .str es,.own 9999,.int .i64 es.length],[some (.arr false sR e (out ++ allE fs (es.drop i.toNat)) none)]))
 | _,_=>.no
def l6 : Ev.Loop:=⟨{ len:=141,slots:=[1,7,9,10],rows:=[9999],homes:=[(9,9999,65)] },ofL L6⟩
def μ6 (vs : List AV) (_ : List (Option Row)) : Nat:=match vs with
 | [_,.slv _ es,_,.int _ i]=>((es.length : Int) - i).toNat
 | _=>0
theorem loop6 (K : List (Nat × Ev.Loop)) : LoopOK Tryz.prog G4 ((12,l12) :: K) b6 l6:=by
 refine loopT g4.natOK rfl (KOK.one (b:=b12) (by kernel_rfl) (by kernel_rfl) (loop12 K)) μ6 (fun ρ vs rs k r h=>?_)
 unfold L6 at h
 split at h
 ·rename_i fs es i e out
  obtain ⟨hc,hk⟩:=gd_some h
  simp only [Bool.and_eq_true] at hc
  obtain ⟨hc,hv,had,hb⟩:=hc
  obtain ⟨rfl,hl,ho⟩:=of_decide_eq_true hb
  obtain ⟨_,hs,j,rfl,hj⟩:=cnt_spec hc
  rw [Int.toNat_natCast] at hk ho
  refine Eq.trans (b:=bif decide ((↑j : Int) < (↑es.length : Int)) then bif inb (↑j : Int) es.length then bif small fs.length && (wtF fs.length && (fs.all aOK && smallS (pS (es.getD j AV.unk)).length)) then bif vcF fs != 0 then bif vcF fs != 0 then k Ex.ret [AV.slv (Sh.agg [Sh.str,Sh.str.slice,Sh.bool]) fs,AV.slv Sh.str es,AV.own 9999,AV.int .i64 (↑j : Int)] [some (Row.arr false (Sh.agg [Sh.str,Sh.int IntKind.i64]) 65 out none)] else bif cnt (↑([] : List AV).length : Int) (0 : Int) ([] : List AV).length && decide ((65 : TypeId) = (65 : TypeId) ∧ out.length + (([] : List AV).length - Int.toNat (0 : Int)) ≤ (100000000 : Nat)) then bif decide (((↑es.length : Int) - IntKind.i64.wrap ((↑j : Int) + (1 : Int))).toNat < ((↑es.length : Int) - (↑j : Int)).toNat) then bif cnt (↑es.length : Int) (IntKind.i64.wrap ((↑j : Int) + (1 : Int))) es.length && (vF fs && (es.all adE && decide ((65 : TypeId) = (65 : TypeId) ∧ es.length ≤ (5000 : Nat) ∧ (out ++ []).length ≤ (IntKind.i64.wrap ((↑j : Int) + (1 : Int))).toNat * (5000 : Nat)))) then k (Ex.exit (0 : Nat)) [AV.slv (Sh.agg [Sh.str,Sh.str.slice,Sh.bool]) fs,AV.slv Sh.str es,AV.own 9999,AV.int .i64 (↑es.length : Int)] [some (Row.arr false (Sh.agg [Sh.str,Sh.int IntKind.i64]) 65 (out ++ [] ++ allE fs (List.drop (IntKind.i64.wrap ((↑j : Int) + (1 : Int))).toNat es)) none)] else none else none else none else bif !adB (pS (es.getD j AV.unk)) then k Ex.ret [AV.slv (Sh.agg [Sh.str,Sh.str.slice,Sh.bool]) fs,AV.slv Sh.str es,AV.own 9999,AV.int .i64 (↑j : Int)] [some (Row.arr false (Sh.agg [Sh.str,Sh.int IntKind.i64]) 65 out none)] else bif cnt (↑(trR fs (pS (es.getD j AV.unk))).length : Int) (0 : Int) (trR fs (pS (es.getD j AV.unk))).length && decide ((65 : TypeId) = (65 : TypeId) ∧ out.length + ((trR fs (pS (es.getD j AV.unk))).length - Int.toNat (0 : Int)) ≤ (100000000 : Nat)) then bif decide (((↑es.length : Int) - IntKind.i64.wrap ((↑j : Int) + (1 : Int))).toNat < ((↑es.length : Int) - (↑j : Int)).toNat) then bif cnt (↑es.length : Int) (IntKind.i64.wrap ((↑j : Int) + (1 : Int))) es.length && (vF fs && (es.all adE && decide ((65 : TypeId) = (65 : TypeId) ∧ es.length ≤ (5000 : Nat) ∧ (out ++ List.map rcE (List.drop (0 : Nat) (trR fs (pS (es.getD j AV.unk))))).length ≤ (IntKind.i64.wrap ((↑j : Int) + (1 : Int))).toNat * (5000 : Nat)))) then k (Ex.exit (0 : Nat)) [AV.slv (Sh.agg [Sh.str,Sh.str.slice,Sh.bool]) fs,AV.slv Sh.str es,AV.own 9999,AV.int .i64 (↑es.length : Int)] [some (Row.arr false (Sh.agg [Sh.str,Sh.int IntKind.i64]) 65 (out ++ List.map rcE (List.drop (0 : Nat) (trR fs (pS (es.getD j AV.unk)))) ++ allE fs (List.drop (IntKind.i64.wrap ((↑j : Int) + (1 : Int))).toNat es)) none)] else none else none else none else none else none else k (Ex.exit (0 : Nat)) [AV.slv (Sh.agg [Sh.str,Sh.str.slice,Sh.bool]) fs,AV.slv Sh.str es,AV.own 9999,AV.int .i64 (↑j : Int)] [some (Row.arr false (Sh.agg [Sh.str,Sh.int IntKind.i64]) 65 out none)]) (by kernel_rfl) ?_
  rw [← hk]
  have hv':=hv
  unfold vF at hv'
  simp only [Bool.and_eq_true,beq_iff_eq] at hv'
  obtain ⟨v1,v2,v3,v4⟩:=hv'
  by_cases hlt : j < es.length
  ·obtain ⟨e1,e2,e3,e4,e5⟩:=cnt_facts hlt hs
   have ha:=all_at had hlt
   unfold adE at ha
   rw [Bool.and_eq_true] at ha
   obtain ⟨a1,a2⟩:=ha
   have tl:=trR_len (pS (es.getD j .unk)) v4
   have e6 : (vcF fs != 0) = false:=by rw [v4];rfl
   have e7 : cnt ((trR fs (pS (es.getD j .unk))).length : Int) 0 (trR fs (pS (es.getD j .unk))).length = true:=cnt_zero (decide_eq_true (by omega))
   have e8 : decide (True ∧ out.length + ((trR fs (pS (es.getD j .unk))).length - Int.toNat 0) ≤ 100000000) = true:=decide_eq_true ⟨trivial,by
    have : j * 5000 ≤ 5000 * 5000:=Nat.mul_le_mul_right _ (by omega)
    omega⟩
   have e9 : decide (True ∧ es.length ≤ 5000 ∧ (out ++ (trR fs (pS (es.getD j .unk))).map rcE).length ≤ (j + 1) * 5000) = true:=decide_eq_true ⟨trivial,hl,by rw [List.length_append,List.length_map,Nat.add_mul];omega⟩
   have e10 : out ++ allE fs (es.drop j) = out ++ (trR fs (pS (es.getD j .unk))).map rcE ++ allE fs (es.drop (j + 1)):=by
    unfold allE
    rw [List.drop_eq_getElem_cons hlt,List.flatMap_cons,List.getD,List.getElem?_eq_getElem hlt,List.append_assoc]
    rfl
   rw [e10]
   simp only [e1,e2,e3,e4,e5,v1,v2,v3,a1,a2,e6,e7,e8,e9,List.drop_zero,hv,had,cond_true,cond_false,Bool.not_true,Int.toNat_natCast,Bool.and_self]
   rfl
  ·obtain rfl : j = es.length:=by omega
   rw [decide_eq_false (by omega),List.drop_length]
   show _ = k (.exit 0) [.slv sF fs,.slv .str es,.own 9999,.int .i64 es.length] [some (.arr false sR 65 (out ++ []) none)]
   rw [List.append_nil]
   rfl
 ·cases h
def chk (fs out ms : List AV) (i : Nat) : Bool:=!(fB (pS (ms.getD i .unk)) (ms.take i) 0).isSome && ((fB (pS (ms.getD i .unk)) out 0).isSome && (adE (ms.getD i .unk) && (fB (pS (ms.getD i .unk)) (trR fs (pS (ms.getD i .unk))) 0).isSome))
def L21 : List AV → List (Option Row) → Tr LOut
 | [.slv (.agg [.str,.slice .str,.bool]) fs,.own 9999,.slv (.agg [.str,.int .i64]) ms,.int .i64 i],[some (.arr true (.agg [.str,.int .i64]) e out none)] =>
  .gd (cnt ms.length i ms.length && (vF fs && (small out.length && (List.range ms.length).all (chk fs out ms)))) (.leaf (.exit 4,[.slv sF fs,.own 9999,.slv sR ms,.int .i64 ms.length],[some (.arr true sR e out none)]))
 | _,_=>.no
def l21 : Ev.Loop:=⟨{ len:=141,slots:=[1,9,14,16],rows:=[9999] },ofL L21⟩
def μ21 (vs : List AV) (_ : List (Option Row)) : Nat:=match vs with
 | [_,_,.slv _ ms,.int _ i]=>((ms.length : Int) - i).toNat
 | _=>0
theorem iZ_some {x : Option Nat} (h : x.isSome = true) : decide (iZ x < 0) = false ∧ decide (iZ x ≥ 0) = true:=by
 cases x with
 | none=>cases h
 | some n=>exact ⟨decide_eq_false (by show ¬ ((n : Int) < 0);omega),decide_eq_true (by show (n : Int) ≥ 0;omega)⟩
theorem iZ_none {x : Option Nat} (h : x.isSome = false) : decide (iZ x < 0) = true ∧ decide (iZ x ≥ 0) = false:=by
 cases x with
 | none=>exact ⟨rfl,rfl⟩
 | some n=>cases h
theorem loop21 (K : List (Nat × Ev.Loop)) : LoopOK Tryz.prog G4 K b21 l21:=by
 refine loopT g4.natOK rfl (KOK.nil (by kernel_rfl)) μ21 (fun ρ vs rs k r h=>?_)
 unfold L21 at h
 split at h
 ·rename_i fs ms i e out
  obtain ⟨hc,hk⟩:=gd_some h
  simp only [Bool.and_eq_true] at hc
  obtain ⟨hc,hv,ho,hall⟩:=hc
  obtain ⟨_,hs,j,rfl,hj⟩:=cnt_spec hc
  refine Eq.trans (b:=bif decide ((↑j : Int) < (↑ms.length : Int)) then bif slb (0 : Int) (↑j : Int) ms.length then bif inb (↑j : Int) ms.length then bif small (List.take (j - Int.toNat (0 : Int)) (List.drop (0 : Nat) ms)).length then bif decide (iZ (fB (pS (ms.getD j AV.unk)) (List.take (j - Int.toNat (0 : Int)) (List.drop (0 : Nat) ms)) (0 : Nat)) ≥ (0 : Int)) then k Ex.ret [AV.slv (Sh.agg [Sh.str,Sh.str.slice,Sh.bool]) fs,AV.own 9999,AV.slv (Sh.agg [Sh.str,Sh.int IntKind.i64]) ms,AV.int .i64 (↑j : Int)] [some (Row.arr true (Sh.agg [Sh.str,Sh.int IntKind.i64]) e out none)] else bif inb (↑j : Int) ms.length then bif small out.length then bif decide (iZ (fB (pS (ms.getD j AV.unk)) out (0 : Nat)) < (0 : Int)) then k Ex.ret [AV.slv (Sh.agg [Sh.str,Sh.str.slice,Sh.bool]) fs,AV.own 9999,AV.slv (Sh.agg [Sh.str,Sh.int IntKind.i64]) ms,AV.int .i64 (↑j : Int)] [some (Row.arr true (Sh.agg [Sh.str,Sh.int IntKind.i64]) e out none)] else bif inb (↑j : Int) ms.length then bif small fs.length && (wtF fs.length && (fs.all aOK && smallS (pS (ms.getD j AV.unk)).length)) then bif vcF fs != 0 then bif vcF fs != 0 then k Ex.ret [AV.slv (Sh.agg [Sh.str,Sh.str.slice,Sh.bool]) fs,AV.own 9999,AV.slv (Sh.agg [Sh.str,Sh.int IntKind.i64]) ms,AV.int .i64 (↑j : Int)] [some (Row.arr true (Sh.agg [Sh.str,Sh.int IntKind.i64]) e out none)] else bif inb (↑j : Int) ms.length then k Ex.ret [AV.slv (Sh.agg [Sh.str,Sh.str.slice,Sh.bool]) fs,AV.own 9999,AV.slv (Sh.agg [Sh.str,Sh.int IntKind.i64]) ms,AV.int .i64 (↑j : Int)] [some (Row.arr true (Sh.agg [Sh.str,Sh.int IntKind.i64]) e out none)] else none else bif !adB (pS (ms.getD j AV.unk)) then k Ex.ret [AV.slv (Sh.agg [Sh.str,Sh.str.slice,Sh.bool]) fs,AV.own 9999,AV.slv (Sh.agg [Sh.str,Sh.int IntKind.i64]) ms,AV.int .i64 (↑j : Int)] [some (Row.arr true (Sh.agg [Sh.str,Sh.int IntKind.i64]) e out none)] else bif inb (↑j : Int) ms.length then bif small (trR fs (pS (ms.getD j AV.unk))).length then bif !(fB (pS (ms.getD j AV.unk)) (trR fs (pS (ms.getD j AV.unk))) (0 : Nat)).isSome then k Ex.ret [AV.slv (Sh.agg [Sh.str,Sh.str.slice,Sh.bool]) fs,AV.own 9999,AV.slv (Sh.agg [Sh.str,Sh.int IntKind.i64]) ms,AV.int .i64 (↑j : Int)] [some (Row.arr true (Sh.agg [Sh.str,Sh.int IntKind.i64]) e out none)] else bif decide (((↑ms.length : Int) - IntKind.i64.wrap ((↑j : Int) + (1 : Int))).toNat < ((↑ms.length : Int) - (↑j : Int)).toNat) then bif cnt (↑ms.length : Int) (IntKind.i64.wrap ((↑j : Int) + (1 : Int))) ms.length && (vF fs && (small out.length && (List.range ms.length).all (chk fs out ms))) then k (Ex.exit (4 : Nat)) [AV.slv (Sh.agg [Sh.str,Sh.str.slice,Sh.bool]) fs,AV.own 9999,AV.slv (Sh.agg [Sh.str,Sh.int IntKind.i64]) ms,AV.int .i64 (↑ms.length : Int)] [some (Row.arr true (Sh.agg [Sh.str,Sh.int IntKind.i64]) e out none)] else none else none else none else none else none else none else none else none else none else none else none else k (Ex.exit (4 : Nat)) [AV.slv (Sh.agg [Sh.str,Sh.str.slice,Sh.bool]) fs,AV.own 9999,AV.slv (Sh.agg [Sh.str,Sh.int IntKind.i64]) ms,AV.int .i64 (↑j : Int)] [some (Row.arr true (Sh.agg [Sh.str,Sh.int IntKind.i64]) e out none)]) (by kernel_rfl) ?_
  rw [← hk]
  have hv':=hv
  unfold vF at hv'
  simp only [Bool.and_eq_true,beq_iff_eq] at hv'
  obtain ⟨v1,v2,v3,v4⟩:=hv'
  by_cases hlt : j < ms.length
  ·obtain ⟨e1,e2,e3,e4,e5⟩:=cnt_facts hlt hs
   have hch:=List.all_eq_true.1 hall j (List.mem_range.2 hlt)
   unfold chk adE at hch
   simp only [Bool.and_eq_true,Bool.not_eq_true'] at hch
   obtain ⟨c1,c2,⟨c3,c4⟩,c5⟩:=hch
   have tl:=trR_len (pS (ms.getD j .unk)) v4
   have o4 : slb 0 (j : Int) ms.length = true:=slb_true (by omega) (by omega) (by omega)
   have o5 : small (ms.take j).length = true:=decide_eq_true (by rw [List.length_take];omega)
   have e6 : (vcF fs != 0) = false:=by rw [v4];rfl
   have e7 : small (trR fs (pS (ms.getD j .unk))).length = true:=decide_eq_true (by omega)
   obtain ⟨f1,f2⟩:=iZ_none c1
   obtain ⟨f3,f4⟩:=iZ_some c2
   simp only [e1,e2,e3,e4,e5,v1,v2,v3,o4,e6,e7,c3,c4,c5,f3,ho,hv,hall,List.drop_zero,cond_true,cond_false,Bool.not_true,Bool.and_self]
   have o6 : small (List.take (j - Int.toNat 0) ms).length = true:=o5
   have o7 : decide (iZ (fB (pS (ms.getD j .unk)) (List.take (j - Int.toNat 0) ms) 0) ≥ 0) = false:=f2
   rw [o6,o7]
   rfl
  ·obtain rfl : j = ms.length:=by omega
   rw [decide_eq_false (by omega)]
   rfl
 ·cases h
end Go.Proofs.YtijdnecnjenleaaGreatDoor


namespace Go.Proofs.YtijdnecnjenleaaGreatDoor
open Go.Ev
theorem fB_some {d : List UInt8} {es : List AV} (h : ∃ x ∈ es,pS x = d) : (fB d es 0).isSome = true:=by
 obtain ⟨x,hx,hd⟩:=h
 cases hf : fB d es 0 with
 | some n=>rfl
 | none =>
  obtain ⟨i,hi,rfl⟩:=List.getElem_of_mem hx
  have h1:=findN_none hf i (Nat.zero_le _) hi
  rw [List.getD,List.getElem?_eq_getElem hi] at h1
  unfold isA at h1
  rw [show (some es[i]).getD AV.unk = es[i] from rfl,hd,beq_self_eq_true] at h1
  cases h1
theorem fB_none {d : List UInt8} {es : List AV} (h : ∀ x ∈ es,pS x ≠ d) : (fB d es 0).isSome = false:=by
 cases hf : fB d es 0 with
 | none=>rfl
 | some n =>
  obtain ⟨_,h2,h3,_⟩:=findN_some hf
  rw [List.getD,List.getElem?_eq_getElem h2] at h3
  exact absurd (eq_of_beq h3) (h _ (List.getElem_mem h2))
theorem univ_ad {es : List AV} {a : List UInt8} (h : vdC es = 0) (hes : es.all aOK = true) (ha : adB a = true) (hs : smallS a.length = true) : ∀ s ∈ univ es a,smallS s.length = true ∧ adB s = true:=by
 intro s hm
 rcases List.mem_cons.1 hm with rfl | hm
 ·exact ⟨hs,ha⟩
 ·obtain ⟨e,he,hm⟩:=List.mem_flatMap.1 hm
  obtain ⟨t,ht,rfl⟩:=List.mem_map.1 hm
  have h1:=List.all_eq_true.1 hes e he
  unfold aOK at h1
  simp only [Bool.and_eq_true] at h1
  exact ⟨List.all_eq_true.1 h1.2.2 t ht,((vd_good h).2 e he).2.2 t ht⟩
theorem exR_spec {es : List AV} {a : List UInt8} (h : vdC es = 0) (hes : es.all aOK = true) (ha : adB a = true) (hs : smallS a.length = true) : (exR es a).all adE = true ∧ (exR es a).length ≤ 5000:=by
 obtain ⟨g1,g2⟩:=vd_good h
 have hU:=inv_start a g1 (List.all_eq_true.2 fun e he=>(g2 e he).2.1)
 obtain ⟨l,e1,e2,e3,_⟩:=run_spec (kp0 (tabE es)) (mu (ms1 a) (q1 a)) (ms1 a) (q1 a) [] (Nat.le_refl _) hU
 unfold exR
 rw [e1,List.nil_append]
 refine ⟨List.all_eq_true.2 fun v hv=>?_,Nat.le_trans e3 (by show (5000 - 1) + 1 ≤ 5000;omega)⟩
 obtain ⟨s,rfl,_,hm⟩:=e2 v hv
 obtain ⟨h1,h2⟩:=univ_ad h hes ha hs s hm
 exact and_t h1 h2
theorem aOK_all {fs : List AV} (h : fs.all aOK = true) : (fs.map alE).all aOK = true:=aOK_map h
theorem trR_mem {fs : List AV} {a : List UInt8} (h : vcF fs = 0) (hfs : fs.all aOK = true) (ha : adB a = true) (hs : smallS a.length = true) : (∀ v ∈ trR fs a,∃ s,v = .str s ∧ kp1 fs s = true ∧ smallS s.length = true ∧ adB s = true) ∧ (kp1 fs a = true → .str a ∈ trR fs a):=by
 obtain ⟨U,hU,rfl⟩:=trR_spec a h
 obtain ⟨l,e1,e2,e3,e4⟩:=run_spec (kp1 fs) (mu (ms1 a) (q1 a)) (ms1 a) (q1 a) [] (Nat.le_refl _) hU
 unfold trR
 rw [e1,List.nil_append]
 refine ⟨fun v hv=>?_,fun hk=>?_⟩
 ·obtain ⟨s,rfl,hk,hm⟩:=e2 v hv
  obtain ⟨h1,h2⟩:=univ_ad h (aOK_all hfs) ha hs s hm
  exact ⟨s,rfl,hk,h1,h2⟩
 ·exact e4 (.str a) (List.mem_singleton.2 rfl) hk
theorem allE_mem {fs es : List AV} (h : vcF fs = 0) (hfs : fs.all aOK = true) (hes : es.all adE = true) : ∀ r ∈ allE fs es,∃ s,r = .agg [.str s,.int .i64 1] ∧ kp1 fs s = true ∧ smallS s.length = true ∧ adB s = true:=by
 intro r hr
 obtain ⟨x,hx,hr⟩:=List.mem_flatMap.1 hr
 obtain ⟨t,ht,rfl⟩:=List.mem_map.1 hr
 have hx2:=List.all_eq_true.1 hes x hx
 unfold adE at hx2
 rw [Bool.and_eq_true] at hx2
 obtain ⟨s,rfl,h1,h2,h3⟩:=(trR_mem h hfs hx2.2 hx2.1).1 t ht
 exact ⟨s,rfl,h1,h2,h3⟩
theorem allE_ok {fs es : List AV} (h : vcF fs = 0) (hfs : fs.all aOK = true) (hes : es.all adE = true) : (allE fs es).all okR = true:=List.all_eq_true.2 fun r hr=>by
 obtain ⟨s,rfl,_,h2,h3⟩:=allE_mem h hfs hes r hr
 exact and_t h2 (and_t h3 rfl)
structure Once (all out : List AV) : Prop where
 nodup : (out.map pS).Nodup
 sub : ∀ m ∈ out,∃ r ∈ all,pS r = pS m
theorem hasA_iff {a : List UInt8} {l : List AV} : hasA a l = true ↔ a ∈ l.map pS:=by
 unfold hasA
 rw [List.any_eq_true,List.mem_map]
 exact ⟨fun ⟨x,hx,he⟩=>⟨x,hx,eq_of_beq he⟩,fun ⟨x,hx,he⟩=>⟨x,hx,by rw [he];exact beq_self_eq_true _⟩⟩
theorem mrg_once {all out : List AV} {e : AV} (h : Once all out) (he : e ∈ all) : Once all (mrg out e):=by
 unfold mrg
 cases hh : hasA (pS e) out with
 | true=>exact h
 | false =>
  rw [cond_false]
  refine ⟨?_,fun m hm=>?_⟩
  ·rw [List.map_append,List.nodup_append]
   refine ⟨h.nodup,by simp,fun a ha b hb hab=>?_⟩
   have : b = pS e:=List.mem_singleton.1 hb
   subst this
   subst hab
   rw [hasA_iff.2 ha] at hh
   cases hh
  ·rcases List.mem_append.1 hm with hm | hm
   ·exact h.sub m hm
   ·have : m = rcE e:=List.mem_singleton.1 hm
    subst this
    exact ⟨e,he,rfl⟩
theorem fold_once {all : List AV} : ∀ (l out : List AV),(∀ e ∈ l,e ∈ all) → Once all out → Once all (l.foldl mrg out)
 | [],_,_,h=>h
 | e :: l,out,hl,h=>fold_once l (mrg out e) (fun x hx=>hl x (List.mem_cons_of_mem _ hx)) (mrg_once h (hl e List.mem_cons_self))
theorem mgR_once (all : List AV) : Once all (mgR all):=fold_once all [] (fun _ h=>h) ⟨List.nodup_nil,fun m hm=>by cases hm⟩
theorem mrg_len (l out : List AV) : (l.foldl mrg out).length ≤ out.length + l.length:=by
 induction l generalizing out with
 | nil=>exact Nat.le_refl _
 | cons e l ih =>
  have h1:=ih (mrg out e)
  have h2 : (mrg out e).length ≤ out.length + 1:=by
   unfold mrg
   cases hasA (pS e) out
   ·rw [cond_false,List.length_append];exact Nat.le_refl _
   ·exact Nat.le_succ _
  rw [List.foldl_cons,List.length_cons]
  omega
theorem chk_all {fs es : List AV} (h : vcF fs = 0) (hfs : fs.all aOK = true) (hes : es.all adE = true) : (List.range (mgR (allE fs es)).length).all (chk fs (allE fs es) (mgR (allE fs es))) = true:=by
 refine List.all_eq_true.2 fun i hi=>?_
 have hi:=List.mem_range.1 hi
 have ho:=mgR_once (allE fs es)
 have hg : (mgR (allE fs es)).getD i .unk = (mgR (allE fs es))[i]:=by rw [List.getD,List.getElem?_eq_getElem hi];rfl
 obtain ⟨r,hr,hrm⟩:=ho.sub _ (List.getElem_mem hi)
 obtain ⟨s,rfl,hk,h2,h3⟩:=allE_mem h hfs hes r hr
 have hs : pS (mgR (allE fs es))[i] = s:=hrm.symm
 unfold chk adE
 rw [hg,hs]
 refine and_t ?_ (and_t (fB_some ⟨_,hr,rfl⟩) (and_t (and_t h2 h3) (fB_some ⟨_,(trR_mem h hfs h3 h2).2 hk,rfl⟩)))
 rw [fB_none]
 ·rfl
 ·intro x hx he
  obtain ⟨j,hj,rfl⟩:=List.getElem_of_mem hx
  rw [List.length_take] at hj
  rw [List.getElem_take] at he
  have hn:=ho.nodup
  have h4 : ((mgR (allE fs es)).map pS)[j]'(by rw [List.length_map];omega) = ((mgR (allE fs es)).map pS)[i]'(by rw [List.length_map];omega):=by
   rw [List.getElem_map,List.getElem_map,he,hs]
  exact absurd h4 (List.pairwise_iff_getElem.1 hn j i (by rw [List.length_map];omega) (by rw [List.length_map];omega) (by omega))
end Go.Proofs.YtijdnecnjenleaaGreatDoor


namespace Go.Proofs.YtijdnecnjenleaaGreatDoor
open Go.Ev
theorem law4 (es fs : List AV) (a : List UInt8) (h1 : small es.length = true) (h2 : es.all aOK = true) (h3 : smallS a.length = true) (h4 : small fs.length = true) (h5 : wtF fs.length = true) (h6 : fs.all aOK = true) (ρ : Type) (k : AV → Option ρ) :
  evF Tryz.prog G4 [(12,l12),(6,l6),(21,l21)] Tryz.f4 ρ [.slv (.agg [.str,.slice .str]) es,.slv (.agg [.str,.slice .str,.bool]) fs,.str a] k = k (.bool true):=by
 refine Eq.trans (b:=bif small es.length && (es.all aOK && smallS a.length) then bif vdC es != 0 then bif vdC es != 0 then bif vdC es == 0 then k (AV.bool true) else k (AV.bool ((↑([] : List AV).length : Int) == 0)) else bif small fs.length && (wtF fs.length && fs.all aOK) then bif !(vdC (List.map alE fs) == 0 && (vdP (List.map alE fs) == 0 && true)) then bif vdC es == 0 then k (AV.bool true) else k (AV.bool ((↑([] : List AV).length : Int) == 0)) else bif cnt (↑([] : List AV).length : Int) (0 : Int) ([] : List AV).length && (vF fs && ([].all adE && decide (((9 : Nat),(9999 : Nat),(65 : TypeId)).snd.snd = (65 : TypeId) ∧ ([] : List AV).length ≤ (5000 : Nat) ∧ ([] : List AV).length ≤ Int.toNat (0 : Int) * (5000 : Nat)))) then bif cnt (↑([] : List AV).length : Int) (0 : Int) ([] : List AV).length && (vF fs && (small ([] : List AV).length && (List.range ([] : List AV).length).all (chk fs [] []))) then k (AV.bool true) else none else none else none else bif !adB a then k (AV.bool ((↑([] : List AV).length : Int) == 0)) else bif small fs.length && (wtF fs.length && fs.all aOK) then bif !(vdC (List.map alE fs) == 0 && (vdP (List.map alE fs) == 0 && true)) then k (AV.bool true) else bif cnt (↑(exR es a).length : Int) (0 : Int) (exR es a).length && (vF fs && ((exR es a).all adE && decide (((9 : Nat),(9999 : Nat),(65 : TypeId)).snd.snd = (65 : TypeId) ∧ (exR es a).length ≤ (5000 : Nat) ∧ ([] : List AV).length ≤ Int.toNat (0 : Int) * (5000 : Nat)))) then bif decide ((↑([] ++ allE fs (List.drop (0 : Nat) (exR es a))).length : Int) > (300 : Int)) then k (AV.bool true) else bif decide (([] ++ allE fs (List.drop (0 : Nat) (exR es a))).length ≤ (300 : Nat)) && ([] ++ allE fs (List.drop (0 : Nat) (exR es a))).all okR then bif cnt (↑(mgR ([] ++ allE fs (List.drop (0 : Nat) (exR es a)))).length : Int) (0 : Int) (mgR ([] ++ allE fs (List.drop (0 : Nat) (exR es a)))).length && (vF fs && (small ([] ++ allE fs (List.drop (0 : Nat) (exR es a))).length && (List.range (mgR ([] ++ allE fs (List.drop (0 : Nat) (exR es a)))).length).all (chk fs ([] ++ allE fs (List.drop (0 : Nat) (exR es a))) (mgR ([] ++ allE fs (List.drop (0 : Nat) (exR es a))))))) then k (AV.bool true) else none else none else none else none else none) (by kernel_rfl) ?_
 have e0 : vdC (fs.map alE) = vcF fs:=rfl
 rw [h1,h2,h3,h4,h5,h6,e0]
 by_cases hv : vdC es = 0
 ·have g1 : (vdC es != 0) = false:=by rw [hv];rfl
  have g2 : (vdC es == 0) = true:=by rw [hv];rfl
  rw [g1]
  cases had : adB a with
  | false=>rfl
  | true =>
   by_cases hf : vcF fs = 0
   ·obtain ⟨x1,x2⟩:=exR_spec hv h2 had h3
    have vf : vF fs = true:=and_t h4 (and_t h5 (and_t h6 (by rw [hf];rfl)))
    have f1 : cnt ((exR es a).length : Int) 0 (exR es a).length = true:=cnt_zero (decide_eq_true (by omega))
    have ok:=allE_ok hf h6 x1
    have ck:=chk_all hf h6 x1
    have f2 : decide (((9,9999,65) : Nat × Nat × TypeId).2.2 = 65 ∧ (exR es a).length ≤ 5000 ∧ ([] : List AV).length ≤ Int.toNat 0 * 5000) = true:=decide_eq_true ⟨rfl,x2,Nat.zero_le _⟩
    have e1 : ([] : List AV) ++ allE fs (List.drop 0 (exR es a)) = allE fs (exR es a):=rfl
    have g3 : (vcF fs == 0) = true:=by rw [hf];rfl
    rw [g3,f1,vf,x1,f2,e1,ok,ck]
    cases vdP (fs.map alE) == 0 with
    | false=>rfl
    | true =>
     by_cases hl : (allE fs (exR es a)).length ≤ 300
     ·have f3 : decide (((allE fs (exR es a)).length : Int) > 300) = false:=decide_eq_false (by omega)
      have f4 : decide ((allE fs (exR es a)).length ≤ 300) = true:=decide_eq_true hl
      have f5 : small (allE fs (exR es a)).length = true:=decide_eq_true (by omega)
      have ml : (mgR (allE fs (exR es a))).length ≤ 0 + (allE fs (exR es a)).length:=mrg_len _ []
      have f6 : cnt ((mgR (allE fs (exR es a))).length : Int) 0 (mgR (allE fs (exR es a))).length = true:=cnt_zero (decide_eq_true (by omega))
      rw [f3,f4,f5,f6]
      rfl
     ·have f3 : decide (((allE fs (exR es a)).length : Int) > 300) = true:=decide_eq_true (by omega)
      rw [f3]
      rfl
   ·have g3 : (vcF fs == 0) = false:=beq_false_of_ne hf
    rw [g3]
    rfl
 ·have g1 : (vdC es != 0) = true:=bne_iff_ne.2 hv
  have g2 : (vdC es == 0) = false:=beq_false_of_ne hv
  rw [g1,g2]
  rfl
end Go.Proofs.YtijdnecnjenleaaGreatDoor


namespace Go.Ev
theorem has_str {v : AV} (h : has1 .str v = true) : ∃ s,v = .str s:=by
 cases v <;> simp [has1] at h
 exact ⟨_,rfl⟩
theorem hass_cons {s : Sh} {l : List Sh} {cs : List AV} (h : hass (s :: l) cs = true) : ∃ c cs',cs = c :: cs' ∧ has1 s c = true ∧ hass l cs' = true:=by
 cases cs with
 | nil=>simp [hass] at h
 | cons c cs'=>simp only [hass,Bool.and_eq_true] at h;exact ⟨c,cs',rfl,h.1,h.2⟩
theorem hass_nil {cs : List AV} (h : hass [] cs = true) : cs = []:=by
 cases cs with
 | nil=>rfl
 | cons c cs'=>simp [hass] at h
theorem has_agg {l : List Sh} {v : AV} (h : hasSh (.agg l) v = true) : ∃ cs,v = .agg cs ∧ hass l cs = true:=by
 cases v <;> simp [hasSh] at h
 exact ⟨_,rfl,h⟩
theorem Fit.agg_inv {cs : List AV} (h : Fit (.agg cs)) : ∀ c ∈ cs,Fit c:=by
 cases h with
 | agg _ h=>exact h
theorem Fit.str_inv {s : List UInt8} (h : Fit (.str s)) : s.length ≤ 140737488351232:=by
 cases h with
 | str _ h=>exact h
theorem has_sliceR {s : Sh} {v : AV} (h : has1 (.slice s) v = true) (hf : Fit v) : ∃ es,v = .slv s es ∧ es.length ≤ 140737488351232 ∧ (∀ e ∈ es,hasSh s e = true) ∧ ∀ e ∈ es,Fit e:=by
 cases hf with
 | slv s' es hm _ hs hfe =>
  simp only [has1] at h
  have e:=Sh.beq_eq _ _ h
  subst e
  exact ⟨es,rfl,hm,hs,hfe⟩
 | _=>simp [has1] at h
theorem Fit.wt_inv {s : Sh} {es : List AV} (h : Fit (.slv s es)) : es.length * s.wt ≤ 140737488351232:=by
 cases h with
 | slv _ _ _ hw _ _=>exact hw
theorem Fit.int_inv {k : IntKind} {n : Int} (h : Fit (.int k n)) : (Lit.int k n).wf = true:=by
 cases h with
 | int _ _ h=>exact h
theorem hasAll_cons {s : Sh} {l : List Sh} {cs : List AV} (h : hasAll (s :: l) cs = true) : ∃ c cs',cs = c :: cs' ∧ hasSh s c = true ∧ hasAll l cs' = true:=by
 cases cs with
 | nil=>simp [hasAll] at h
 | cons c cs'=>simp only [hasAll,Bool.and_eq_true] at h;exact ⟨c,cs',rfl,h.1,h.2⟩
theorem hasAll_nil {cs : List AV} (h : hasAll [] cs = true) : cs = []:=by
 cases cs with
 | nil=>rfl
 | cons c cs'=>simp [hasAll] at h
end Go.Ev
namespace Go.Proofs.YtijdnecnjenleaaGreatDoor
open Go.Ev
def bk (H : Type) : BK H:=⟨Rows.uptoBulk,Rows.uptoBulkAll,fun _=>rfl,fun l=>by cases l <;> simp [Rows.uptoBulk],Nat.le_refl _,fun _=>rfl,fun _ _=>rfl,rfl,fun _ _=>rfl⟩
theorem own : ownKnob Tryz.prog.godebug = none:=by kernel_rfl
end Go.Proofs.YtijdnecnjenleaaGreatDoor


namespace Go.Proofs.YtijdnecnjenleaaGreatDoor
open Go.Ev Go.Shelf Go.Lib
theorem hand_shaped {H : Type} {enc : TypeId × Value → H} {a : Assume} {C : Checked} {os : Os} {f : FuncId} {fn : Func} {s : ChangeSpec} {conds : List PathCond} {apart fresh handsOn again : Bool} {X : World → Array Value → Prop}
  (hX : ∀ (w w' : World) (args : Array Value),w.heap = w'.heap → X w args → X w' args)
  (own : ownKnob C.prog.godebug = none) (started : os.Started) (noInit : C.prog.inits.idxOf? f = none) (hfn : C.prog.funcs[f]? = some fn)
  (witness : ∃ (w : World) (tape : Tape) (i : Input),w.os = os ∧ (w.forCall tape i).Shaped C.prog ∧ i.vars = [] ∧ Input.okWide C.prog (w.forCall tape i) .any w.heap.size f i ∧
   ((s.pre enc C.prog fn conds apart (w.forCall tape i).memory i.args ∧ X (w.forCall tape i).memory i.args) ∧ sizedMet enc C.prog fn (OpenSpec.ofChange s) apart (w.forCall tape i).memory i.args) ∧ a.holds C.prog (lone (Frame.enter C.prog f i.args .normal) [] (w.forCall tape i)))
  (contract : ∀ (W : World) (base : Nat) (args : Array Value) (ds gs : List (DataW H)) (before : List MemPlace),(∀ (j : Nat) t v,fn.params[j]? = some t → args[j]? = some v → Value.okWide C.prog W .any base t v) →
   DataW.Whole enc C.prog fn.params.toList s.vars apart W args.toList ds gs before →
   (DataW.weightsEach C.prog (fn.params.toList ++ s.plain.varTypes C.prog) (ds ++ gs)).all (· ≤ reachBytes) = true → W.ShapedOpen C.prog → X W args →
   Calls C.prog f args W fun e W'=>∃ v,e = .returned v ∧ s.post enc C.prog fn apart fresh handsOn again W args v W') :
  ReturnsInHanded a C os f .any (fun w args=>(s.pre enc C.prog fn conds apart w args ∧ X w args) ∧ sizedMet enc C.prog fn (OpenSpec.ofChange s) apart w args) (s.post enc C.prog fn apart fresh handsOn again):=by
 refine returnsInHanded_of_calls own started noInit witness ?_
 intro w tape i _ hsh _ hok hpre _
 obtain ⟨_,_,_,fn',hfn',_,_,_,_,hval⟩:=hok
 obtain rfl : fn' = fn:=Option.some.inj (hfn'.symm.trans hfn)
 obtain ⟨⟨⟨ds,gs,before,hw,_⟩,hx⟩,hz⟩:=hpre
 refine (contract (w.forCall tape i) w.heap.size i.args ds gs before hval (DataW.Whole.of_heap (w':=w.forCall tape i) (by rfl) hw) (hz.weights hw) hsh (hX _ _ _ (by rfl) hx)).mono fun e W' ⟨v,he,hp⟩=>?_
 subst he
 exact ChangeSpec.post_blind hp
theorem kept_cell2 {w w' : World} {v : Value} (h : w.cell? ⟨0,0,none⟩ = some v) (hk : Kept (fun b=>b < w.heap.size) w w') : w'.cell? ⟨0,0,none⟩ = some v:=by
 have h0 : 0 < w.heap.size:=cell_block h
 have:=hk.block 0 h0
 unfold World.cell? at h ⊢
 rw [this]
 exact h
theorem tabIs_of_reads {P : Program} {W : World} {name : String} {k : IntKind} {zs : List Int} {g : Nat} {t e : TypeId} {n : Nat}
  (hg : P.globalNamed name = some g) (hty : (P.globals[g]?).map (·.type) = some t) (ht : P.underlying t = some (.array n e)) (he : P.underlying e = some (.int k)) (hce : P.cellsOf e = 1) (hct : P.cellsOf t = n)
  (h : VarReads P W name (tabData k zs)) : TabIs P W name k zs:=by
 obtain ⟨g',t',cs,fuel,p,hg',ht',hvar,hd⟩:=h
 obtain rfl:=Option.some.inj (hg.symm.trans hg')
 obtain rfl:=Option.some.inj (hty.symm.trans ht')
 unfold TabIs
 rw [hvar,← cells_of_tab ht he hce hct hd]
def laidL : List (String × DataW Unit):=Rows.topEverybodyOnceRow.laid
theorem pow_eq : Rows.laid_internal_strconv_uint64pow10 (H:=Unit) = tabData .u64 pow10Tab:=by kernel_rfl
theorem mem2 : ("internal/strconv.uint64pow10", tabData .u64 pow10Tab) ∈ laidL := by rw [← pow_eq]; exact .tail _ (.tail _ (.head _))
theorem gP : Tryz.prog.globalNamed "internal/strconv.uint64pow10" = some 1 := by kernel_rfl
theorem glb_of {w : World} (hsh : w.ShapedOpen Tryz.prog) (h : laidMetH Tryz.prog laidL w) : Glb (fun b=>b < w.heap.size) w:=by
 rw [MakeChecks.laidMetH_plain _ _ _ (by kernel_rfl)] at h
 obtain ⟨m,hm⟩:=cell_of_shapedOpen_int (P:=Tryz.prog) (w:=w) (g:=0) (t:=3) (zero:=#[.int .i64 0]) (k:=.i64) hsh (of_decide_eq_true (by kernel_rfl)) (by kernel_rfl) rfl (by kernel_rfl) (by kernel_rfl) Tryz.underlying3
 have ht : TabIs Tryz.prog w "internal/strconv.uint64pow10" .u64 pow10Tab := tabIs_of_reads gP (t := 329) (e := 189) (n := 20) (by kernel_rfl) (by kernel_rfl) (by kernel_rfl) (by kernel_rfl) (by kernel_rfl) (laidMet.reads h mem2)
 exact fun w' hk=>⟨⟨m,kept_cell2 hm hk⟩,TabIs_below (g:=1) (by kernel_rfl) ht hk.below⟩
theorem open_txts {v : AV} (h : hasSh (.slice .str) v = true) (hf : Fit v) : ∃ ts,v = .slv .str ts ∧ small ts.length = true ∧ ts.all smT = true:=by
 obtain ⟨ts,rfl,e1,e2,e3⟩:=has_sliceR (s:=.str) h hf
 refine ⟨ts,rfl,decide_eq_true (by omega),List.all_eq_true.2 fun e he=>?_⟩
 obtain ⟨n,rfl⟩:=has_str (e2 e he)
 have a:=(e3 _ he).str_inv
 exact decide_eq_true (by show n.length ≤ _;omega)
theorem open_alias {v : AV} (h : hasSh sA v = true) (hf : Fit v) : aOK v = true:=by
 obtain ⟨cs,rfl,hh⟩:=has_agg h
 obtain ⟨c0,cs,rfl,h0,hh⟩:=hass_cons hh
 obtain ⟨c1,cs,rfl,h1,hh⟩:=hass_cons hh
 obtain rfl:=hass_nil hh
 obtain ⟨n,rfl⟩:=has_str h0
 obtain ⟨ts,rfl,t1,t2⟩:=open_txts h1 (hf.agg_inv _ (by simp))
 have a:=(hf.agg_inv (.str n) (by simp)).str_inv
 exact and_t (decide_eq_true (by show n.length ≤ _;omega)) (and_t t1 t2)
theorem open_rule {v : AV} (h : hasSh sF v = true) (hf : Fit v) : aOK v = true:=by
 obtain ⟨cs,rfl,hh⟩:=has_agg h
 obtain ⟨c0,cs,rfl,h0,hh⟩:=hass_cons hh
 obtain ⟨c1,cs,rfl,h1,hh⟩:=hass_cons hh
 obtain ⟨n,rfl⟩:=has_str h0
 obtain ⟨ts,rfl,t1,t2⟩:=open_txts h1 (hf.agg_inv _ (by simp))
 have a:=(hf.agg_inv (.str n) (by simp)).str_inv
 exact and_t (decide_eq_true (by show n.length ≤ _;omega)) (and_t t1 t2)
theorem open_als {v : AV} (h : hasSh (.slice sA) v = true) (hf : Fit v) : ∃ es,v = .slv sA es ∧ small es.length = true ∧ es.all aOK = true:=by
 obtain ⟨es,rfl,e1,e2,e3⟩:=has_sliceR (s:=sA) h hf
 exact ⟨es,rfl,decide_eq_true (by omega),List.all_eq_true.2 fun e he=>open_alias (e2 e he) (e3 e he)⟩
theorem open_rules {v : AV} (h : hasSh (.slice sF) v = true) (hf : Fit v) : ∃ fs,v = .slv sF fs ∧ small fs.length = true ∧ wtF fs.length = true ∧ fs.all aOK = true:=by
 obtain ⟨fs,rfl,e1,e2,e3⟩:=has_sliceR (s:=sF) h hf
 have hw : fs.length * 41 ≤ 140737488351232:=hf.wt_inv
 exact ⟨fs,rfl,decide_eq_true (by omega),decide_eq_true hw,List.all_eq_true.2 fun e he=>open_rule (e2 e he) (e3 e he)⟩
theorem fit_txt {s : List UInt8} (h : Fit (.str s)) : smallS s.length = true:=decide_eq_true (by have:=h.str_inv;omega)
theorem okL4 : SumOK Tryz.prog 4 (evF Tryz.prog G4 [(12,l12),(6,l6),(21,l21)] Tryz.f4):=by
 refine sums (K:=[(12,l12),(6,l6),(21,l21)]) (bs:=[b6,b12,b21]) g4 Tryz.func4 (by kernel_rfl) (fun b hb=>?_) (fun ρ avs k r h=>h)
 rcases List.mem_cons.1 hb with rfl | hb
 ·exact ⟨l6,by kernel_rfl,loop6 _⟩
 ·rcases List.mem_cons.1 hb with rfl | hb
  ·exact ⟨l12,by kernel_rfl,loop12 _⟩
  ·rcases List.mem_cons.1 hb with rfl | hb
   ·exact ⟨l21,by kernel_rfl,loop21 _⟩
   ·cases hb
end Go.Proofs.YtijdnecnjenleaaGreatDoor


namespace Go.Proofs.YtijdnecnjenleaaGreatDoor
open Go
theorem jf0 : Tryz.prog.funcNamed "posthouse/posthousetop.TopEverybodyOnce" = some 4 := by kernel_rfl
theorem jf1 : Rows.topEverybodyOnceRow.wf (OpenSpec.ofChange Rows.topEverybodyOnceSpec) = true:=by kernel_rfl
theorem jf2 : laidOutB Tryz.prog = true:=by kernel_rfl
theorem jf3 : mapsRowed Tryz.prog = true:=by kernel_rfl
theorem jf4 : Tryz.f4.params.all (Tryz.prog.readableRec ·) = true:=by kernel_rfl
theorem jf5 : namedTie Tryz.prog Rows.topEverybodyOnceRow.named Rows.topEverybodyOnceSpec.vars = true:=by kernel_rfl
theorem jf6 : (Rows.topEverybodyOnceRow.stops == []) = true:=by kernel_rfl
theorem jf7 : (Tryz.prog.stops == []) = true:=by kernel_rfl
theorem jf8 : (Rows.topEverybodyOnceRow.knobs == []) = true:=by kernel_rfl
theorem jf9 : (Tryz.prog.stopKnobs == []) = true:=by kernel_rfl
theorem jf10 : (Rows.topEverybodyOnceRow.inPlace == Tryz.prog.inPlace 4) = true:=by kernel_rfl
theorem jf11 : (Rows.topEverybodyOnceRow.unfollowed == Tryz.prog.unfollowed 4) = true:=by kernel_rfl
theorem jf12 : (Rows.topEverybodyOnceRow.recurses == Tryz.prog.recurses 4) = true:=by kernel_rfl
theorem jf13 : (Rows.topEverybodyOnceRow.named == Tryz.prog.varsNamed 4) = true:=by kernel_rfl
noncomputable abbrev vt : List TypeId:=Tryz.f4.params.toList ++ Rows.topEverybodyOnceSpec.plain.varTypes Tryz.prog
theorem jf14 : (Rows.topEverybodyOnceRow.maps == vt.any (Tryz.prog.mapsRec ·)) = true:=by kernel_rfl
theorem jf15 : (Rows.topEverybodyOnceRow.ifaces == vt.any (Tryz.prog.ifacesRec ·)) = true:=by kernel_rfl
theorem jf16 : (Rows.topEverybodyOnceRow.mapsOut == Tryz.prog.mapsAmong Tryz.f4.resultTypes.toList) = true:=by kernel_rfl
theorem jf17 : (Rows.topEverybodyOnceRow.loops == vt.any (Tryz.prog.loopsFrom ·)) = true:=by kernel_rfl
theorem jf18 : (Rows.topEverybodyOnceRow.wideKeys == (vt ++ Tryz.f4.resultTypes.toList).any (Tryz.prog.wideKeysFrom ·)) = true:=by kernel_rfl
theorem jf19 : Rows.topEverybodyOnceSpec.vars.all (Tryz.prog.varReadable ·) = true:=by kernel_rfl
theorem jf20 : Tryz.f4.resultTypes.all (fun t=>Tryz.prog.readableRec t && decide (t < Tryz.prog.types.size)) = true:=by kernel_rfl
theorem jf21 : (Rows.topEverybodyOnceRow.ifacesOut == Tryz.f4.resultTypes.toList.any (Tryz.prog.ifacesRec ·)) = true:=by kernel_rfl
theorem jf22 : (Rows.topEverybodyOnceRow.loopsOut == Tryz.f4.resultTypes.toList.any (Tryz.prog.loopsFrom ·)) = true:=by kernel_rfl
theorem jf23 : (Rows.topEverybodyOnceRow.plainKeys == Tryz.prog.plainKeys) = true:=by kernel_rfl
theorem jf24 : Rows.topEverybodyOnceRow.shortTexts.isNone = true:=by kernel_rfl
theorem jf25 : Tryz.prog.stopsHeard = true:=by kernel_rfl
theorem jf26 : Tryz.prog.mayEnter = true:=by kernel_rfl
theorem jf27 : (Rows.topEverybodyOnceRow.lifted == Tryz.prog.liftsFinal) = true:=by kernel_rfl
theorem jf28 : (Tryz.prog.make == some Rows.topEverybodyOnceRow.make) = true:=by kernel_rfl
theorem jf29 : (Rows.topEverybodyOnceRow.kinds == (if Rows.topEverybodyOnceRow.domain.isEmpty then [] else Tryz.f4.params.toList.map fun t=>match Tryz.prog.underlying t with | some (.int k)=>some k | _=>none)) = true:=by kernel_rfl
theorem jf30 : (Rows.topEverybodyOnceRow.pinned == Rows.topEverybodyOnceRow.pinnedBy) = true:=by kernel_rfl
theorem jf31 : (Rows.topEverybodyOnceRow.veiled == (vt ++ Tryz.f4.resultTypes.toList).any (Tryz.prog.veiledRec ·)) = true:=by kernel_rfl
theorem jf32 : Rows.topEverybodyOnceRow.veiledFits Tryz.prog Tryz.f4.params.toList (vt ++ Tryz.f4.resultTypes.toList) = true:=by kernel_rfl
theorem jf33 : Rows.topEverybodyOnceRow.wfByText (OpenSpec.ofChange Rows.topEverybodyOnceSpec) = true:=by kernel_rfl
theorem jf34 : true = Tryz.prog.looks []:=by kernel_rfl
theorem jf35 : false = Rows.topEverybodyOnceRow.goesBy Tryz.prog:=by kernel_rfl
theorem jf36 : (Tryz.f4.params.toList.all fun u=>!Tryz.prog.wantsStandIn u) = true:=by kernel_rfl
theorem jf37 : Tryz.prog.mainIs = some (true, "43343e81c6a8b9ac3870bdfbdf1fcd86bf29f8a577acdfc1c8bab7557a58af4d".toList) := by kernel_rfl
end Go.Proofs.YtijdnecnjenleaaGreatDoor


namespace Go.Proofs.YtijdnecnjenleaaGreatDoor
open Go
set_option maxRecDepth 100000
theorem and_t2 {a b : Bool} (h : a = true) (k : b = true) : (a && b) = true:=by rw [h,k];rfl
theorem joined : joinedFacts Tryz.prog 4 Tryz.f4 Rows.topEverybodyOnceSpec Rows.topEverybodyOnceRow = true:=by
 unfold joinedFacts
 exact and_t2 (and_t2 (and_t2 (and_t2 (and_t2 (and_t2 (and_t2 (and_t2 (and_t2 (and_t2 (and_t2 (and_t2 (and_t2 (and_t2 (and_t2 (and_t2 (and_t2 (and_t2 (and_t2 (and_t2 (and_t2 (and_t2 (and_t2 (and_t2 (and_t2 (and_t2 (and_t2 (and_t2 (and_t2 (and_t2 (and_t2 jf1 jf2) jf3) jf4) jf5) jf6) jf7) jf8) jf9) jf10) jf11) jf12) jf13) jf14) jf15) jf16) jf17) jf18) jf19) jf20) jf21) jf22) jf23) jf24) jf25) jf26) jf27) jf28) jf29) jf30) jf31) jf32
end Go.Proofs.YtijdnecnjenleaaGreatDoor

namespace Go.Proofs.YtijdnecnjenleaaGreatDoor
open Go.Ev
theorem spec4 (H : Type) : ∀ ds : List (DataW H),ds.length = Tryz.f4.params.size → Rows.topEverybodyOnceSpec.fn H ds = { results:=[.lit (.bool true)],args:=ds }
 | [_,_,_],_=>rfl
set_option maxRecDepth 100000 in
theorem lifted4 (os : Os) (started : os.Started) (H : Type) (enc : TypeId × Value → H) :
  ReturnsInHanded {} Tryz.checked os 4 .any (fun w args=>(Rows.topEverybodyOnceSpec.pre enc Tryz.prog Tryz.f4 Rows.topEverybodyOnceRow.domain false w args ∧ laidMetH Tryz.prog Rows.topEverybodyOnceRow.laid w) ∧ sizedMet enc Tryz.prog Tryz.f4 (OpenSpec.ofChange Rows.topEverybodyOnceSpec) false w args)
   (Rows.topEverybodyOnceSpec.post enc Tryz.prog Tryz.f4 false true false false):=by
 refine hand_shaped (C:=Tryz.checked) (X:=fun w _=>laidMetH Tryz.prog Rows.topEverybodyOnceRow.laid w) (fun _ _ _ hh h=>h.of_heap hh) own started (by kernel_rfl) Tryz.func4
  (ChangeSpec.witness_shaped (enc:=enc) (C:=Tryz.checked) (os:=os) (X:=fun w _=>laidMetH Tryz.prog Rows.topEverybodyOnceRow.laid w) false (World.laidAll Tryz.prog os Rows.topEverybodyOnceRow.laid) #[.slice none 0 0,.slice none 0 0,.string ⟨#[]⟩] 8 (World.laidAll_os _ _ _)
   (World.shaped_of_ZipB (by kernel_rfl) (by kernel_rfl)) (by kernel_rfl) (by kernel_rfl) (by kernel_rfl)
   (by rw [MakeChecks.laidMetH_plain _ _ _ (by kernel_rfl)];exact laidMet_laidAll _ (by kernel_rfl) (by kernel_rfl))) ?_
 intro W base args ds gs before hval hW hz hsh hx
 refine contract_of (bk H) (n:=12) (tb:=4) (F:=evF Tryz.prog G4 [(12,l12),(6,l6),(21,l21)] Tryz.f4) (by kernel_rfl) (by kernel_rfl) (by kernel_rfl) rfl (by kernel_rfl) (by kernel_rfl) (spec4 H) (okL4) (fun avs hg=>?_) hval hz hW (glb_of hsh hx)
 have hh : hasAll [.slice (.agg [.str,.slice .str]),.slice (.agg [.str,.slice .str,.bool]),.str] avs = true:=hg.has
 obtain ⟨v0,cs,rfl,h0,hh⟩:=hasAll_cons hh
 obtain ⟨v1,cs,rfl,h1,hh⟩:=hasAll_cons hh
 obtain ⟨v2,cs,rfl,h2,hh⟩:=hasAll_cons hh
 obtain rfl:=hasAll_nil hh
 obtain ⟨es,rfl,x1,x2⟩:=open_als h0 (hg.fit _ (by simp))
 obtain ⟨fs,rfl,y1,y2,y3⟩:=open_rules h1 (hg.fit _ (by simp))
 obtain ⟨a,rfl⟩:=has_str h2
 have hd:=fit_txt (hg.fit (.str a) (by simp))
 exact law4 es fs a x1 x2 hd y1 y2 y3 _ _
theorem row_holds4 : Rows.TopEverybodyOnceSaid :=
 OpenClaim.holds_of_wide 4 Tryz.f4 rfl rfl rfl rfl rfl rfl rfl ⟨rfl,rfl,rfl,rfl,rfl⟩ rfl rfl rfl rfl rfl jf0 Tryz.func4 joined
  (of_decide_eq_true (by kernel_rfl)) (by unfold Func.isWrapper;first | (rw [if_pos (by decide +kernel)];kernel_rfl) | (rw [if_neg (by decide +kernel)];exact ⟨rfl,rfl⟩))
  (fun os started H enc _=>lifted4 os started H enc)
theorem top_everybody_once : Rows.TopEverybodyOnceCardSaid :=
 Claim7.holds_tied_plain_at .later [] [.data, .data, .data, .data, .sentinel, .sentinel, .pinned] true (true, "43343e81c6a8b9ac3870bdfbdf1fcd86bf29f8a577acdfc1c8bab7557a58af4d") true row_holds4 (fun _ h => by cases h) jf33 (fun _ h => by cases h) topEverybodyOnce_row_tie rfl ⟨rfl, rfl⟩ jf37 rfl
  (fun f fn hf hfn=>by
   obtain rfl : f = 4:=Option.some.inj (jf0.symm.trans hf) |>.symm
   obtain rfl : fn = Tryz.f4:=(Option.some.inj (Tryz.func4.symm.trans hfn)).symm
   exact ⟨jf34,fun j t ht=>by
    have hm : t ∈ Tryz.f4.params.toList:=Array.mem_def.1 (Array.mem_of_getElem? ht)
    exact (show Tryz.prog.wantsStandIn t = false by simpa using List.all_eq_true.1 jf36 t hm)⟩)
  jf35
end Go.Proofs.YtijdnecnjenleaaGreatDoor
