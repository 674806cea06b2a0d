/-
 Addresses: letters,domains,the parts of an address.
-/
import Derived.Test.YtijdnecnjenleaaGreatDoorEvS
import Derived.WalkKit
import Derived.ProofKit
import Derived.OpenShut
import Derived.Below
import Derived.Carry
import Derived.ChangeSame
import Derived.JoinedCond
import Derived.WideKeyArgs
import Derived.Lib.Bytealg
import Derived.Lib.Overlaps
import Derived.Test.YtijdnecnjenleaaGreatDoorChecked
import Derived.KernelRfl
import Derived.Test.YtijdnecnjenleaaGreatDoorEvFa
import Derived.Lib.BytesEntry
import Derived.Lib.AppendIntMem
import Derived.Lib.IndexMore

namespace Go.Ev
open Go.RowKit
theorem mem_union1 {l : List Nat} {x y : Nat} : y ∈ union1 l x ↔ y = x ∨ y ∈ l:=by
 unfold union1
 split
 ·rename_i h
  constructor
  ·exact .inr
  ·rintro (rfl | h')
   ·simpa using h
   ·exact h'
 ·simp
theorem mem_foldl_union1 (ys : List Nat) : ∀ (s : List Nat) (y : Nat),y ∈ ys.foldl union1 s ↔ y ∈ ys ∨ y ∈ s:=by
 induction ys with
 | nil=>intro s y;simp
 | cons z zs ih =>
  intro s y
  simp only [List.foldl_cons,ih,mem_union1,List.mem_cons]
  constructor
  ·rintro (h | h | h) <;> simp [h]
  ·rintro ((h | h) | h) <;> simp [h]
theorem mem_anc (acc : List (List Nat)) (es : List Edge) : ∀ (s : List Nat) (y : Nat),y ∈ es.foldl (fun s e=>if Region.binds .any e then (acc.getD e.on []).foldl union1 (union1 s e.on) else s) s →
  y ∈ s ∨ ∃ e ∈ es,Region.binds .any e = true ∧ (y = e.on ∨ y ∈ acc.getD e.on []):=by
 induction es with
 | nil=>intro s y h;exact .inl h
 | cons e es ih =>
  intro s y h
  simp only [List.foldl_cons] at h
  rcases ih _ y h with h | ⟨e',he',h1,h2⟩
  ·split at h
   ·rename_i hb
    rw [mem_foldl_union1,mem_union1] at h
    rcases h with h | h | h
    ·exact .inr ⟨e,by simp,hb,.inr h⟩
    ·exact .inr ⟨e,by simp,hb,.inl h⟩
    ·exact .inl h
   ·exact .inl h
  ·exact .inr ⟨e',by simp [he'],h1,h2⟩
theorem ancFrom_keep : ∀ (os : List Oper) (acc : List (List Nat)) (i : Nat),i < acc.length → (ancFrom os acc).getD i [] = acc.getD i []
 | [],acc,i,_=>rfl
 | o :: os,acc,i,h=>by
  simp only [ancFrom]
  rw [ancFrom_keep os _ i (by simp;omega)]
  simp only [List.getD]
  rw [List.getElem?_append_left h]
theorem ancFrom_spec : ∀ (os : List Oper) (acc : List (List Nat)) (j : Nat) (o : Oper) (y : Nat),acc.length ≤ j → os[j - acc.length]? = some o → y ∈ (ancFrom os acc).getD j [] →
  ∃ e ∈ o.after,Region.binds .any e = true ∧ (y = e.on ∨ y ∈ (ancFrom os acc).getD e.on [])
 | [],acc,j,o,y,_,h,_=>by simp at h
 | x :: os,acc,j,o,y,hj,ho,hy=>by
  simp only [ancFrom] at hy ⊢
  by_cases e : j = acc.length
  ·subst e
   simp only [Nat.sub_self,List.getElem?_cons_zero,Option.some.injEq] at ho
   subst ho
   rw [ancFrom_keep os _ acc.length (by simp)] at hy
   simp only [List.getD,List.getElem?_append_right (Nat.le_refl _),Nat.sub_self,List.getElem?_cons_zero,Option.getD_some] at hy
   rcases mem_anc acc x.after.toList [] y hy with h | ⟨e,he,h1,h2⟩
   ·cases h
   ·refine ⟨e,by simpa using he,h1,?_⟩
    rcases h2 with h2 | h2
    ·exact .inl h2
    ·refine .inr ?_
     have hlt : e.on < acc.length:=by
      rcases Nat.lt_or_ge e.on acc.length with h | h
      ·exact h
      ·simp [List.getD,List.getElem?_eq_none h] at h2
     rw [ancFrom_keep os _ e.on (by simp;omega)]
     simp only [List.getD,List.getElem?_append_left hlt]
     simpa [List.getD] using h2
  ·have hj' : (acc ++ [x.after.toList.foldl (fun s e=>if Region.binds .any e then (acc.getD e.on []).foldl union1 (union1 s e.on) else s) []]).length ≤ j:=by
    simp only [List.length_append,List.length_cons,List.length_nil];omega
   refine ancFrom_spec os _ j o y hj' ?_ hy
   have : j - acc.length = (j - (acc.length + 1)) + 1:=by omega
   rw [this,List.getElem?_cons_succ] at ho
   simpa using ho
theorem GOK.natOK {P : Program} {Γ : Env} (h : GOK P Γ) : NatOK Γ:=⟨h.snat,h.nat,fun key np F hF=>(h.yld key np F hF).2.2⟩
section draw
variable {R : Option Nat} {P : Program} {Γ : Env} {rid : Nat} {ops : Array Oper}
theorem tab_spec {j y : Nat} {o : Oper} (ho : ops[j]? = some o) (hy : y ∈ (ancTab ops.toList).getD j []) : ∃ e ∈ o.after,Region.binds .any e = true ∧ (y = e.on ∨ y ∈ (ancTab ops.toList).getD e.on []) :=
 ancFrom_spec ops.toList [] j o y (Nat.zero_le _) (by simpa using ho) hy
theorem reg_edge {tm0 : List AV} (h : regOK Γ ops tm0 = true) {j : Nat} {o : Oper} (ho : ops[j]? = some o) : ∀ e ∈ o.after,Region.binds .any e = true → e.on < j:=by
 intro e he hb
 have hlt:=(Array.getElem?_eq_some_iff.1 ho).1
 simp only [regOK,List.all_eq_true,List.mem_range,Bool.and_eq_true] at h
 have h1:=(h j hlt).1
 rw [ho] at h1
 simp only [Option.map_some,Option.getD_some,Array.all_eq_true_iff_forall_mem,Bool.or_eq_true,Bool.not_eq_true'] at h1
 rcases h1 e he with h2 | h2
 ·rw [hb] at h2;cases h2
 ·exact Nat.le_of_ble_eq_true h2
theorem reg_pair {tm0 : List AV} (h : regOK Γ ops tm0 = true) {i j : Nat} {x y : Oper} (hx : ops[i]? = some x) (hy : ops[j]? = some y) (hij : i < j) (hn : i ∉ (ancTab ops.toList).getD j []) : pairOK Γ ops tm0 ((ancTab ops.toList).getD i []) ((ancTab ops.toList).getD j []) x y = true:=by
 have hlt:=(Array.getElem?_eq_some_iff.1 hy).1
 simp only [regOK,List.all_eq_true,List.mem_range,Bool.and_eq_true] at h
 have h1:=(h j hlt).2 i hij
 rw [hx,hy] at h1
 simp only [Bool.or_eq_true] at h1
 rcases h1 with h1 | h1
 ·exact absurd (by simpa using h1) hn
 ·exact h1
theorem tab_lt {tm0 : List AV} (h : regOK Γ ops tm0 = true) : ∀ (j y : Nat),j < ops.size → y ∈ (ancTab ops.toList).getD j [] → y < j:=by
 intro j
 induction j using Nat.strongRecOn with
 | ind j ih =>
  intro y hj hy
  obtain ⟨e,he,hb,h2⟩:=tab_spec (Array.getElem?_eq_getElem hj) hy
  have hlt:=reg_edge h (Array.getElem?_eq_getElem hj) e he hb
  rcases h2 with rfl | h2
  ·exact hlt
  ·exact Nat.lt_trans (ih e.on hlt y (by omega) h2) hlt
theorem sepT_spec {tm0 : List AV} {s t : Nat} (h : sepT ops tm0 s t = true) : fixedB ops s = true ∧ fixedB ops t = true ∧ ∃ i j oi oj,i ≠ j ∧ tm0.getD s .unk = .ptr i oi ∧ tm0.getD t .unk = .ptr j oj:=by
 unfold sepT at h
 simp only [Bool.and_eq_true] at h
 obtain ⟨h1,h2,h3⟩:=h
 refine ⟨h1,h2,?_⟩
 split at h3
 ·rename_i i oi j oj e1 e2
  exact ⟨i,j,oi,oj,by simpa using h3,e1,e2⟩
 ·cases h3
theorem pair_indep (hr : rid < 67108864) {tm0 : List AV} {i j : Nat} {x y : Oper} (hp : pairOK Γ ops tm0 ((ancTab ops.toList).getD i []) ((ancTab ops.toList).getD j []) x y = true) (hne : i ≠ j) (hi : i < 64) (hj : j < 64) (hij : i ∉ (ancTab ops.toList).getD j []) (hji : j ∉ (ancTab ops.toList).getD i []) : Indep Γ rid ops (ancTab ops.toList) tm0 i j x y:=by
 simp only [pairOK,Bool.and_eq_true,Bool.or_eq_true,Bool.not_eq_true'] at hp
 obtain ⟨h1,h2⟩:=hp
 obtain ⟨a1,a2,a3⟩:=Oper.apart_spec h1
 refine ⟨hne,hi,hj,hij,hji,a1,a3,a2,?_,hr⟩
 rcases h2 with (⟨h2,h3⟩ | h2) | (h2 | h2)
 ·refine .old (fun hc=>.inl ?_) fun hc=>.inl ?_
  ·rw [hc] at h2;simpa using h2
  ·rw [hc] at h3;simpa using h3
 ·unfold sepB at h2
  split at h2
  ·rename_i ty s ty' t z ex ey
   obtain ⟨f1,f2,i',j',oi,oj,hn,e1,e2⟩:=sepT_spec h2
   exact .old (fun hc=>(by rw [ex] at hc;cases hc)) fun _=>.inr (.inl ⟨i',j',hn,⟨ty,s,oi,ex,f1,e1⟩,⟨ty',t,z,oj,ey,f2,e2⟩⟩)
  ·rename_i ty t z ty' s ex ey
   obtain ⟨f1,f2,i',j',oi,oj,hn,e1,e2⟩:=sepT_spec h2
   exact .old (fun _=>.inr (.inl ⟨i',j',hn,⟨ty',s,oi,ey,f1,e1⟩,⟨ty,t,z,oj,ex,f2,e2⟩⟩)) fun hc=>(by rw [ey] at hc;cases hc)
  ·rename_i ty s args ts ex ey
   exact .old (fun hc=>(by rw [ex] at hc;cases hc)) fun _=>.inr (.inr ⟨⟨ty,s,ex,h2⟩,⟨args,ts,ey⟩⟩)
  ·rename_i args ts ty s ex ey
   exact .old (fun _=>.inr (.inr ⟨⟨ty,s,ey,h2⟩,⟨args,ts,ex⟩⟩)) fun hc=>(by rw [ey] at hc;cases hc)
  ·cases h2
 ·simp only [sepM,Bool.and_eq_true,Bool.or_eq_true] at h2
  rcases h2 with ⟨h2,h3⟩ | ⟨h2,h3⟩
  ·exact .made1 h2 h3
  ·exact .made2 h2 h3
 ·simp only [sepL,Bool.and_eq_true,Bool.or_eq_true,Bool.not_eq_true'] at h2
  obtain ⟨h2,h3⟩:=h2
  refine .loc (fun hc=>?_) fun hc=>?_
  ·rw [hc] at h2;simpa using h2
  ·rw [hc] at h3;simpa using h3
theorem stepD_sound {w0 : World} {S0 : Nat → Prop} {B : Ctx} {Q : Exit → Act → World → Prop} {K : Act → World → Prop} {tab : List (List Nat)} (hΓ : GOK P Γ) {i : Nat} {st t : St} {a : Act} {w : World}
  (hs : stepD P Γ rid ops tab i st = some t) (hX : RelX w0 S0 B st a w) (hK : ∀ a' w',RelX w0 S0 B t a' w' → K a' w') : wpOpIn (fen R) 0 P ops Q i K a w:=by
 unfold wpOpIn
 unfold stepD at hs
 cases ho : ops[i]? with
 | none=>simp only [ho] at hs;cases hs;exact hK a w hX
 | some o =>
  simp only [ho] at hs ⊢
  obtain ⟨S,β,og,hR,hO⟩:=hX
  have run : runAt P Γ rid tab i o st = some t → o.wpR R P a w K Q:=fun hr=>by
   unfold runAt at hr
   cases he : evOp P Γ (rid * 64 + i) o st.tm (visible rid (tab.getD i []) st.rows) some with
   | none=>rw [he] at hr;cases hr
   | some e =>
    simp only [he,Option.bind_some] at hr
    split at hr
    ·rename_i hf
     cases hr
     refine evOp_sound hΓ hR hO (fun id x hx=>?_) (fun e' he'=>?_) he (fun e' a' w' he' hx=>?_)
     ·rw [lookup_visible] at hx
      split at hx
      ·exact hx
      ·cases hx
     ·cases he';exact hf
     ·cases he';exact hK a' w' hx
    ·cases hr
  have skip : skipAt o st = t → K (a.put o.dst undef) w:=fun hr=>by
   subst hr
   exact hK _ _ ⟨S,β,og,hR.put o.dst (.undef _),hO⟩
  cases hg : o.guard with
  | none =>
   simp only [hg] at hs
   simp only [Region.wanted,hg,if_true]
   exact run hs
  | some p =>
   obtain ⟨j,want⟩:=p
   simp only [hg] at hs
   obtain ⟨hgb,hgu⟩:=guard_at hR.tm ops j
   simp only [Region.wanted,hg]
   split at hs
   ·rename_i b hb
    rw [hgb b hb]
    split at hs
    ·rename_i hbw
     have hbe : b = want:=by simpa using hbw
     simp only [hbe,beq_self_eq_true,if_true]
     exact run hs
    ·rename_i hbw
     have hbe : ¬ (some b == some want) = true:=by simpa using hbw
     rw [if_neg hbe]
     exact ⟨fun _ _=>trivial,skip (by simpa using hs)⟩
   ·rename_i hb
    rw [hgu hb]
    have : ¬ ((none : Option Bool) == some want) = true:=by simp
    rw [if_neg this]
    exact ⟨fun _ _=>trivial,skip (by simpa using hs)⟩
   ·cases hs
theorem VRels.world {w w' : World} {S : Nat → Prop} {β : Bet} {cs : List AV} {vs : List Value} (h : VRels w S β cs vs) (hh : w'.heap = w.heap) : VRels w' S β cs vs :=
 h.mono (fun _ h=>h) (fun b _=>by rw [hh]) (fun _ _ h=>h)
theorem RelX.world {w0 : World} {S0 : Nat → Prop} {B : Ctx} {st : St} {a : Act} {w w' : World} (h : RelX w0 S0 B st a w) (hh : w'.heap = w.heap) (ho : w'.os = w.os) (ht : w'.tape = w.tape) (hp : w'.output = w.output) : RelX w0 S0 B st a w':=by
 obtain ⟨S,β,og,hR,hO⟩:=h
 refine ⟨S,β,og,⟨hR.tm.world hh,hR.df,fun id r hr=>?_,hR.inj,fun id g hg=>by rw [hh];exact hR.lt id g hg,hR.used,hR.one,fun b hb=>by rw [hh];exact hR.Slt b hb,by rw [hh];exact hR.Ble,hR.pid⟩,⟨⟨⟨ho.trans hO.bel.os,ht.trans hO.bel.tape,hp.trans hO.bel.output,by rw [hh];exact hO.bel.size,fun k hk=>by rw [hh];exact hO.bel.block k hk⟩,hO.bel.glb⟩,hO.sin,hO.sub⟩⟩
 exact (hR.row id r hr).keep (fun _ _ h=>h) (fun _ h=>h) (fun _ _ h=>h) (fun b _=>by rw [hh]) (fun b _=>by rw [hh])
def rem (listed : Array Bool) (n : Nat) : List Nat:=(List.range n).filter fun i=>!listed.getD i true
theorem mem_rem {listed : Array Bool} {n i : Nat} : i ∈ rem listed n ↔ i < n ∧ listed.getD i true = false:=by
 simp only [rem,List.mem_filter,List.mem_range,Bool.not_eq_true']
theorem rem_split {listed : Array Bool} {n i : Nat} (hs : listed.size = n) (hi : i < n) (hu : listed.getD i true = false) :
  ∃ l1 l2,rem listed n = l1 ++ i :: l2 ∧ rem (listed.setIfInBounds i true) n = l1 ++ l2 ∧ ∀ j ∈ l1,j < i ∧ listed.getD j true = false:=by
 have hr : List.range n = List.range i ++ i :: List.range' (i + 1) (n - i - 1):=by
  rw [List.range_eq_range',List.range_eq_range']
  have : n = i + (1 + (n - i - 1)):=by omega
  conv=>lhs;rw [this]
  rw [← List.range'_append_1,Nat.zero_add,← List.range'_append_1]
  rfl
 have hsame : ∀ (l : List Nat),(∀ j ∈ l,j ≠ i) → l.filter (fun j=>!(listed.setIfInBounds i true).getD j true) = l.filter (fun j=>!listed.getD j true):=fun l hl =>
  List.filter_congr fun j hj=>by rw [getD_set_ne true (Ne.symm (hl j hj))]
 refine ⟨(List.range i).filter fun j=>!listed.getD j true,(List.range' (i + 1) (n - i - 1)).filter fun j=>!listed.getD j true,?_,?_,fun j hj=>?_⟩
 ·unfold rem
  rw [hr,List.filter_append,List.filter_cons,if_pos (by rw [hu];rfl)]
 ·unfold rem
  have hset : (listed.setIfInBounds i true).getD i true = true:=by
   have : i < listed.size:=by omega
   simp [this]
  rw [hr,List.filter_append,List.filter_cons,if_neg (by rw [hset];simp),hsame,hsame]
  ·intro j hj
   simp only [List.mem_range'_1] at hj
   omega
  ·intro j hj
   simp only [List.mem_range] at hj
   omega
 ·simp only [List.mem_filter,List.mem_range,Bool.not_eq_true'] at hj
  exact hj
theorem getD_tf {listed : Array Bool} {i : Nat} (h : listed.getD i false = true) : listed.getD i true = true:=by
 rcases Nat.lt_or_ge i listed.size with h' | h'
 ·simp [h'] at h ⊢;exact h
 ·simp [Array.getElem?_eq_none h'] at h
theorem getD_ft {listed : Array Bool} {i : Nat} (hi : i < listed.size) (h : listed.getD i true = true) : listed.getD i false = true:=by
 simp [hi] at h ⊢;exact h
theorem wpAny_of (hr : rid < 67108864) {w0 : World} {S0 : Nat → Prop} {B : Ctx} {Q : Exit → Act → World → Prop} (hΓ : GOK P Γ) {tm0 : List AV} (hok : regOK Γ ops tm0 = true) (hsz : ops.size ≤ 64) {fin : St} (hQ : ∀ a w,RelX w0 S0 B fin a w → Q .normal a w) :
  ∀ (fuel : Nat) (listed : Array Bool) (st f : St) (a : Act) (w : World),Fx rid ops tm0 st.tm → listed.size = ops.size → (rem listed ops.size).length ≤ fuel →
   (∀ j,j < ops.size → listed.getD j false = true → ∀ y ∈ (ancTab ops.toList).getD j [],listed.getD y false = true) →
   runL P Γ rid ops (ancTab ops.toList) (rem listed ops.size) st = some f → Eqv fin f → RelX w0 S0 B st a w → wpAnyIn (fen R) 0 P .any ops Q fuel listed a w:=by
 have done : ∀ (listed : Array Bool) (st f : St) (a : Act) (w : World),listed.size = ops.size → Region.ready .any ops listed = [] →
   runL P Γ rid ops (ancTab ops.toList) (rem listed ops.size) st = some f → Eqv fin f → RelX w0 S0 B st a w → Q .normal a w:=by
  intro listed st f a w hls hr hrun hE hX
  have hnil : rem listed ops.size = []:=by
   by_cases hne : rem listed ops.size = []
   ·exact hne
   ·exfalso
    have hex : ∃ i,i < ops.size ∧ listed.getD i true = false:=by
     obtain ⟨i,hi⟩:=List.exists_mem_of_ne_nil _ hne
     exact ⟨i,mem_rem.1 hi⟩
    have key : ∀ i,i < ops.size → listed.getD i true = false → False:=by
     intro i
     induction i using Nat.strongRecOn with
     | ind i ih =>
      intro hi hu
      have : i ∈ Region.ready .any ops listed:=mem_ready.2 ⟨hu,_,Array.getElem?_eq_getElem hi,fun e he hb=>by
       have hlt:=reg_edge hok (Array.getElem?_eq_getElem hi) e he hb
       cases hc : listed.getD e.on true with
       | true=>exact getD_ft (by omega) hc
       | false=>exact (ih e.on hlt (by omega) hc).elim⟩
      rw [hr] at this
      cases this
    obtain ⟨i,h1,h2⟩:=hex
    exact key i h1 h2
  rw [hnil] at hrun
  simp only [runL,Option.some.injEq] at hrun
  subst hrun
  exact hQ a w (hX.eqv hE.symm)
 intro fuel
 induction fuel with
 | zero =>
  intro listed st f a w hfx hls hlen hcl hrun hE hX
  have hnil : rem listed ops.size = []:=List.eq_nil_of_length_eq_zero (by omega)
  have hr : Region.ready .any ops listed = []:=by
   refine List.eq_nil_iff_forall_not_mem.2 fun i hi=>?_
   obtain ⟨hu,o,ho,_⟩:=mem_ready.1 hi
   have : i ∈ rem listed ops.size:=mem_rem.2 ⟨(Array.getElem?_eq_some_iff.1 ho).1,hu⟩
   rw [hnil] at this
   cases this
  exact ⟨hr,done listed st f a w hls hr hrun hE hX⟩
 | succ fuel ih =>
  intro listed st f a w hfx hls hlen hcl hrun hE hX
  refine ⟨fun hr=>done listed st f a w hls hr hrun hE hX,fun i hi=>?_⟩
  obtain ⟨hu,o,ho,hall⟩:=mem_ready.1 hi
  have hin:=(Array.getElem?_eq_some_iff.1 ho).1
  obtain ⟨l1,l2,hs1,hs2,hl1⟩:=rem_split hls hin hu
  have hbef : ∀ y ∈ (ancTab ops.toList).getD i [],listed.getD y false = true:=fun y hy=>by
   obtain ⟨e,he,hb,h2⟩:=tab_spec ho hy
   have hlt:=reg_edge hok ho e he hb
   have h3:=hall e he hb
   rcases h2 with rfl | h2
   ·exact h3
   ·exact hcl e.on (by omega) h3 y h2
  rw [hs1] at hrun
  obtain ⟨t,f',h1,h2,h3⟩:=toFront hΓ.natOK (tm0:=tm0) ho l1 l2 st f hfx (fun j hj=>by
   obtain ⟨hji,hju⟩:=hl1 j hj
   have hjn : j < ops.size:=by omega
   have hn : j ∉ (ancTab ops.toList).getD i []:=fun hm=>by
    have:=getD_tf (hbef j hm)
    rw [hju] at this
    cases this
   have hn' : i ∉ (ancTab ops.toList).getD j []:=fun hm=>by
    have:=tab_lt hok j i hjn hm
    omega
   exact ⟨ops[j],Array.getElem?_eq_getElem hjn,pair_indep hr (reg_pair hok (Array.getElem?_eq_getElem hjn) ho hji hn) (by omega) (by omega) (by omega) hn hn'⟩) hrun
  refine stepD_sound hΓ h1 hX fun a' w' hX'=>?_
  refine ih (listed.setIfInBounds i true) t f' a' w' (stepD_fx (by omega) hfx h1) (by simpa using hls) ?_ ?_ (by rw [hs2];exact h2) (hE.trans h3) hX'
  ·have : (rem listed ops.size).length = (l1 ++ l2).length + 1:=by rw [hs1];simp;omega
   rw [hs2]
   omega
  ·intro j hj hlj y hy
   by_cases hji : i = j
   ·subst hji
    exact getD_set_true (hbef y hy)
   ·rw [getD_set_ne false hji] at hlj
    exact getD_set_true (hcl j hj hlj y hy)
theorem rem_none (n : Nat) : rem (Array.replicate n false) n = List.range' 0 n:=by
 unfold rem
 rw [List.range_eq_range',List.filter_eq_self]
 intro i hi
 simp only [List.mem_range'_1] at hi
 have : i < n:=by omega
 simp [this]
theorem drawOK (hΓ : GOK P Γ) (hm : P.follows .mixedOrders = true) : DrawOK P Γ:=by
 intro ρ w0 S0 B id ops k r st a w Q R hsz hok hid h hX hk
 obtain ⟨fin,h1,h2⟩:=evOps_runL hΓ.natOK (tab:=ancTab ops.toList) (ops:=ops) ops.toList 0 st (fun j=>by simp) h
 refine wpIn_region_any hm ?_
 refine wpAny_of (rid:=id) hid hΓ hok hsz (fin:=fin) (fun a w hX'=>hk fin a w h2 hX') ops.size _ st fin a _ ⟨fun _ _=>rfl,fun s hs=>by unfold boxB at hs;simp only [Bool.and_eq_true] at hs;exact hs.1,fun bef s hs=>.inl (by unfold locB at hs;simp only [Bool.and_eq_true] at hs;exact hs.1)⟩ (by simp) (by rw [rem_none];simp) (fun j hj hl=>?_) ?_ (Eqv.refl _) (hX.world rfl rfl rfl rfl)
 ·simp [hj] at hl
 ·rw [rem_none]
  simpa using h1
end draw
end Go.Ev


namespace Go.Ev
open Go.RowKit Go.WideShapes Go.ChangeShapes
mutual
def Sh.wt : Sh → Nat
 | .str=>16
 | .slice _=>24
 | .agg l=>Sh.wts l
 | _=>1
def Sh.wts : List Sh → Nat
 | []=>0
 | s :: l=>s.wt + Sh.wts l
end
inductive Fit : AV → Prop where
 | int (k : IntKind) (n : Int) (h : (Lit.int k n).wf = true) : Fit (.int k n)
 | bool (b : Bool) : Fit (.bool b)
 | str (s : List UInt8) (h : s.length ≤ reachBytes) : Fit (.str s)
 | agg (cs : List AV) (h : ∀ c ∈ cs,Fit c) : Fit (.agg cs)
 | slv (s : Sh) (es : List AV) (h : es.length ≤ reachBytes) (hw : es.length * s.wt ≤ reachBytes) (hs : ∀ e ∈ es,hasSh s e = true) (hf : ∀ e ∈ es,Fit e) : Fit (.slv s es)
mutual
def AV.sz : AV → Nat
 | .str s=>s.length + 1
 | .agg cs=>AV.szs cs
 | .slv _ es=>AV.szs es + 1
 | _=>1
def AV.szs : List AV → Nat
 | []=>0
 | c :: cs=>c.sz + AV.szs cs
end
theorem szs_append (l r : List AV) : AV.szs (l ++ r) = AV.szs l + AV.szs r:=by
 induction l with
 | nil=>simp [AV.szs]
 | cons c l ih=>simp only [List.cons_append,AV.szs,ih];omega
structure BK (H : Type) where
 bk : DataW H → Nat
 all : List (DataW H) → Nat
 str : ∀ b,bk (.lit (.string b)) = b.length + 1
 lit : ∀ l,1 ≤ bk (.lit l)
 nil : 1 ≤ bk .nil
 agg : ∀ l,bk (.agg l) = all l + 1
 slice : ∀ e s,bk (.slice e s) = all e + all s + 1
 anil : all [] = 0
 acons : ∀ d l,all (d :: l) = bk d + all l
theorem BK.app {H : Type} (B : BK H) (l r : List (DataW H)) : B.all (l ++ r) = B.all l + B.all r:=by
 induction l with
 | nil=>simp [B.anil]
 | cons c l ih=>simp only [List.cons_append,B.acons,ih];omega
def laidF (P : Program) (ok : TypeId → Bool) (sh : TypeId → Sh) : Nat → List Field → Nat → Bool
 | off,[],total=>off == total
 | off,f :: fs,total=>(f.offset == off) && ((P.cellsOf f.type == (sh f.type).width) && (ok f.type && laidF P ok sh (off + P.cellsOf f.type) fs total))
def tyOK (P : Program) : Nat → TypeId → Bool
 | 0,_=>false
 | n + 1,t =>
  match P.underlying t with
  | some (.int _)=>true
  | some .bool=>true
  | some .string=>true
  | some (.slice e)=>(P.cellsOf e == (shOf P n e).width) && ((Nat.blt 0 (P.cellsOf e) && (Nat.blt 0 (P.bytesOf e) && Nat.ble (shOf P n e).wt (P.bytesOf e))) && tyOK P n e)
  | some (.struct fs)=>laidF P (tyOK P n) (shOf P n) 0 fs.toList (P.cellsOf t)
  | _=>false
theorem beqs_app : ∀ (l l' : List Sh),Sh.beqs l l = true → Sh.beqs l' l' = true → Sh.beqs (l ++ l') (l ++ l') = true
 | [],l',_,h=>h
 | a :: l,l',h,h'=>by
  simp only [Sh.beqs,Bool.and_eq_true] at h
  simp only [List.cons_append,Sh.beqs,Bool.and_eq_true]
  exact ⟨h.1,beqs_app l l' h.2 h'⟩
theorem beqs_cells {s : Sh} (h : Sh.beq s s = true) : Sh.beqs s.cells s.cells = true:=by
 cases s <;> simp_all [Sh.cells,Sh.beqs,Sh.beq]
theorem beqs_fields {P : Program} {ok : TypeId → Bool} {sh : TypeId → Sh} (hok : ∀ t,ok t = true → Sh.beq (sh t) (sh t) = true) : ∀ (fs : List Field) (off total : Nat),laidF P ok sh off fs total = true →
  Sh.beqs (fs.flatMap fun f=>(sh f.type).cells) (fs.flatMap fun f=>(sh f.type).cells) = true
 | [],_,_,_=>rfl
 | f :: fs,off,total,h=>by
  simp only [laidF,Bool.and_eq_true] at h
  rw [List.flatMap_cons]
  exact beqs_app _ _ (beqs_cells (hok _ h.2.2.1)) (beqs_fields hok fs _ _ h.2.2.2)
theorem beq_self {P : Program} : ∀ (n : Nat) (t : TypeId),tyOK P n t = true → Sh.beq (shOf P n t) (shOf P n t) = true
 | 0,_,h=>by simp [tyOK] at h
 | n + 1,t,h=>by
  simp only [tyOK] at h
  simp only [shOf]
  cases hu : P.underlying t with
  | none=>simp [hu] at h
  | some d =>
   simp only [hu] at h
   cases d <;> simp only [Bool.false_eq_true] at h <;> simp only [Sh.beq,decide_true]
   case slice e =>
    simp only [Bool.and_eq_true] at h
    exact beq_self n e h.2.2
   case struct fs =>
    exact beqs_fields (fun t ht=>beq_self n t ht) fs.toList _ _ h
section open_
variable {H : Type} {enc : TypeId × Value → H} {P : Program} {w : World} {sp : Nat → Bool} {held : Bool} (B : BK H)
def here (w : World) : Nat → Prop:=fun b=>b < w.heap.size
structure Opened (P : Program) (w : World) (s : Sh) (cs : List Value) (avs : List AV) (m : Nat) : Prop where
 rel : VRels w (here w) nob avs cs
 has : hass s.cells avs = true
 fit : ∀ c ∈ avs,Fit c
 one : ∀ u ∈ cs,u.oneCell' = true
 sz : AV.szs avs ≤ m
theorem mkAV_fit {s : Sh} {avs : List AV} (h : hass s.cells avs = true) (hf : ∀ c ∈ avs,Fit c) : Fit (mkAV s avs):=by
 have hc:=mkAV_of h
 cases s with
 | agg l=>exact .agg _ hf
 | _ =>
  cases avs with
  | nil=>simp [Sh.cells,hass] at h
  | cons c cs=>exact hf c (by simp)
theorem mkAV_sz {s : Sh} {avs : List AV} (h : hass s.cells avs = true) : (mkAV s avs).sz ≤ AV.szs avs:=by
 cases s with
 | agg l=>simp [mkAV,AV.sz]
 | _ =>
  cases avs with
  | nil=>simp [Sh.cells,hass] at h
  | cons c cs=>simp [mkAV,AV.szs]
theorem cell_block {a : Addr} {u : Value} (h : w.cell? a = some u) : a.block < w.heap.size:=by
 unfold World.cell? at h
 rcases Nat.lt_or_ge a.block w.heap.size with h' | h'
 ·exact h'
 ·simp [Array.getElem?_eq_none h'] at h
theorem cells_spec {a : Addr} : ∀ {n : Nat} {cs : List Value},w.cells? 0 a n = some cs → cs.length = n ∧ ∀ (j : Nat) (u : Value),cs[j]? = some u → w.cell? (a.add j) = some u:=by
 intro n
 unfold World.cells?
 simp only [Nat.zero_le,if_true]
 induction n with
 | zero=>intro cs h;simp at h;subst h;simp
 | succ n ih =>
  intro cs h
  rw [List.range_succ,List.mapM_append] at h
  cases h1 : (List.range n).mapM fun i=>w.cell? (a.add i) with
  | none=>simp [h1] at h
  | some l =>
   simp only [h1,Option.bind_eq_bind,Option.bind_some,List.mapM_cons,List.mapM_nil,Option.pure_def] at h
   cases h2 : w.cell? (a.add n) with
   | none=>simp [h2] at h
   | some u =>
    simp only [h2,Option.bind_some,Option.some.injEq] at h
    subst h
    obtain ⟨h3,h4⟩:=ih h1
    refine ⟨by simp [h3],fun j x hx=>?_⟩
    rcases Nat.lt_or_ge j l.length with hj | hj
    ·rw [List.getElem?_append_left hj] at hx;exact h4 j x hx
    ·rw [List.getElem?_append_right hj] at hx
     have : j - l.length = 0:=by
      rcases Nat.eq_zero_or_pos (j - l.length) with h | h
      ·exact h
      ·rw [List.getElem?_eq_none (by simp;omega)] at hx;cases hx
     rw [this] at hx
     simp at hx
     have : j = n:=by omega
     subst this
     rw [← hx];exact h2
theorem all_mem {e : TypeId} : ∀ {l : List (DataW H)} {d : DataW H},d ∈ l → ∀ n ∈ d.weights P e,n ∈ DataW.weightsAll P e l
 | d0 :: l,d,h,n,hn=>by
  simp only [DataW.weightsAll,List.mem_append]
  rcases List.mem_cons.1 h with rfl | h
  ·exact .inl hn
  ·exact .inr (all_mem h n hn)
theorem open_elems {s : Sh} {c : Nat} {a : Addr} {f : List Value → Option (DataW H × List MemPlace)} (hc : c = s.width) {elems : List (DataW H × List MemPlace)} (hf : ∀ cs x,x ∈ elems → f cs = some x → ∃ avs,Opened P w s cs avs (B.bk x.1))
  (he : ∀ i,i < elems.length → (w.cells? 0 (a.add (i * c)) c).bind f = elems[i]?) :
  ∀ (len : Nat),len ≤ elems.length →
   ∃ (es : List AV) (xs : List Value),es.length = len ∧ (∀ e ∈ es,hasSh s e = true) ∧ (∀ e ∈ es,Fit e) ∧ VRels w (here w) nob (flat es) xs ∧ (∀ u ∈ xs,u.oneCell' = true) ∧
    (∀ (j : Nat) (u : Value),xs[j]? = some u → w.cell? (a.add j) = some u) ∧ xs.length = len * c ∧ AV.szs es ≤ B.all ((elems.take len).map (·.1))
 | 0,_=>⟨[],[],rfl,by simp,by simp,VRels.nil,by simp,by simp,by simp,by simp [AV.szs]⟩
 | len + 1,hle=>by
  have hlt : len < elems.length:=by omega
  have h:=he len hlt
  rw [List.getElem?_eq_getElem hlt] at h
  cases h2 : w.cells? 0 (a.add (len * c)) c with
  | none=>simp [h2] at h
  | some cs =>
   simp only [h2,Option.bind_some] at h
   obtain ⟨es,xs,i1,i2,i3,i4,i5,i6,i7,i8⟩:=open_elems hc hf he len (by omega)
   obtain ⟨avs,hO⟩:=hf cs _ (List.getElem_mem hlt) h
   obtain ⟨c1,c2⟩:=cells_spec h2
   obtain ⟨m1,m2⟩:=mkAV_of hO.has
   refine ⟨es ++ [mkAV s avs],xs ++ cs,by simp [i1],?_,?_,?_,?_,?_,?_,?_⟩
   ·intro e he
    simp only [List.mem_append,List.mem_singleton] at he
    rcases he with he | rfl
    ·exact i2 e he
    ·exact m2
   ·intro e he
    simp only [List.mem_append,List.mem_singleton] at he
    rcases he with he | rfl
    ·exact i3 e he
    ·exact mkAV_fit hO.has hO.fit
   ·have : flat (es ++ [mkAV s avs]) = flat es ++ avs:=by simp [flat,m1]
    rw [this]
    exact i4.append hO.rel
   ·intro u hu
    simp only [List.mem_append] at hu
    rcases hu with hu | hu
    ·exact i5 u hu
    ·exact hO.one u hu
   ·intro j u hu
    rcases Nat.lt_or_ge j xs.length with hj | hj
    ·rw [List.getElem?_append_left hj] at hu;exact i6 j u hu
    ·rw [List.getElem?_append_right hj] at hu
     have:=c2 _ u hu
     rw [add_add,i7] at this
     have e : len * c + (j - len * c) = j:=by rw [i7] at hj;omega
     rwa [e] at this
   ·simp only [List.length_append,i7,c1];rw [Nat.succ_mul]
   ·rw [szs_append,List.take_add_one,List.getElem?_eq_getElem hlt,List.map_append,B.app]
    simp only [AV.szs,Option.toList_some,List.map_cons,List.map_nil,B.acons,B.anil]
    have:=mkAV_sz hO.has
    have:=hO.sz
    omega
theorem open_fields {sh : TypeId → Sh} {ok : TypeId → Bool} {f : TypeId → List Value → Option (DataW H × List MemPlace)} (hf : ∀ t cs x,ok t = true → (∀ n ∈ x.1.weights P t,n ≤ reachBytes) → f t cs = some x → ∃ avs,Opened P w (sh t) cs avs (B.bk x.1)) (cs : List Value) :
  ∀ (fs : List Field) (off : Nat) (xs : List (DataW H × List MemPlace)),laidF P ok sh off fs cs.length = true → xs.length = fs.length → (∀ n ∈ DataW.weightsEach P (fs.map (·.type)) (xs.map (·.1)),n ≤ reachBytes) → (∀ (i : Nat) (g : Field),fs[i]? = some g → f g.type ((cs.drop g.offset).take (P.cellsOf g.type)) = xs[i]?) →
   ∃ avs,VRels w (here w) nob avs (cs.drop off) ∧ hass (fs.flatMap fun g=>(sh g.type).cells) avs = true ∧ (∀ c ∈ avs,Fit c) ∧ (∀ u ∈ cs.drop off,u.oneCell' = true) ∧ AV.szs avs ≤ B.all (xs.map (·.1))
 | [],off,xs,hl,_,_,h=>by
  simp only [laidF,beq_iff_eq] at hl
  have hd : cs.drop off = []:=List.drop_eq_nil_of_le (by omega)
  rw [hd]
  exact ⟨[],VRels.nil,rfl,by simp,by simp,by simp [AV.szs]⟩
 | g :: fs,off,[],hl,hlen,_,h=>by simp at hlen
 | g :: fs,off,x :: ys,hl,hlen,hz,h=>by
    simp only [laidF,Bool.and_eq_true,beq_iff_eq] at hl
    obtain ⟨h1,h2,h3,h4⟩:=hl
    have e1 : f g.type ((cs.drop g.offset).take (P.cellsOf g.type)) = some x:=h 0 g rfl
    have e2 : ∀ (i : Nat) (g : Field),fs[i]? = some g → f g.type ((cs.drop g.offset).take (P.cellsOf g.type)) = ys[i]?:=fun i g hg=>h (i + 1) g hg
    obtain ⟨avs,hO⟩:=hf _ _ _ h3 (fun n hn=>hz n (by simp only [List.map_cons,DataW.weightsEach,List.mem_append];exact .inl hn)) e1
    obtain ⟨bvs,i1,i2,i3,i4,i5⟩:=open_fields hf cs fs _ ys h4 (by simpa using hlen) (fun n hn=>hz n (by simp only [List.map_cons,DataW.weightsEach,List.mem_append];exact .inr hn)) e2
    have hsp : cs.drop off = (cs.drop g.offset).take (P.cellsOf g.type) ++ cs.drop (off + P.cellsOf g.type):=by
     rw [h1,← List.drop_drop,List.take_append_drop]
    refine ⟨avs ++ bvs,?_,?_,?_,?_,?_⟩
    ·rw [hsp];exact hO.rel.append i1
    ·rw [List.flatMap_cons]
     have happ : ∀ (l l' : List Sh) (a b : List AV),hass l a = true → hass l' b = true → hass (l ++ l') (a ++ b) = true:=by
      intro l
      induction l with
      | nil=>intro l' a b ha hb;cases a <;> simp [hass] at ha;exact hb
      | cons s l ih =>
       intro l' a b ha hb
       cases a with
       | nil=>simp [hass] at ha
       | cons c a =>
        simp only [hass,Bool.and_eq_true] at ha
        simp only [List.cons_append,hass,Bool.and_eq_true]
        exact ⟨ha.1,ih l' a b ha.2 hb⟩
     exact happ _ _ _ _ hO.has i2
    ·intro c hc
     simp only [List.mem_append] at hc
     rcases hc with hc | hc
     ·exact hO.fit c hc
     ·exact i3 c hc
    ·intro u hu
     rw [hsp,List.mem_append] at hu
     rcases hu with hu | hu
     ·exact hO.one u hu
     ·exact i4 u hu
    ·rw [szs_append]
     simp only [List.map_cons,B.acons]
     have:=hO.sz
     omega
theorem open_cells : ∀ (fuel n : Nat) (t : TypeId) (cs : List Value) (x : DataW H × List MemPlace),tyOK P n t = true → (∀ m ∈ x.1.weights P t,m ≤ reachBytes) → DataW.trod enc P w 0 sp held fuel t cs = some x → ∃ avs,Opened P w (shOf P n t) cs avs (B.bk x.1)
 | 0,n,t,cs,x,_,_,h=>by simp [DataW.trod] at h
 | fuel + 1,0,t,cs,x,hn,_,_=>by simp [tyOK] at hn
 | fuel + 1,n + 1,t,cs,x,hn,hz,h=>by
  simp only [tyOK] at hn
  cases hu : P.underlying t with
  | none=>simp [hu] at hn
  | some d =>
   simp only [hu] at hn
   cases d <;> simp only [Bool.false_eq_true] at hn
   case bool =>
    obtain ⟨b,rfl,rfl⟩:=DataW.trod_bool hu h
    refine ⟨[.bool b],VRels.cons (.bool _ b) VRels.nil,by simp [shOf,hu,Sh.cells,hass,has1],?_,?_,?_⟩
    ·intro c hc;simp at hc;subst hc;exact .bool b
    ·intro c hc;simp at hc;subst hc;rfl
    ·simp only [AV.szs,AV.sz];exact B.lit _
   case int k =>
    obtain ⟨m,rfl,rfl,hw⟩:=DataW.trod_int hu h
    refine ⟨[.int k m],VRels.cons (.int _ k m) VRels.nil,by simp [shOf,hu,Sh.cells,hass,has1],?_,?_,?_⟩
    ·intro c hc;simp at hc;subst hc;exact .int k m hw
    ·intro c hc;simp at hc;subst hc;rfl
    ·simp only [AV.szs,AV.sz];exact B.lit _
   case string =>
    obtain ⟨s,rfl,rfl,hs⟩:=DataW.trod_string hu h
    have hv : VRel w (here w) nob (.str s.data.toList) (.string s):=by
     have:=VRel.str (w:=w) (S:=here w) nob s.data.toList
     simpa using this
    refine ⟨[.str s.data.toList],VRels.cons hv VRels.nil,by simp [shOf,hu,Sh.cells,hass,has1],?_,?_,?_⟩
    ·intro c hc;simp at hc;subst hc;exact .str _ (hz _ (by simp [DataW.weights]))
    ·intro c hc;simp at hc;subst hc;rfl
    ·simp only [AV.szs,AV.sz,B.str];omega
   case slice e =>
    simp only [Bool.and_eq_true,beq_iff_eq] at hn
    obtain ⟨n1,⟨n2,n4,n5⟩,n3⟩:=hn
    have hsh : shOf P (n + 1) t = .slice (shOf P n e):=by simp [shOf,hu]
    rw [hsh]
    rcases DataW.trod_slice hu h with ⟨rfl,rfl⟩ | ⟨a,len,cap,elems,rest,m,hm,rfl,rfl,_,hlc,hcm,hel,hat,_,_⟩
    ·refine ⟨[.slv (shOf P n e) []],VRels.cons (.slv _ _ [] none 0 ⟨0,0,none⟩ [] (by simp) (Nat.le_refl _) (Nat.zero_le _) (fun h=>absurd rfl h) rfl (by simp) (by simp) (by simp [flat])) VRels.nil,?_,?_,?_,?_⟩
     ·simp only [Sh.cells,hass,has1,Bool.and_true];exact beq_self n e n3
     ·intro c hc;simp at hc;subst hc;exact .slv _ _ (Nat.zero_le _) (by simp) (by simp) (by simp)
     ·intro c hc;simp at hc;subst hc;rfl
     ·simp only [AV.szs,AV.sz];exact B.nil
    ·obtain rfl : fuel = m:=by omega
     subst hel
     have hze : ∀ x ∈ elems,∀ m ∈ x.1.weights P e,m ≤ reachBytes:=fun x hx m hm=>hz m (by
      simp only [DataW.weights,hu,List.mem_cons,List.mem_append]
      exact .inr (.inl (all_mem (List.mem_map.2 ⟨x,hx,rfl⟩) m hm)))
     have hlw : elems.length * P.bytesOf e ≤ reachBytes:=by
      have h1:=hz ((elems.map (·.1)).length * P.bytesOf e + (rest.map (·.1)).length * P.bytesOf e) (by
       simp only [DataW.weights,hu,List.mem_cons]
       exact .inl (Nat.add_mul _ _ _).symm)
      rw [List.length_map] at h1
      omega
     have hlz : elems.length ≤ reachBytes:=by
      have h2 : 0 < P.bytesOf e:=Nat.le_of_ble_eq_true n4
      have h3:=Nat.le_mul_of_pos_right elems.length h2
      omega
     have hlv : elems.length * (shOf P n e).wt ≤ reachBytes:=Nat.le_trans (Nat.mul_le_mul_left _ (Nat.le_of_ble_eq_true n5)) hlw
     obtain ⟨es,xs,i1,i2,i3,i4,i5,i6,i7,i8⟩:=open_elems (a:=a) B n1 (elems:=elems) (fun cs x hm hx=>open_cells fuel n e cs x n3 (hze x hm) hx) (fun i hi=>hat i hi) elems.length (Nat.le_refl _)
     have hfl : (flat es).length = xs.length:=i4.1.symm
     have hv : VRel w (here w) nob (.slv (shOf P n e) es) (.slice (some a) es.length cap):=by
      refine .slv _ _ es (some a) cap a xs i2 (by omega) hcm (fun hne=>⟨rfl,?_⟩) hfl.symm i5 i6 (fun j c u hc hu=>i4.2 j c u hc hu)
      have hpos : 0 < xs.length:=by
       rw [i7]
       have : 0 < es.length:=List.length_pos_iff.2 hne
       exact Nat.mul_pos (by omega) (Nat.le_of_ble_eq_true n2)
      have:=i6 0 xs[0] (List.getElem?_eq_getElem hpos)
      have:=cell_block this
      rwa [add_block] at this
     rw [i1] at hv
     refine ⟨[.slv (shOf P n e) es],VRels.cons hv VRels.nil,?_,?_,?_,?_⟩
     ·simp only [Sh.cells,hass,has1,Bool.and_true];exact beq_self n e n3
     ·intro c hc;simp at hc;subst hc;exact .slv _ _ (by rw [i1];exact hlz) (by rw [i1];exact hlv) i2 i3
     ·intro c hc;simp at hc;subst hc;rfl
     ·simp only [AV.szs,AV.sz,B.slice]
      rw [List.take_of_length_le (Nat.le_refl _)] at i8
      omega
   case struct fs =>
    obtain ⟨xs,m,hm,rfl,hlen,hxl,hat⟩:=DataW.trod_struct hu h
    obtain rfl : fuel = m:=by omega
    rw [← hlen] at hn
    obtain ⟨avs,i1,i2,i3,i4,i5⟩:=open_fields B (f:=fun t cs=>DataW.trod enc P w 0 sp held fuel t cs) (fun t cs x ht hz hx=>open_cells fuel n t cs x ht hz hx) cs fs.toList 0 xs hn (by simpa using hxl) (fun m hm=>hz m (by simp only [DataW.weights,hu];exact hm)) (fun i g hg=>hat i g (by simpa using hg))
    refine ⟨avs,by simpa using i1,?_,i3,by simpa using i4,?_⟩
    ·simpa [shOf,hu,Sh.cells] using i2
    ·rw [B.agg];omega
theorem open_arg {n : Nat} {t : TypeId} {v : Value} {d : DataW H} {ps : List MemPlace} {r : Reach} {b0 : Nat} (hn : tyOK P n t = true) (hval : Value.okWide P w r b0 t v) (hz : ∀ m ∈ d.weights P t,m ≤ reachBytes) (h : DataW.Trod enc P w 0 sp held t v d ps) :
  ∃ av,VRel w (here w) nob av v ∧ hasSh (shOf P n t) av = true ∧ Fit av ∧ av.sz ≤ B.bk d:=by
 obtain ⟨fuel,h⟩:=h
 obtain ⟨avs,hO⟩:=open_cells B fuel n t _ _ hn hz h
 have hm:=mkAV_of hO.has
 refine ⟨mkAV (shOf P n t) avs,?_,hm.2,mkAV_fit hO.has hO.fit,Nat.le_trans (mkAV_sz hO.has) hO.sz⟩
 cases n with
 | zero=>simp [tyOK] at hn
 | succ n =>
  have one : (∃ u,v = u ∧ v.cells.toList = [v]) → (mkAV (shOf P (n + 1) t) avs = avs.headD .unk) → VRel w (here w) nob (mkAV (shOf P (n + 1) t) avs) v:=by
   rintro ⟨u,_,hv⟩ hmk
   have hrel:=hO.rel
   rw [hv] at hrel
   rw [hmk]
   cases avs with
   | nil=>simpa using hrel.1
   | cons c cs =>
    obtain ⟨v',vs',h1,h2,_⟩:=hrel.inv
    cases h1
    exact h2
  simp only [tyOK] at hn
  cases hu : P.underlying t with
  | none=>simp [hu] at hn
  | some dd =>
   simp only [hu] at hn
   cases dd <;> simp only [Bool.false_eq_true] at hn
   case bool=>obtain ⟨b,rfl⟩:=okWide_bool hu hval;exact one ⟨_,rfl,rfl⟩ (by simp [shOf,hu,mkAV])
   case int k=>obtain ⟨b,rfl⟩:=okWide_int hu hval;exact one ⟨_,rfl,rfl⟩ (by simp [shOf,hu,mkAV])
   case string=>obtain ⟨b,rfl⟩:=okWide_string hu hval;exact one ⟨_,rfl,rfl⟩ (by simp [shOf,hu,mkAV])
   case slice e =>
    refine one ⟨_,rfl,?_⟩ (by simp [shOf,hu,mkAV])
    simp only [Value.okWide,hu,Cell.okWide] at hval
    cases v <;> simp_all [Cell.ok,Value.cells]
   case struct fs =>
    obtain ⟨cs,rfl,_⟩:=okWide_struct hu hval
    have hmk : mkAV (shOf P (n + 1) t) avs = .agg avs:=by simp [shOf,hu,mkAV]
    rw [hmk]
    have:=VRel.agg (w:=w) (S:=here w) nob avs cs.toList hO.rel.1 (fun u hu=>hO.one u hu) (fun j c u hc hu=>hO.rel.2 j c u hc hu)
    simpa using this
end open_
end Go.Ev


namespace Go.Ev
open Go.RowKit Go.WideShapes Go.ChangeShapes
def hasAll : List Sh → List AV → Bool
 | [],[]=>true
 | s :: l,c :: cs=>hasSh s c && hasAll l cs
 | _,_=>false
structure Given (ss : List Sh) (avs : List AV) (m : Nat) : Prop where
 has : hasAll ss avs = true
 fit : ∀ a ∈ avs,Fit a
 sz : AV.szs avs ≤ m
section
variable {H : Type} {enc : TypeId × Value → H} {P : Program}
theorem open_args (B : BK H) {n : Nat} {w : World} {sp : Nat → Bool} {held : Bool} {r : Reach} {b0 : Nat} : ∀ (ts : List TypeId) (vs : List Value) (ds : List (DataW H)) (ps : List MemPlace),(∀ t ∈ ts,tyOK P n t = true) →
  (∀ (j : Nat) (t : TypeId) (v : Value),ts[j]? = some t → vs[j]? = some v → Value.okWide P w r b0 t v) → (∀ m ∈ DataW.weightsEach P ts ds,m ≤ reachBytes) → DataW.TrodAll enc P w 0 sp held ts vs ds ps →
  ∃ avs,VRels w (here w) nob avs vs ∧ Given (ts.map (shOf P n)) avs (B.all ds) ∧ ds.length = ts.length
 | [],[],[],ps,_,_,_,_=>⟨[],VRels.nil,⟨rfl,by simp,by simp [AV.szs]⟩,rfl⟩
 | [],[],_ :: _,ps,_,_,_,h=>h.elim
 | [],_ :: _,_,ps,_,_,_,h=>by cases ‹List (DataW H)› <;> exact h.elim
 | _ :: _,[],_,ps,_,_,_,h=>by cases ‹List (DataW H)› <;> exact h.elim
 | _ :: _,_ :: _,[],ps,_,_,_,h=>h.elim
 | t :: ts,v :: vs,d :: ds,ps,ht,hv,hz,h=>by
  obtain ⟨p,q,h1,h2,rfl⟩:=h
  obtain ⟨av,a1,a2,a3,a4⟩:=open_arg B (ht t (by simp)) (hv 0 t v rfl rfl) (fun m hm=>hz m (by simp only [DataW.weightsEach,List.mem_append];exact .inl hm)) h1
  obtain ⟨avs,i1,i2,i3⟩:=open_args B ts vs ds q (fun t' h'=>ht t' (by simp [h'])) (fun j t' v' h1 h2=>hv (j + 1) t' v' h1 h2) (fun m hm=>hz m (by simp only [DataW.weightsEach,List.mem_append];exact .inr hm)) h2
  refine ⟨av :: avs,VRels.cons a1 i1,⟨?_,?_,?_⟩,by simp [i3]⟩
  ·simp only [List.map_cons,hasAll,Bool.and_eq_true];exact ⟨a2,i2.has⟩
  ·intro a ha
   simp only [List.mem_cons] at ha
   rcases ha with rfl | ha
   ·exact a3
   ·exact i2.fit a ha
  ·simp only [AV.szs,B.acons]
   have:=i2.sz
   omega
theorem keep_args {W W' : World} {sp : Nat → Bool} (hl : laidOutB P = true) (hb : Below W.heap.size W W') : ∀ (ts : List TypeId) (vs : List Value) (ds : List (DataW H)) (ps : List MemPlace),(∀ t ∈ ts,P.readableRec t = true ∧ t < P.types.size) →
  DataW.TrodAll enc P W 0 (fun _=>true) true ts vs ds ps → (∀ x ∈ ps,x.block < W.heap.size) → (∀ x ∈ ps,sp x.block = true) → DataW.TrodAll enc P W' 0 sp true ts vs ds ps
 | [],[],[],ps,_,h,_,_=>h
 | [],[],_ :: _,ps,_,h,_,_=>h.elim
 | [],_ :: _,_,ps,_,h,_,_=>by cases ‹List (DataW H)› <;> exact h.elim
 | _ :: _,[],_,ps,_,h,_,_=>by cases ‹List (DataW H)› <;> exact h.elim
 | _ :: _,_ :: _,[],ps,_,h,_,_=>h.elim
 | t :: ts,v :: vs,d :: ds,ps,ht,h,hlt,hs=>by
  obtain ⟨p,q,h1,h2,rfl⟩:=h
  refine ⟨p,q,?_,keep_args hl hb ts vs ds q (fun t' h'=>ht t' (by simp [h'])) h2 (fun x hx=>hlt x (by simp [hx])) (fun x hx=>hs x (by simp [hx])),rfl⟩
  obtain ⟨r1,r2⟩:=ht t (by simp)
  exact WideElems.Trod_stays hl r1 r2 h1 (fun x hx=>hb.same (hlt x (by simp [hx]))) (fun x hx=>hs x (by simp [hx]))
theorem post_of_below {f : Func} {s : ChangeSpec} {apart fresh handsOn again : Bool} {W W' : World} {args : Array Value} {v : Value} {ds gs : List (DataW H)} {before pa pv : List MemPlace}
  (hW : DataW.Whole enc P f.params.toList s.vars apart W args.toList ds gs before)
  (hres : ∀ (b : Nat) (sp : Nat → Bool) (hd : Bool),DataW.TrodAll enc P W' b sp hd f.resultTypes.toList (v.resultList f.resultTypes.size) (s.fn H (ds ++ gs)).results [])
  (hargs : ∀ sp : Nat → Bool,(∀ p ∈ before,sp p.block = true) → DataW.TrodAll enc P W' 0 sp true f.params.toList args.toList (s.fn H (ds ++ gs)).args pa)
  (hvars : ∀ sp : Nat → Bool,(∀ p ∈ before,sp p.block = true) → DataW.TrodVars enc P W' sp s.vars (s.fn H (ds ++ gs)).vars pv)
  (hps : before = pa ++ pv) (hb : Below W.heap.size W W')
  (hok : ∀ (j : Nat) (t : TypeId) (r : Value),f.resultTypes[j]? = some t → (v.resultList f.resultTypes.size)[j]? = some r → Value.okWide P W' .any 0 t r) :
  s.post enc P f apart fresh handsOn again W args v W':=by
 have hlt : ∀ p ∈ before,p.block < W.heap.size:=fun p hp=>hW.lt p hp
 have hold : ∀ p ∈ before,(fun b=>decide (b < W.heap.size)) p.block = true:=fun p hp=>by simpa using hlt p hp
 refine ⟨ds,gs,before,[],pa,pv,hW,hres _ _ _,hargs _ hold,hvars _ hold,World.keptBut_mono (fun p hp=>⟨hp,?_⟩) (hb.frame (· ∈ before)),fun _=>?_⟩
 ·rw [hps,List.mem_append] at hp
  exact Or.inr hp
 ·obtain ⟨_,_,_,_,_,hz,hn⟩:=hW
  refine ⟨hok,_,_,([] ++ pa) ++ pv,⟨[] ++ pa,pv,trodAll_append (hargs _ (fun _ _=>rfl)) (hres _ _ _),hvars _ (fun _ _=>rfl),rfl,?_,?_⟩,?_⟩
  ·intro b off hp
   have hin : MemPlace.cell b off ∈ before:=by rw [hps];simpa using hp
   rw [hb.frozen (hlt _ hin)]
   exact hz b off hin
  ·intro ha
   have:=hn ha
   rw [hps] at this
   simpa using this
  ·intro p hp _
   rw [hps]
   simpa using hp
def parsOK (P : Program) (n : Nat) (ts : List TypeId) : Bool:=ts.all fun t=>tyOK P n t && (P.readableRec t && Nat.blt t P.types.size)
theorem contract_of (B : BK H) {n : Nat} {f : FuncId} {fn : Func} {s : ChangeSpec} {F : Summ} {tb : TypeId} (hl : laidOutB P = true) (hp : parsOK P n fn.params.toList = true) (hbody : hasBody P f = true) (hv : s.vars = []) (hr : fn.resultTypes = #[tb]) (hub : P.underlying tb = some .bool)
  (hs : ∀ ds : List (DataW H),ds.length = fn.params.size → s.fn H ds = { results:=[.lit (.bool true)],args:=ds }) (hF : SumOK P f F)
  {W : World} {base : Nat} {args : Array Value} {ds gs : List (DataW H)} {before : List MemPlace}
  (hlaw : ∀ avs,Given (fn.params.toList.map (shOf P n)) avs (B.all (ds ++ gs)) → F AV avs some = some (.bool true))
  (hval : ∀ (j : Nat) t v,fn.params[j]? = some t → args[j]? = some v → Value.okWide P W .any base t v)
  (hz : (DataW.weightsEach P (fn.params.toList ++ s.plain.varTypes P) (ds ++ gs)).all (· ≤ reachBytes) = true)
  (hW : DataW.Whole enc P fn.params.toList s.vars false W args.toList ds gs before) (hG : Glb (fun b=>b < W.heap.size) W:=by exact fun _ _=>trivial) :
  Calls P f args W fun e W'=>∃ v,e = .returned v ∧ s.post enc P fn false true false false W args v W':=by
 have hW':=hW
 obtain ⟨p,q,hA,hV,rfl,hfz,hnd⟩:=hW
 rw [hv] at hV
 have hgs : gs = [] ∧ q = []:=by
  cases gs with
  | nil=>exact ⟨rfl,hV⟩
  | cons=>exact hV.elim
 obtain ⟨rfl,rfl⟩:=hgs
 simp only [parsOK,List.all_eq_true,Bool.and_eq_true] at hp
 have hz' : ∀ m ∈ DataW.weightsEach P fn.params.toList ds,m ≤ reachBytes:=by
  have hvt : s.plain.varTypes P = []:=by
   show s.vars.filterMap _ = _
   rw [hv];rfl
  rw [hvt,List.append_nil,List.append_nil] at hz
  exact fun m hm=>by simpa using List.all_eq_true.1 hz m hm
 obtain ⟨avs,i1,i2,i3⟩:=open_args B fn.params.toList args.toList ds p (fun t ht=>(hp t ht).1) (fun j t v h1 h2=>hval j t v (by simpa using h1) (by simpa using h2)) hz' hA
 have hlw:=hlaw avs (by simpa using i2)
 have hc:=(hF AV W (here W) avs args.toList some _ ⟨fun b hb=>hb,hG⟩ i1 hlw).calls hbody
 have hlt : ∀ x ∈ p,x.block < W.heap.size:=fun x hx=>hW'.lt x (by simpa using hx)
 have hsfn:=hs ds (by simpa using i3)
 simp only [Array.toArray_toList] at hc
 refine hc.mono fun e W' he=>?_
 obtain ⟨v,av,S',rfl,hk,hb,_,_,hvr⟩:=he
 cases hk
 have hvv : v = .bool true:=hvr.bool_inv
 subst hvv
 refine ⟨_,rfl,post_of_below (pa:=p) (pv:=[]) hW' ?_ ?_ ?_ (by simp) hb ?_⟩
 ·intro b sp hd
  rw [List.append_nil,hsfn,hr]
  exact ⟨[],[],⟨1,by simp [DataW.trod,Value.cells,hub]⟩,rfl,rfl⟩
 ·intro sp hsp
  rw [List.append_nil,hsfn]
  exact keep_args hl hb _ _ _ _ (fun t ht=>⟨(hp t ht).2.1,Nat.le_of_ble_eq_true (hp t ht).2.2⟩) hA hlt (fun x hx=>hsp x (by simpa using hx))
 ·intro sp _
  rw [List.append_nil,hsfn,hv]
  rfl
 ·intro j t r h1 h2
  rw [hr] at h1 h2
  cases j with
  | zero =>
   simp [Value.resultList] at h1 h2
   subst h1;subst h2
   simp only [Value.okWide,hub,Cell.okWide,Cell.ok]
  | succ j=>simp at h1
end
end Go.Ev


namespace Go.Ev
open Go.RowKit
section nat
variable {P : Program} {Γ : Env} {K : List (Nat × Loop)}
theorem decideAt_bind {ρ : Type} (ops : List Oper) (i : Nat) (dst : Option Tmp) (st : St) (f : St → Option St) (g : St → Option ρ) (k : St → Option ρ) (h : ∀ s,g s = (f s).bind k) : decideAt ops i dst st g = (decideAt ops i dst st f).bind k:=by
 unfold decideAt
 split
 ·split
  ·split
   ·rename_i b _;cases b <;> simp only [cond_true,cond_false,h]
   ·rfl
  ·rfl
 ·exact h st
theorem evOps_bind (hN : NatOK Γ) {ρ : Type} (rid : Nat) (ops : List Oper) (bef : Option (List (List Nat))) (k : St → Option ρ) : ∀ (l : List Oper) (i : Nat) (st : St),evOps P Γ rid ops bef k i l st = (evOps P Γ rid ops bef some i l st).bind k
 | [],i,st=>rfl
 | o :: rest,i,st=>by
  have ih:=evOps_bind hN rid ops bef k rest (i + 1)
  have run : ∀ rows,evOp P Γ (rid * 64 + i) o st.tm rows (fun e=>if freshB (rid * 64 + i) e st.used then (apply (rid * 64 + i) o.dst e st).force fun st1=>decideAt ops i o.dst st1 (evOps P Γ rid ops bef k (i + 1) rest) else none) =
    (evOp P Γ (rid * 64 + i) o st.tm rows (fun e=>if freshB (rid * 64 + i) e st.used then (apply (rid * 64 + i) o.dst e st).force fun st1=>decideAt ops i o.dst st1 (evOps P Γ rid ops bef some (i + 1) rest) else none)).bind k:=fun rows=>by
   rw [evOp_bind hN,evOp_bind hN (y:=fun e=>if freshB (rid * 64 + i) e st.used then (apply (rid * 64 + i) o.dst e st).force fun st1=>decideAt ops i o.dst st1 (evOps P Γ rid ops bef some (i + 1) rest) else none)]
   cases evOp P Γ (rid * 64 + i) o st.tm rows some with
   | none=>rfl
   | some e =>
    simp only [Option.bind_some,St.force_eq]
    split
    ·exact decideAt_bind ops i o.dst _ _ _ k ih
    ·rfl
  have fin : ∀ rows,(match o.guard with
    | none=>evOp P Γ (rid * 64 + i) o st.tm rows fun e=>if freshB (rid * 64 + i) e st.used then (apply (rid * 64 + i) o.dst e st).force fun st1=>decideAt ops i o.dst st1 (evOps P Γ rid ops bef k (i + 1) rest) else none
    | some (j,want) =>
     match guardAt ops st.tm j with
     | .bool b=>bif b == want then
       evOp P Γ (rid * 64 + i) o st.tm rows fun e=>if freshB (rid * 64 + i) e st.used then (apply (rid * 64 + i) o.dst e st).force fun st1=>decideAt ops i o.dst st1 (evOps P Γ rid ops bef k (i + 1) rest) else none
      else evOps P Γ rid ops bef k (i + 1) rest ⟨putTm st.tm o.dst .undef,st.rows,st.used⟩
     | .undef=>evOps P Γ rid ops bef k (i + 1) rest ⟨putTm st.tm o.dst .undef,st.rows,st.used⟩
     | _=>none) = Option.bind (match o.guard with
    | none=>evOp P Γ (rid * 64 + i) o st.tm rows fun e=>if freshB (rid * 64 + i) e st.used then (apply (rid * 64 + i) o.dst e st).force fun st1=>decideAt ops i o.dst st1 (evOps P Γ rid ops bef some (i + 1) rest) else none
    | some (j,want) =>
     match guardAt ops st.tm j with
     | .bool b=>bif b == want then
       evOp P Γ (rid * 64 + i) o st.tm rows fun e=>if freshB (rid * 64 + i) e st.used then (apply (rid * 64 + i) o.dst e st).force fun st1=>decideAt ops i o.dst st1 (evOps P Γ rid ops bef some (i + 1) rest) else none
      else evOps P Γ rid ops bef some (i + 1) rest ⟨putTm st.tm o.dst .undef,st.rows,st.used⟩
     | .undef=>evOps P Γ rid ops bef some (i + 1) rest ⟨putTm st.tm o.dst .undef,st.rows,st.used⟩
     | _=>none) k:=fun rows=>by
   cases o.guard with
   | none=>exact run _
   | some p =>
    obtain ⟨j,want⟩:=p
    simp only
    cases guardAt ops st.tm j <;> try rfl
    ·exact ih _
    ·rename_i b
     simp only
     generalize (b == want) = c
     cases c
     ·exact ih _
     ·exact run _
  exact fin _
theorem unrL_nat {f : (ρ : Type) → St → (Ex → St → Option ρ) → Option ρ} (hf : ∀ (ρ : Type) (st : St) (k : Ex → St → Option ρ),f ρ st k = (f (Ex × St) st fun e st'=>some (e,st')).bind fun p=>k p.1 p.2) :
  ∀ (n : Nat) (ρ : Type) (st : St) (k : Ex → St → Option ρ),unrL f n ρ st k = (unrL f n (Ex × St) st fun e st'=>some (e,st')).bind fun p=>k p.1 p.2
 | 0,_,_,_=>rfl
 | n + 1,ρ,st,k=>by
  unfold unrL
  refine Eq.trans (hf ρ st _) (Eq.symm (Eq.trans (congrArg (fun o=>Option.bind o _) (hf (Ex × St) st _)) ?_))
  cases f (Ex × St) st fun e st'=>some (e,st') with
  | none=>rfl
  | some p =>
   obtain ⟨e,st'⟩:=p
   cases e with
   | normal=>exact (unrL_nat hf n ρ st' k).symm
   | exit id=>rfl
   | ret=>rfl
theorem evC_bind (hN : NatOK Γ) (hfk : Γ.fork = false) : ∀ (c : Code),KOK P Γ K c → ∀ (ρ : Type) (st : St) (k : Ex → St → Option ρ),evC P Γ K c ρ st k = (evC P Γ K c (Ex × St) st fun e st'=>some (e,st')).bind fun p=>k p.1 p.2:=by
 intro c
 induction c with
 | skip=>intro _ ρ st k;rfl
 | label l=>intro _ ρ st k;rfl
 | region id ops draw =>
  intro _ ρ st k
  simp only [evC]
  split
  ·split
   ·split
    ·rw [evOps_bind hN,evOps_bind hN (k:=fun st'=>some (Ex.normal,st'))]
     cases evOps P Γ id ops.toList (some (ancTab ops.toList)) some 0 ops.toList st <;> rfl
    ·rfl
   ·rw [evOps_bind hN,evOps_bind hN (k:=fun st'=>some (Ex.normal,st'))]
    cases evOps P Γ id ops.toList none some 0 ops.toList st <;> rfl
  ·rfl
 | seq x z ihx ihz =>
  intro hK ρ st k
  simp only [evC]
  refine Eq.trans (ihx hK.seqL ρ st _) (Eq.symm (Eq.trans (congrArg (fun o=>Option.bind o _) (ihx hK.seqL (Ex × St) st _)) ?_))
  cases evC P Γ K x (Ex × St) st fun e st'=>some (e,st') with
  | none=>rfl
  | some p =>
   obtain ⟨e,st'⟩:=p
   cases e with
   | normal=>exact (ihz hK.seqR ρ st' k).symm
   | exit i=>rfl
   | ret=>rfl
 | cond c x z ihx ihz =>
  intro hK ρ st k
  simp only [evC]
  split
  ·rename_i t _
   cases t
   ·exact ihz hK.condR ρ st k
   ·exact ihx hK.condL ρ st k
  ·rw [hfk];rfl
  ·rfl
 | block id b ih =>
  intro hK ρ st k
  simp only [evC]
  refine Eq.trans (ih hK.block ρ st _) (Eq.symm (Eq.trans (congrArg (fun o=>Option.bind o _) (ih hK.block (Ex × St) st _)) ?_))
  cases evC P Γ K b (Ex × St) st fun e st'=>some (e,st') with
  | none=>rfl
  | some p =>
   obtain ⟨e,st'⟩:=p
   cases e with
   | normal=>rfl
   | ret=>rfl
   | exit i=>simp only [Option.bind_some];split <;> rfl
 | loop b ih =>
  intro hK ρ st k
  simp only [evC]
  split
  ·rename_i l hl
   split
   ·rw [St.force_eq,St.force_eq]
    have hn:=(hK b (by simp [loopsOf]) l hl).2
    rw [hn,hn (k:=fun e vs rs=>some (e,expand l.N vs rs))]
    generalize l.L _ _ _ _ = x
    cases x <;> rfl
   ·rfl
  ·exact unrL_nat (fun ρ st k=>ih hK.loop ρ st k) Γ.unroll ρ st k
 | exit id=>intro _ ρ st k;rfl
 | ret=>intro _ ρ st k;rfl
 | rangeFunc g ps assign body _ _ =>
  intro hK ρ st k
  simp only [evC]
  split
  ·rename_i key site hrng
   split
   ·rename_i gf caps hg
    split
    ·rename_i F hF
     split
     ·rw [evX_bind (hN.2.1 _ F hF),evX_bind (hN.2.1 _ F hF) (y:=fun e=>if freshB site e (site :: st.used) then (apply site none e ⟨st.tm,setRow st.rows site (rngRow key st),site :: st.used⟩).force fun st2=>rngEnd site st2 (fun e st'=>some (e,st')) else none)]
      cases evX site F (.own site :: caps) (setRow st.rows site (rngRow key st)) some with
      | none=>rfl
      | some e =>
       simp only [Option.bind_some]
       split
       ·rw [St.force_eq,St.force_eq]
        unfold rngEnd
        split <;> rfl
       ·rfl
     ·rfl
    ·rfl
   ·rfl
  ·rfl
 | scope b _=>intro _ ρ st k;rfl
 | goto l=>intro _ ρ st k;rfl
 | refuse why=>intro _ ρ st k;rfl
def after (l : Loop) (μ : List AV → List (Option Row) → Nat) (m : Nat) {ρ : Type} (k : Ex → List AV → List (Option Row) → Option ρ) (e : Ex) (st : St) : Option ρ :=
 if Nat.beq st.tm.length l.N.len then (norm l.N st).force fun st1=>(match e with
  | .normal=>bif decide (μ (valsOf l.N st1) (rowsN l.N st1) < m) then l.L ρ (valsOf l.N st1) (rowsN l.N st1) k else none
  | e=>k e (valsOf l.N st1) (rowsN l.N st1)) else none
theorem loopOK_of (hN : NatOK Γ) (hfk : Γ.fork = false) {b : Code} {l : Loop} (hK : KOK P Γ K b) (μ : List AV → List (Option Row) → Nat)
  (hround : ∀ (ρ : Type) (vs : List AV) (rs : List (Option Row)) (k : Ex → List AV → List (Option Row) → Option ρ) (r : ρ),l.L ρ vs rs k = some r → evC P Γ K b ρ (expand l.N vs rs) (after l μ (μ vs rs) k) = some r)
  (hnat : ∀ (ρ : Type) (vs : List AV) (rs : List (Option Row)) (k : Ex → List AV → List (Option Row) → Option ρ),l.L ρ vs rs k = (l.L (Ex × List AV × List (Option Row)) vs rs fun e v x=>some (e,v,x)).bind fun q=>k q.1 q.2.1 q.2.2) : LoopOK P Γ K b l:=by
 refine ⟨?_,hnat⟩
 intro ρ vs rs k r h
 generalize hm : μ vs rs = m
 induction m using Nat.strongRecOn generalizing vs rs with
 | ind m ih =>
  subst hm
  have h1:=hround ρ vs rs k r h
  rw [evC_bind hN hfk b hK] at h1
  cases hb : evC P Γ K b (Ex × St) (expand l.N vs rs) fun e st'=>some (e,st') with
  | none=>rw [hb] at h1;cases h1
  | some q =>
   rw [hb,Option.bind_some] at h1
   obtain ⟨e,st'⟩:=q
   unfold after at h1
   split at h1
   ·rename_i hlen
    rw [St.force_eq] at h1
    have fin : ∀ (e' : Ex),e' ≠ .normal → e = e' → k e' (valsOf l.N (norm l.N st')) (rowsN l.N (norm l.N st')) = some r → ∃ m p,iter l.N (fun st=>evC P Γ K b (Ex × St) st fun e st'=>some (e,st')) m vs rs = some p ∧ k p.1 p.2.1 p.2.2 = some r:=by
     intro e' hne he hk
     subst he
     refine ⟨1,(e,valsOf l.N (norm l.N st'),rowsN l.N (norm l.N st')),?_,hk⟩
     cases e with
     | normal=>exact absurd rfl hne
     | exit i=>simp only [iter,hb,hlen,if_true]
     | ret=>simp only [iter,hb,hlen,if_true]
    cases e with
    | normal =>
     obtain ⟨hlt,h2⟩:=bif_some h1
     have hlt':=of_decide_eq_true hlt
     obtain ⟨m,p,i1,i2⟩:=ih _ hlt' _ _ h2 rfl
     exact ⟨m + 1,p,by simp only [iter,hb,hlen,if_true];exact i1,i2⟩
    | exit i=>exact fin _ (by simp) rfl h1
    | ret=>exact fin _ (by simp) rfl h1
   ·cases h1
theorem finish_bind {ρ : Type} (fn : Func) (st : St) (k : AV → Option ρ) : finish P fn st k = (finish P fn st some).bind k:=by
 rw [finish_eq,finish_eq]
 unfold finish0
 repeat' split
 all_goals rfl
theorem snat_evF (hN : NatOK Γ) (hfk : Γ.fork = false) {fn : Func} (hK : ∀ c,fn.body = some c → KOK P Γ K c) : SNat (evF P Γ K fn):=by
 intro ρ avs k
 unfold evF
 split
 ·rfl
 ·rename_i c hc
  rw [St.force_eq,St.force_eq]
  refine Eq.trans (evC_bind hN hfk c (hK c hc) ρ _ _) (Eq.symm (Eq.trans (congrArg (fun o=>Option.bind o _) (evC_bind hN hfk c (hK c hc) AV _ _)) ?_))
  cases evC P Γ K c (Ex × St) (St.mk (avs ++ List.replicate (fn.ntmps - avs.length) .undef) [] []) fun e st'=>some (e,st') with
  | none=>rfl
  | some p =>
   obtain ⟨e,st'⟩:=p
   cases e with
   | normal=>exact (finish_bind fn st' k).symm
   | ret=>exact (finish_bind fn st' k).symm
   | exit i=>rfl
theorem sumOK_inline (hΓ : GOK P Γ) (hD : DrawOK P Γ) {f : FuncId} {fn : Func} (hfn : P.funcs[f]? = some fn) (hK : ∀ c,fn.body = some c → KOK P Γ K c) (hrg : Γ.rng = []:=by rfl) : SumOK P f (evF P Γ K fn) :=
 sumOK_of hΓ hD hfn (fun _ _ _ _ h=>⟨K,hK,h⟩) hrg
theorem GOK.cons {f : Nat} {F : Summ} (hΓ : GOK P Γ) (hF : SumOK P f F) (hn : SNat F) : GOK P { Γ with pure:=(f,F) :: Γ.pure }:=by
 refine ⟨fun g G h=>?_,fun g G h=>?_,hΓ.opens,hΓ.nat,hΓ.yld⟩
 ·simp only [find,findIn] at h
  split at h
  ·rename_i e;cases h;subst e;exact hF
  ·exact hΓ.pure g G h
 ·simp only [find,findIn] at h
  split at h
  ·cases h;exact hn
  ·exact hΓ.snat g G h
theorem GOK.consX {f : Nat} {F : SummX} (hΓ : GOK P Γ) (hF : XOK P f F) (hn : XNat F) : GOK P { Γ with opens:=(f,F) :: Γ.opens }:=by
 refine ⟨hΓ.pure,hΓ.snat,fun g G h=>?_,fun g G h=>?_,hΓ.yld⟩
 ·simp only [findX,findIn] at h
  split at h
  ·rename_i e;cases h;subst e;exact hF
  ·exact hΓ.opens g G h
 ·simp only [findX,findIn] at h
  split at h
  ·cases h;exact hn
  ·exact hΓ.nat g G h
theorem GOK.empty : GOK P { pure:=[] }:=⟨fun _ _ h=>(by cases h),fun _ _ h=>(by cases h),fun _ _ h=>(by cases h),fun _ _ h=>(by cases h),fun _ _ _ h=>(by cases h)⟩
theorem GOK.flags {t fk cv hl : Bool} {e : List Nat} {rg : List (Nat × Int × Nat)} {ur : Nat} (hΓ : GOK P Γ) : GOK P { Γ with tmpX:=t,ext:=e,fork:=fk,conv:=cv,hole:=hl,rng:=rg,unroll:=ur }:=⟨hΓ.pure,hΓ.snat,hΓ.opens,hΓ.nat,hΓ.yld⟩
theorem GOK.yields {key : Int} {np : Nat} {F : SummX} (hΓ : GOK P Γ) (hn : np = (loopCode key).1.size) (h : YOK P key F ∧ XNat F) : GOK P { Γ with yld:=some (key,np,F) }:=⟨hΓ.pure,hΓ.snat,hΓ.opens,hΓ.nat,fun key' np' F' e=>by cases e;exact ⟨hn,h.1,h.2⟩⟩
theorem KOK.nil {c : Code} (h : loopsOf c = []) : KOK P Γ K c:=fun b hb=>by rw [h] at hb;cases hb
theorem KOK.one {c b : Code} {l : Loop} (h : loopsOf c = [b]) (hf : findIn K (firstRegion b) = some l) (hl : LoopOK P Γ K b l) : KOK P Γ K c:=fun b' hb' l' hl'=>by
 rw [h] at hb'
 simp at hb'
 subst hb'
 rw [hf] at hl'
 cases hl'
 exact hl
theorem KOK.all {c : Code} {bs : List Code} (h : loopsOf c = bs) (hl : ∀ b ∈ bs,∃ l,findIn K (firstRegion b) = some l ∧ LoopOK P Γ K b l) : KOK P Γ K c:=fun b hb l hf=>by
 rw [h] at hb
 obtain ⟨l',h1,h2⟩:=hl b hb
 rw [h1] at hf
 cases hf
 exact h2
end nat
end Go.Ev


namespace Go.Ev
open Go.RowKit
theorem noBody {P : Program} {f : FuncId} {fn : Func} (hfn : P.funcs[f]? = some fn) (hb : fn.body.isNone = true) : hasBody P f = false:=by
 unfold hasBody
 rw [hfn]
 cases h : fn.body <;> simp_all
end Go.Ev


namespace Go.Proofs.YtijdnecnjenleaaGreatDoor
open Go.Ev
theorem hmix : Tryz.prog.follows .mixedOrders = true:=by kernel_rfl
theorem inl {Γ : Env} (hΓ : GOK Tryz.prog Γ) {f : Nat} {fn : Func} (hfn : Tryz.prog.funcs[f]? = some fn) (hl : fn.body.map loopsOf = some []) (hfk : Γ.fork = false:=by rfl) (hrg : Γ.rng = []:=by rfl) : SumOK Tryz.prog f (evF Tryz.prog Γ [] fn) ∧ SNat (evF Tryz.prog Γ [] fn):=by
 have hK : ∀ c,fn.body = some c → KOK Tryz.prog Γ [] c:=fun c hc=>KOK.nil (by rw [hc] at hl;simpa using hl)
 exact ⟨sumOK_inline hΓ (drawOK hΓ hmix) hfn hK hrg,snat_evF hΓ.natOK hfk hK⟩
theorem sum0 {Γ : Env} (hΓ : GOK Tryz.prog Γ) {f : Nat} {fn : Func} (hfn : Tryz.prog.funcs[f]? = some fn) (hl : fn.body.map loopsOf = some []) {F : Summ} (hF : ∀ ρ avs k r,F ρ avs k = some r → evF Tryz.prog Γ [] fn ρ avs k = some r) (hrg : Γ.rng = []:=by rfl) : SumOK Tryz.prog f F :=
 sumOK_of hΓ (drawOK hΓ hmix) hfn (fun ρ avs k r h=>⟨[],fun c hc=>KOK.nil (by rw [hc] at hl;simpa using hl),hF ρ avs k r h⟩) hrg
theorem GOK.also {Γ : Env} {f : Nat} {F : Summ} (hΓ : GOK Tryz.prog Γ) (h : SumOK Tryz.prog f F ∧ SNat F) : GOK Tryz.prog { Γ with pure:=(f,F) :: Γ.pure }:=hΓ.cons h.1 h.2
theorem GOK.alsoX {Γ : Env} {f : Nat} {F : SummX} (hΓ : GOK Tryz.prog Γ) (h : XOK Tryz.prog f F ∧ XNat F) : GOK Tryz.prog { Γ with opens:=(f,F) :: Γ.opens }:=hΓ.consX h.1 h.2
theorem sum1 {Γ : Env} {K : List (Nat × Ev.Loop)} (hΓ : GOK Tryz.prog Γ) {f : Nat} {fn : Func} (hfn : Tryz.prog.funcs[f]? = some fn) {b : Code} {l : Ev.Loop} (hl : fn.body.map loopsOf = some [b]) (hf : findIn K (firstRegion b) = some l) (hL : LoopOK Tryz.prog Γ K b l)
  {F : Summ} (hF : ∀ ρ avs k r,F ρ avs k = some r → evF Tryz.prog Γ K fn ρ avs k = some r) (hrg : Γ.rng = []:=by rfl) : SumOK Tryz.prog f F :=
 sumOK_of hΓ (drawOK hΓ hmix) hfn (fun ρ avs k r h=>⟨K,fun c hc=>KOK.one (by rw [hc] at hl;simpa using hl) hf hL,hF ρ avs k r h⟩) hrg
theorem sums {Γ : Env} {K : List (Nat × Ev.Loop)} (hΓ : GOK Tryz.prog Γ) {f : Nat} {fn : Func} (hfn : Tryz.prog.funcs[f]? = some fn) {bs : List Code} (hl : fn.body.map loopsOf = some bs) (hL : ∀ b ∈ bs,∃ l,findIn K (firstRegion b) = some l ∧ LoopOK Tryz.prog Γ K b l)
  {F : Summ} (hF : ∀ ρ avs k r,F ρ avs k = some r → evF Tryz.prog Γ K fn ρ avs k = some r) (hrg : Γ.rng = []:=by rfl) : SumOK Tryz.prog f F :=
 sumOK_of hΓ (drawOK hΓ hmix) hfn (fun ρ avs k r h=>⟨K,fun c hc=>KOK.all (by rw [hc] at hl;simpa using hl) hL,hF ρ avs k r h⟩) hrg
theorem xsum1 {Γ : Env} {K : List (Nat × Ev.Loop)} {H : List (Nat × Nat × TypeId)} (hΓ : GOK Tryz.prog Γ) {f : Nat} {fn : Func} (hfn : Tryz.prog.funcs[f]? = some fn) {b : Code} {l : Ev.Loop} (hl : fn.body.map loopsOf = some [b]) (hf : findIn K (firstRegion b) = some l) (hL : LoopOK Tryz.prog Γ K b l)
  {F : SummX} (hF : ∀ ρ avs rows k r,F ρ avs rows k = some r → rows.length ≤ 1000000 ∧ ∀ rows',Spared rows rows' → evFX Tryz.prog Γ K H fn ρ avs rows' k = some r) (hrg : Γ.rng = []:=by rfl) : XOK Tryz.prog f F :=
 xok_of hΓ (drawOK hΓ hmix) hfn (fun ρ avs rows k r h=>⟨(hF ρ avs rows k r h).1,fun rows' hs=>⟨K,H,fun c hc=>KOK.one (by rw [hc] at hl;simpa using hl) hf hL,(hF ρ avs rows k r h).2 rows' hs⟩⟩) hrg
end Go.Proofs.YtijdnecnjenleaaGreatDoor


namespace Go.Ev
theorem wrap_small (n : Int) (h : -9223372036854775808 ≤ n) (h' : n ≤ 9223372036854775807) : IntKind.i64.wrap n = n:=IntWalk.i64_in n ⟨h,h'⟩
def small (n : Nat) : Bool:=decide (n ≤ 9223372036854775807)
theorem small_le {n : Nat} (h : small n = true) : n ≤ 9223372036854775807:=of_decide_eq_true h
theorem inb_true {i : Int} {n : Nat} (h0 : 0 ≤ i) (h : i < n) : inb i n = true:=by simp [inb,h0,h]
theorem and_tt {a b : Bool} (h : a = true) (h' : b = true) : (a && b) = true:=by rw [h,h'];rfl
def findN (p : Nat → Bool) (n i : Nat) : Option Nat:=(List.range' i (n - i)).find? p
theorem findN_step (p : Nat → Bool) (n i : Nat) (h : i < n) : findN p n i = bif p i then some i else findN p n (i + 1):=by
 unfold findN
 rw [show n - i = (n - (i + 1)) + 1 from by omega,List.range'_succ,List.find?_cons]
 cases p i <;> rfl
theorem findN_end (p : Nat → Bool) (n i : Nat) (h : n ≤ i) : findN p n i = none:=by
 unfold findN
 rw [show n - i = 0 from by omega]
 rfl
theorem findN_some {p : Nat → Bool} {n i q : Nat} (h : findN p n i = some q) : i ≤ q ∧ q < n ∧ p q = true ∧ ∀ j,i ≤ j → j < q → p j = false:=by
 unfold findN at h
 obtain ⟨h1,ys,bs,h2,h3⟩:=List.find?_eq_some_iff_append.1 h
 have hm : q ∈ List.range' i (n - i):=by rw [h2];simp
 rw [List.mem_range'_1] at hm
 refine ⟨hm.1,by omega,h1,fun j hj hjq=>?_⟩
 have hl:=congrArg List.length h2
 have hq : (List.range' i (n - i))[ys.length]? = some q:=by rw [h2];simp
 have hal : ys.length < n - i:=by
  rw [List.length_range',List.length_append,List.length_cons] at hl
  omega
 have hlen : ys.length = q - i:=by
  rw [List.getElem?_range' hal] at hq
  simp at hq
  omega
 have hj2 : (List.range' i (n - i))[j - i]? = ys[j - i]?:=by rw [h2,List.getElem?_append_left (by omega)]
 rw [List.getElem?_range' (by omega)] at hj2
 have hmem : j ∈ ys:=List.mem_of_getElem? (i:=j - i) (by rw [← hj2];congr 1;omega)
 simpa using h3 j hmem
theorem findN_none {p : Nat → Bool} {n i : Nat} (h : findN p n i = none) : ∀ j,i ≤ j → j < n → p j = false:=by
 unfold findN at h
 intro j hj hn
 have:=List.find?_eq_none.1 h j (by rw [List.mem_range'_1];omega)
 simpa using this
def sF {ρ : Type} (p : Nat → Bool) (n : Nat) (A : Nat → Option ρ) (B : Option ρ) (j : Nat) : Option ρ:=bif (findN p n j).isSome then A ((findN p n j).getD 0) else B
def cnt (n i : Int) (m : Nat) : Bool:=decide (n = m) && (decide (0 ≤ i) && (decide (i ≤ n) && small m))
theorem cnt_spec {n i : Int} {m : Nat} (h : cnt n i m = true) : n = m ∧ m ≤ 9223372036854775807 ∧ ∃ j : Nat,i = j ∧ j ≤ m:=by
 simp only [cnt,Bool.and_eq_true,decide_eq_true_eq] at h
 obtain ⟨rfl,h0,h1,hs⟩:=h
 exact ⟨rfl,small_le hs,i.toNat,by omega,by omega⟩
theorem cnt_zero {m : Nat} (hs : small m = true) : cnt m 0 m = true:=and_tt (decide_eq_true rfl) (and_tt (decide_eq_true (by omega)) (and_tt (decide_eq_true (by omega)) hs))
theorem cond_t {α : Type} {b : Bool} {x y : α} (h : b = true) : cond b x y = x:=by rw [h];rfl
theorem and_t {a b : Bool} (h : a = true) (h' : b = true) : (a && b) = true:=by rw [h,h'];rfl
end Go.Ev


namespace Go.Ev
inductive Tr (α : Type) where
 | no : Tr α
 | leaf (a : α) : Tr α
 | br (c : Bool) (x y : Tr α) : Tr α
def Tr.run {α ρ : Type} (t : Tr α) (k : α → Option ρ) : Option ρ :=
 match t with
 | .no=>none
 | .leaf a=>k a
 | .br c x y=>bif c then x.run k else y.run k
theorem Tr.run_bind {α ρ σ : Type} (f : α → Option σ) (k : σ → Option ρ) : ∀ t : Tr α,t.run (fun a=>(f a).bind k) = (t.run f).bind k
 | .no=>rfl
 | .leaf _=>rfl
 | .br c x y=>by
  show (bif c then x.run _ else y.run _) = (bif c then x.run f else y.run f).bind k
  rw [Tr.run_bind f k x,Tr.run_bind f k y]
  cases c <;> rfl
def Tr.gd {α : Type} (c : Bool) (t : Tr α) : Tr α:=.br c t .no
theorem gd_some {α ρ : Type} {c : Bool} {t : Tr α} {k : α → Option ρ} {r : ρ} (h : (Tr.gd c t).run k = some r) : c = true ∧ t.run k = some r:=by
 cases c
 ·cases h
 ·exact ⟨rfl,h⟩
def ofT (p : List AV → Tr AV) : Summ:=fun _ avs k=>(p avs).run k
theorem snat_ofT (p : List AV → Tr AV) : SNat (ofT p):=fun _ avs k=>Tr.run_bind (σ:=AV) some k (p avs)
abbrev LOut:=Ex × List AV × List (Option Row)
def ofL (p : List AV → List (Option Row) → Tr LOut) : LSumm:=fun _ vs rs k=>(p vs rs).run fun q=>k q.1 q.2.1 q.2.2
abbrev XOut:=AV × List (Option Row) × List Row
def ofX (p : List AV → List Row → Tr XOut) : SummX:=fun _ avs rows k=>(p avs rows).run fun q=>k q.1 q.2.1 q.2.2
theorem xnat_ofX (p : List AV → List Row → Tr XOut) : XNat (ofX p):=fun _ avs rows k=>Tr.run_bind (α:=XOut) (σ:=XOut) (fun q=>some (q.1,q.2.1,q.2.2)) (fun q=>k q.1 q.2.1 q.2.2) (p avs rows)
theorem loopT {P : Program} {Γ : Env} {K : List (Nat × Loop)} (hN : NatOK Γ) (hfk : Γ.fork = false) {b : Code} {N : Norm} {p : List AV → List (Option Row) → Tr LOut} (hK : KOK P Γ K b) (μ : List AV → List (Option Row) → Nat)
  (hround : ∀ (ρ : Type) (vs : List AV) (rs : List (Option Row)) (k : Ex → List AV → List (Option Row) → Option ρ) (r : ρ),(p vs rs).run (fun q=>k q.1 q.2.1 q.2.2) = some r → evC P Γ K b ρ (expand N vs rs) (after ⟨N,ofL p⟩ μ (μ vs rs) k) = some r) : LoopOK P Γ K b ⟨N,ofL p⟩ :=
 loopOK_of hN hfk hK μ hround fun _ vs rs k=>Tr.run_bind (α:=LOut) (σ:=LOut) (fun q=>some (q.1,q.2.1,q.2.2)) (fun q=>k q.1 q.2.1 q.2.2) (p vs rs)
def sT {α : Type} (p : Nat → Bool) (n : Nat) (A : Nat → Tr α) (B : Tr α) (j : Nat) : Tr α:=.br (findN p n j).isSome (A ((findN p n j).getD 0)) B
theorem sT_step {α : Type} (p : Nat → Bool) (n : Nat) (A : Nat → Tr α) (B : Tr α) (j : Nat) (h : j < n) {ρ : Type} (k : α → Option ρ) : (sT p n A B j).run k = bif p j then (A j).run k else (sT p n A B (j + 1)).run k:=by
 unfold sT
 show cond _ ((A ((findN p n j).getD 0)).run k) (B.run k) = bif p j then (A j).run k else cond _ ((A ((findN p n (j + 1)).getD 0)).run k) (B.run k)
 rw [findN_step p n j h]
 cases p j <;> rfl
theorem sT_end {α : Type} (p : Nat → Bool) (n : Nat) (A : Nat → Tr α) (B : Tr α) {ρ : Type} (k : α → Option ρ) : (sT p n A B n).run k = B.run k:=by
 unfold sT
 rw [findN_end p n n (Nat.le_refl _)]
 rfl
theorem cnt_facts {m j : Nat} (h : j < m) (hs : m ≤ 9223372036854775807) : decide ((j : Int) < (m : Int)) = true ∧ inb (j : Int) m = true ∧ IntKind.i64.wrap ((j : Int) + 1) = ((j + 1 : Nat) : Int) ∧ cnt m ((j + 1 : Nat) : Int) m = true ∧ decide (((m : Int) - ((j + 1 : Nat) : Int)).toNat < ((m : Int) - (j : Int)).toNat) = true:=by
 refine ⟨decide_eq_true (by omega),inb_true (by omega) (by omega),?_,?_,decide_eq_true (by omega)⟩
 ·rw [wrap_small _ (by omega) (by omega)];omega
 ·exact and_tt (decide_eq_true rfl) (and_tt (decide_eq_true (by omega)) (and_tt (decide_eq_true (by omega)) (decide_eq_true hs)))
end Go.Ev
namespace Go.Proofs.YtijdnecnjenleaaGreatDoor
open Go.Ev
theorem fn0 {Γ : Env} (hΓ : GOK Tryz.prog Γ) {f : Nat} {fn : Func} (hfn : Tryz.prog.funcs[f]? = some fn) (hl : fn.body.map loopsOf = some [])
  {p : List AV → Tr AV} (hF : ∀ ρ avs k r,(p avs).run k = some r → evF Tryz.prog Γ [] fn ρ avs k = some r) (hrg : Γ.rng = []:=by rfl) : SumOK Tryz.prog f (ofT p) ∧ SNat (ofT p) :=
 ⟨sum0 hΓ hfn hl hF hrg,snat_ofT p⟩
theorem fn1 {Γ : Env} {K : List (Nat × Ev.Loop)} (hΓ : GOK Tryz.prog Γ) {f : Nat} {fn : Func} (hfn : Tryz.prog.funcs[f]? = some fn) {b : Code} {l : Ev.Loop} (hl : fn.body.map loopsOf = some [b]) (hf : findIn K (firstRegion b) = some l) (hL : LoopOK Tryz.prog Γ K b l)
  {p : List AV → Tr AV} (hF : ∀ ρ avs k r,(p avs).run k = some r → evF Tryz.prog Γ K fn ρ avs k = some r) (hrg : Γ.rng = []:=by rfl) : SumOK Tryz.prog f (ofT p) ∧ SNat (ofT p) :=
 ⟨sum1 hΓ hfn hl hf hL hF hrg,snat_ofT p⟩
end Go.Proofs.YtijdnecnjenleaaGreatDoor


namespace Go.Ev
theorem slb_true {l h : Int} {m : Nat} (h0 : 0 ≤ l) (h1 : l ≤ h) (h2 : h ≤ m) : slb l h m = true:=by simp [slb,h0,h1,h2]
end Go.Ev


namespace Go.Ev
end Go.Ev


namespace Go.Ev
open Go.RowKit
def idxB (s : List UInt8) (c : Int) : Int:=Lib.indexByte s c.toNat.toUInt8
def Fidx : Summ:=fun _ avs k=>match avs with
 | [.str s,.int .u8 c]=>k (.int .i64 (idxB s c))
 | _=>none
theorem snat_idx : SNat Fidx:=fun ρ avs k=>by unfold Fidx;split <;> rfl
theorem idx_ok {P : Program} {f : FuncId} {fn : Func} (hfn : P.funcs[f]? = some fn) (hname : (fn.name == "runtime.NumGoroutine") = false) (hb : fn.body.isNone = true) (hn : Extern.findNext fn = none) (he : Extern.find fn = some Extern.BytealgIndexByte.indexByte) : SumOK P f Fidx ∧ SNat Fidx := by
 refine ⟨fun ρ w S avs args k r hS hv h=>?_,snat_idx⟩
 unfold Fidx at h
 split at h
 ·rename_i s c
  obtain ⟨v,vs,rfl,h1,hv⟩:=hv.inv
  obtain ⟨u,us,rfl,h2,hv⟩:=hv.inv
  obtain rfl:=hv.inv_nil
  rw [h1.str_inv,h2.int_inv]
  refine .inr ⟨noBody hfn hb,.int .i64 (idxB s c),w,?_,⟨_,_,fun _=>False,rfl,h,Below.refl _ _,fun _ h=>h.elim,fun _ h=>h.elim,.int _ _ _⟩⟩
  rw [run_callFunc_extern hfn hname hb hn he]
  show ((Extern.BytealgIndexByte.indexByte #[.string ⟨s.toArray⟩,.int .u8 c]).run P w).andThen _ = _
  rw [Lib.run_indexByteString]
  rfl
 ·cases h
end Go.Ev


namespace Go.Ev
theorem Goes.mono {P : Program} {f : FuncId} {args : Array Value} {w : World} {R R' : Ending → World → Prop} (h : Goes P f args w R) (hR : ∀ e w',R e w' → R' e w') : Goes P f args w R':=by
 rcases h with ⟨hb,h⟩ | ⟨hb,u,w',h1,h2⟩
 ·exact .inl ⟨hb,h.mono hR⟩
 ·exact .inr ⟨hb,u,w',h1,hR _ _ h2⟩
end Go.Ev


namespace Go.Proofs.YtijdnecnjenleaaGreatDoor
open Go.Ev Go.RowKit
def inR (n a b : Int) : Bool:=decide (a ≤ n) && decide (n ≤ b)
theorem inR_spec {n a b : Int} (h : inR n a b = true) : a ≤ n ∧ n ≤ b:=by simpa [inR] using h
def bE (e : AV) : Bool:=hasSh (.int .u8) e && inR e.toInt 0 255
theorem sum_flat {f : Nat} (hb : hasBody Tryz.prog f = true) {p : List AV → Tr AV}
  (h : ∀ (ρ : Type) (w : World) (S : Nat → Prop) (avs : List AV) (args : List Value) (k : AV → Option ρ) (r : ρ),Facts w → (∀ b,S b → b < w.heap.size) → VRels w S nob avs args → (p avs).run k = some r →
   ∃ u v,k v = some r ∧ v.flat = true ∧ VRel w S nob v u ∧ Calls Tryz.prog f args.toArray w (fun e w'=>e = .returned u ∧ Below w.heap.size w w')) : SumOK Tryz.prog f (ofT p) ∧ SNat (ofT p):=by
 refine ⟨fun ρ w S avs args k r hS hv hk=>?_,snat_ofT p⟩
 obtain ⟨u,v,hk',hf,hv',hc⟩:=h ρ w S avs args k r (hS.2 w (Kept.refl _ _)) hS.1 hv hk
 refine .inl ⟨hb,hc.mono fun e w' hq=>?_⟩
 exact ⟨u,v,fun _=>False,hq.1,hk',hq.2,fun _ h=>h.elim,fun _ h=>h.elim,flat_free hv' hf⟩
theorem below_drew (w : World) (q : Nat) : Below w.heap.size w (w.drewN q):=⟨rfl,rfl,rfl,Nat.le_refl _,fun _ _=>rfl⟩
theorem ints_of {es : List AV} (h : ∀ e ∈ es,hasSh (.int .u8) e = true) : es = (es.map AV.toInt).map (AV.int .u8):=by
 rw [List.map_map]
 conv=>lhs;rw [← List.map_id es]
 refine List.map_congr_left fun v hv=>?_
 have:=h v hv
 cases v <;> simp [hasSh,has1] at this
 subst this
 rfl
theorem ints_vals {w : World} {S : Nat → Prop} {l : List Int} {xs : List Value} (hv : VRels w S nob (l.map (AV.int .u8)) xs) : xs = l.map (Value.int .u8):=by
 refine List.ext_getElem? fun j=>?_
 rw [List.getElem?_map]
 cases hj : l[j]? with
 | none =>
  have : xs.length = l.length:=by rw [hv.1,List.length_map]
  rw [List.getElem?_eq_none (by rw [this];exact List.getElem?_eq_none_iff.1 hj)]
  rfl
 | some n =>
  obtain ⟨u,hu,hr⟩:=hv.at_ (j:=j) (c:=.int .u8 n) (by rw [List.getElem?_map,hj];rfl)
  rw [hu,hr.int_inv]
  rfl
theorem bytesOf_str (l : List Int) : Lib.bytesOf l = strAV (l.map (AV.int .u8)):=by
 unfold Lib.bytesOf strAV;rw [List.map_map];rfl
def F187 : List AV → Tr AV
 | [.int .i64 n]=>.gd (inR n (-9223372036854775808) 9223372036854775807) (.leaf (.str (Lib.itoa n)))
 | _=>.no
theorem ok187 : SumOK Tryz.prog 187 (ofT F187) ∧ SNat (ofT F187):=by
 refine sum_flat (by kernel_rfl) fun ρ w S avs args k r hF hS hv h=>?_
 unfold F187 at h
 split at h
 ·rename_i n
  obtain ⟨hc,h⟩:=gd_some h
  obtain ⟨h0,h9⟩:=inR_spec hc
  obtain ⟨v,vs,rfl,h1,hv⟩:=hv.inv
  obtain rfl:=hv.inv_nil
  rw [h1.int_inv]
  refine ⟨_,_,h,rfl,.str _ _,(Tryz.strconv_Itoa n h0 h9 w hF.2).mono fun e w' hq=>⟨hq.1,?_⟩⟩
  obtain ⟨q,os,hq⟩:=hq.2
  rw [hq]
  exact Lib.below_grow w.heap.size w (Nat.le_refl _) q os
 ·cases h
def smallX (n : Nat) : Bool:=decide (n < 4294967281)
def F158 : List AV → Tr AV
 | [.str s,.str p]=>.gd (smallX s.length) (.leaf (.int .i64 (Lib.index s p)))
 | _=>.no
theorem ok158 : SumOK Tryz.prog 158 (ofT F158) ∧ SNat (ofT F158):=by
 refine sum_flat (by kernel_rfl) fun ρ w S avs args k r hF hS hv h=>?_
 unfold F158 at h
 split at h
 ·rename_i s p
  obtain ⟨hc,h⟩:=gd_some h
  obtain ⟨v,vs,rfl,h1,hv⟩:=hv.inv
  obtain ⟨u,us,rfl,h2,hv⟩:=hv.inv
  obtain rfl:=hv.inv_nil
  obtain ⟨m,hm⟩:=hF.1
  rw [h1.str_inv,h2.str_inv]
  exact ⟨_,_,h,rfl,.int _ _ _,(Tryz.stringslite_Index ⟨s.toArray⟩ ⟨p.toArray⟩ m w (by rw [size_mk];exact of_decide_eq_true hc) hm).mono fun e w' hq=>⟨by simpa using hq.1,hq.2 ▸ Below.refl _ _⟩⟩
 ·cases h
def F208 : List AV → Tr AV
 | [.slv (.int .u8) es,.slv (.int .u8) fs]=>.gd (decide (es.length < 4294967281) && (decide (2 ≤ fs.length) && (decide (fs.length ≤ 9223372036854775807) && (es.all bE && fs.all bE)))) (.leaf (.int .i64 (Lib.index (strAV es) (strAV fs))))
 | [.slz _,.slv (.int .u8) fs]=>.gd (decide (2 ≤ fs.length) && decide (fs.length ≤ 9223372036854775807)) (.leaf (.int .i64 (-1)))
 | _=>.no
theorem short_index : ∀ (s p : List UInt8),s.length < p.length → Lib.index s p = -1
 | [],[],h=>absurd h (Nat.lt_irrefl _)
 | [],_ :: _,_=>rfl
 | b :: l,p,h=>by
  unfold Lib.index
  have hp : p.isPrefixOf (b :: l) = false:=by
   cases hh : p.isPrefixOf (b :: l)
   ·rfl
   ·have:=(List.isPrefixOf_iff_prefix.1 hh).length_le
    omega
  rw [hp,short_index l p (by simp at h;omega)]
  rfl
theorem ok208 : SumOK Tryz.prog 208 (ofT F208) ∧ SNat (ofT F208):=by
 refine sum_flat (by kernel_rfl) fun ρ w S avs args k r hF hS hv h=>?_
 unfold F208 at h
 split at h
 ·rename_i es fs
  obtain ⟨hc,h⟩:=gd_some h
  simp only [Bool.and_eq_true,decide_eq_true_eq] at hc
  obtain ⟨hn,h2,hm,ha,hb⟩:=hc
  obtain ⟨v,vs,rfl,h1,hv⟩:=hv.inv
  obtain ⟨u,us,rfl,h3,hv⟩:=hv.inv
  obtain rfl:=hv.inv_nil
  cases h1 with
  | slv _ _ _ A c a xs hs hcap hmx hA hl' h1' hx hr =>
   cases h3 with
   | slv _ _ _ A2 c2 a2 ys hs2 hcap2 hmx2 hA2 hl2 h12 hx2 hr2 =>
    by_cases hlt : es.length < fs.length
    ·refine ⟨_,_,h,rfl,.int _ _ _,(Tryz.bytes_Index_longer A A2 es.length c fs.length c2 w h2 hlt hm).mono fun e w' hq=>⟨?_,hq.2 ▸ Below.refl _ _⟩⟩
     rw [short_index _ _ (by unfold strAV;rw [List.length_map,List.length_map];exact hlt)]
     exact hq.1
    ·obtain ⟨hA1,_⟩:=hA (fun e=>by rw [e] at hlt;simp at hlt;rw [hlt] at h2;simp at h2)
     obtain ⟨hA21,_⟩:=hA2 (fun e=>by rw [e] at h2;simp at h2)
     have e1:=ints_of hs
     have e2:=ints_of hs2
     generalize es.map AV.toInt = l at e1
     generalize fs.map AV.toInt = m at e2
     subst e1 e2
     rw [flat_ints] at hl' hr hl2 hr2
     obtain rfl:=ints_vals ⟨hl',hr⟩
     obtain rfl:=ints_vals ⟨hl2,hr2⟩
     have hr1 : ∀ (l : List Int),(l.map (AV.int .u8)).all bE = true → ∀ x ∈ l,0 ≤ x ∧ x < 256:=fun l hl x hx=>by
      have:=List.all_eq_true.1 hl _ (List.mem_map_of_mem hx)
      unfold bE at this
      simp only [Bool.and_eq_true] at this
      obtain ⟨q0,q1⟩:=inR_spec this.2
      exact ⟨q0,Int.lt_of_le_of_lt q1 (by decide)⟩
     have hat : ∀ (l : List Int) (a : Addr),(∀ (j : Nat) (u : Value),(l.map (Value.int .u8))[j]? = some u → w.cell? (a.add j) = some u) → ∀ i,i < l.length → w.cell? (a.add i) = some (.int .u8 (l.getD i 0)):=fun l a hx i hi=>by
      refine hx i _ ?_
      rw [List.getElem?_map,List.getElem?_eq_getElem hi,List.getD,List.getElem?_eq_getElem hi]
      rfl
     rw [hA1,hA21]
     simp only [List.length_map] at hcap hn hm hcap2 ⊢
     obtain ⟨mx,hmx⟩:=hF.1
     refine ⟨_,_,h,rfl,.int _ _ _,(Tryz.bytes_Index_at a a2 l.length c m.length c2 l m mx w rfl rfl (hr1 l ha) (hr1 m hb) (hat l a hx) (hat m a2 hx2) hcap hn hm hmx).mono fun e w' hq=>⟨?_,?_⟩⟩
     ·rw [hq.1,bytesOf_str,bytesOf_str]
     ·obtain ⟨q,hq⟩:=hq.2
      rw [hq]
      exact below_drew w q
 ·rename_i s fs
  obtain ⟨hc,h⟩:=gd_some h
  simp only [Bool.and_eq_true,decide_eq_true_eq] at hc
  obtain ⟨v,vs,rfl,h1,hv⟩:=hv.inv
  obtain ⟨u,us,rfl,h3,hv⟩:=hv.inv
  obtain rfl:=hv.inv_nil
  cases h1 with
  | slz _ _ A =>
   cases h3 with
   | slv _ _ _ A2 c2 a2 ys hs2 hcap2 hmx2 hA2 hl2 h12 hx2 hr2 =>
    exact ⟨_,_,h,rfl,.int _ _ _,(Tryz.bytes_Index_longer A A2 0 0 fs.length c2 w hc.1 (by omega) hc.2).mono fun e w' hq=>⟨hq.1,hq.2 ▸ Below.refl _ _⟩⟩
 ·cases h
def F254 : List AV → Tr AV
 | [.slv (.int .u8) es,.int .u8 c]=>.leaf (.int .i64 (Lib.indexByte (strAV es) c.toNat.toUInt8))
 | [.slz _,.int .u8 _]=>.leaf (.int .i64 (-1))
 | _=>.no
theorem run_ib {P : Program} (w : World) (a : Addr) (n c : Nat) (xs : List Int) (hx : xs.length = n) (hc : ∀ (j : Nat) (u : Value),(xs.map (Value.int .u8))[j]? = some u → w.cell? (a.add j) = some u) (cv : Int) :
  (Extern.BytealgIndexByte.indexByte #[.slice (some a) n c,.int .u8 cv]).run P w = .ok (.int .i64 (Lib.indexByte (Lib.bytesOf xs) cv.toNat.toUInt8)) w:=by
 have hl:=Lib.run_loadBytesX (P:=P) w xs a .empty (fun j x hj=>hc j _ (by rw [List.getElem?_map,hj];rfl))
 rw [hx] at hl
 have hs:=Lib.run_indexByteString (P:=P) ⟨(Lib.bytesOf xs).toArray⟩ cv w
 have he : (⟨ByteArray.empty.data ++ (Lib.bytesOf xs).toArray⟩ : ByteArray) = ⟨(Lib.bytesOf xs).toArray⟩:=by
  apply ByteArray.ext
  show (#[] : Array UInt8) ++ (Lib.bytesOf xs).toArray = (Lib.bytesOf xs).toArray
  simp
 rw [he] at hl
 change Sem.run P (do
  let b ← Extern.Bytes.bytesOf (.slice (some a) n c)
  let c ← Extern.Bytes.asByte (.int .u8 cv)
  match (List.range b.size).find? fun i=>b[i]! == c with
  | some i=>pure (goInt i)
  | none=>pure (goInt (-1))) w = _
 change Sem.run P (do
  let b ← Extern.Bytes.bytesOf (.string ⟨(Lib.bytesOf xs).toArray⟩)
  let c ← Extern.Bytes.asByte (.int .u8 cv)
  match (List.range b.size).find? fun i=>b[i]! == c with
  | some i=>pure (goInt i)
  | none=>pure (goInt (-1))) w = _ at hs
 simp only [Extern.Bytes.bytesOf,Sem.run_bind,Sem.run_pure,hl,Result.andThen] at hs ⊢
 exact hs
theorem run_ib0 {P : Program} (w : World) (A : Option Addr) (c : Nat) (cv : Int) : (Extern.BytealgIndexByte.indexByte #[.slice A 0 c,.int .u8 cv]).run P w = .ok (.int .i64 (-1)) w:=by
 cases A with
 | none=>exact Lib.run_indexByteNil _ _ _ cv
 | some a=>exact run_ib w a 0 c [] rfl (fun j u h=>by simp at h) cv
theorem ok254 : SumOK Tryz.prog 254 (ofT F254) ∧ SNat (ofT F254):=by
 have hfn:=Tryz.func254
 have hb : Tryz.f254.body.isNone = true:=by kernel_rfl
 refine ⟨fun ρ w S avs args k r hS hv h=>?_,snat_ofT _⟩
 change (F254 avs).run k = some r at h
 have fin : ∀ (x z : Value) (n : Int),args = [x,z] → k (.int .i64 n) = some r → (Extern.BytealgIndexByte.indexByte #[x,z]).run Tryz.prog w = .ok (.int .i64 n) w → Goes Tryz.prog 254 args.toArray w fun e w'=>∃ u v S',e = .returned u ∧ k v = some r ∧ Below w.heap.size w w' ∧ (∀ b,S' b → S b ∨ w.heap.size ≤ b) ∧ (∀ b,S' b → b < w'.heap.size) ∧ VRel w' S' nob v u:=fun x z n ha hk hrun=>by
  rw [ha]
  refine .inr ⟨noBody hfn hb,.int .i64 n,w,?_,⟨_,_,fun _=>False,rfl,hk,Below.refl _ _,fun _ h=>h.elim,fun _ h=>h.elim,.int _ _ _⟩⟩
  rw [run_callFunc_extern hfn (by kernel_rfl) hb (by kernel_rfl) (by kernel_rfl : Extern.find Tryz.f254 = some Extern.BytealgIndexByte.indexByte)]
  show ((Extern.BytealgIndexByte.indexByte #[x,z]).run Tryz.prog w).andThen _ = _
  rw [hrun]
  rfl
 unfold F254 at h
 split at h
 ·rename_i es c
  obtain ⟨v,vs,rfl,h1,hv⟩:=hv.inv
  obtain ⟨u,us,rfl,h2,hv⟩:=hv.inv
  obtain rfl:=hv.inv_nil
  obtain rfl:=h2.int_inv
  have hk : k (.int .i64 (Lib.indexByte (strAV es) c.toNat.toUInt8)) = some r:=h
  cases h1 with
  | slv _ _ _ A cc a xs hs hcap hmx hA hl' h1' hx hr =>
   refine fin _ _ _ rfl hk ?_
   clear fin hk h
   have e1:=ints_of hs
   generalize es.map AV.toInt = l at e1
   subst e1
   rw [flat_ints] at hl' hr
   obtain rfl:=ints_vals ⟨hl',hr⟩
   rw [List.length_map,← bytesOf_str]
   by_cases h0 : l = []
   ·subst h0
    exact run_ib0 w A cc c
   ·rw [(hA (by simpa using h0)).1]
    exact run_ib w a l.length cc l rfl hx c
 ·rename_i s c
  obtain ⟨v,vs,rfl,h1,hv⟩:=hv.inv
  obtain ⟨u,us,rfl,h2,hv⟩:=hv.inv
  obtain rfl:=hv.inv_nil
  obtain rfl:=h2.int_inv
  have hk : k (.int .i64 (-1)) = some r:=h
  cases h1 with
  | slz _ _ A=>exact fin _ _ _ rfl hk (run_ib0 w A 0 c)
 ·cases h
theorem spot_none {w : World} {a : Addr} {v : Value} (h : w.cell? a = some v) : a.spot = none:=by
 unfold World.cell? at h
 split at h
 ·split at h
  ·cases h
  ·rename_i hs;simpa using hs
 ·cases h
theorem Addr.eta {a : Addr} (h : a.spot = none) : a = ⟨a.block,a.off,none⟩:=by
 cases a;simp_all
theorem strs_of {es : List AV} (h : ∀ e ∈ es,hasSh .str e = true) : ∃ l : List (List UInt8),es = l.map AV.str:=by
 refine ⟨es.map AV.toStr,?_⟩
 rw [List.map_map]
 symm
 conv=>rhs;rw [← List.map_id es]
 refine List.map_congr_left fun v hv=>?_
 have:=h v hv
 cases v <;> simp [hasSh,has1] at this
 rfl
theorem flat_strs : ∀ l : List (List UInt8),flat (l.map AV.str) = l.map AV.str
 | []=>rfl
 | s :: l=>by
  show AV.cells (AV.str s) ++ flat (l.map AV.str) = _
  rw [flat_strs l];rfl
def strL (es : List AV) : List (List UInt8):=es.map AV.toStr
theorem strL_map (l : List (List UInt8)) : strL (l.map AV.str) = l:=by
 unfold strL;rw [List.map_map];exact List.map_id _
theorem strs_vals {w : World} {S : Nat → Prop} {l : List (List UInt8)} {xs : List Value} (hv : VRels w S nob (l.map AV.str) xs) : xs = l.map fun s=>Value.string ⟨s.toArray⟩:=by
 refine List.ext_getElem? fun j=>?_
 rw [List.getElem?_map]
 cases hj : l[j]? with
 | none =>
  have : xs.length = l.length:=by rw [hv.1,List.length_map]
  rw [List.getElem?_eq_none (by rw [this];exact List.getElem?_eq_none_iff.1 hj)]
  rfl
 | some n =>
  obtain ⟨u,hu,hr⟩:=hv.at_ (j:=j) (c:=.str n) (by rw [List.getElem?_map,hj];rfl)
  rw [hu,hr.str_inv]
  rfl
def F312 : List AV → Tr AV
 | [.slv .str es,.str sep]=>.gd (decide (es.length ≤ 140737488355328) && decide ((Lib.join (strL es) sep).length ≤ 140737488355328)) (.leaf (.str (Lib.join (strL es) sep)))
 | [.slz _,.str _]=>.leaf (.str [])
 | _=>.no
theorem ok312 : SumOK Tryz.prog 312 (ofT F312) ∧ SNat (ofT F312):=by
 refine sum_flat (by kernel_rfl) fun ρ w S avs args k r hF hS hv h=>?_
 unfold F312 at h
 split at h
 ·rename_i es sep
  obtain ⟨hc,h⟩:=gd_some h
  simp only [Bool.and_eq_true,decide_eq_true_eq] at hc
  obtain ⟨v,vs,rfl,h1,hv⟩:=hv.inv
  obtain ⟨u,us,rfl,h2,hv⟩:=hv.inv
  obtain rfl:=hv.inv_nil
  rw [h2.str_inv]
  cases h1 with
  | slv _ _ _ A c a xs hs hcap hmx hA hl' h1' hx hr =>
   obtain ⟨l,rfl⟩:=strs_of hs
   rw [strL_map] at hc h
   rw [flat_strs] at hl' hr
   obtain rfl:=strs_vals ⟨hl',hr⟩
   simp only [List.length_map] at hc hcap ⊢
   by_cases h0 : l = []
   ·subst h0
    exact ⟨_,_,h,rfl,.str _ _,(Tryz.strings_Join_none A c ⟨sep.toArray⟩ w).mono fun e w' hq=>⟨hq.1,hq.2 ▸ Below.refl _ _⟩⟩
   ·obtain ⟨rfl,hS1⟩:=hA (by simpa using h0)
    have hsp : a.spot = none:=by
     cases l with
     | nil=>exact absurd rfl h0
     | cons s l =>
      have:=hx 0 _ rfl
      rw [show a.add 0 = a from by simp [Addr.add]] at this
      exact spot_none this
    rw [Addr.eta hsp] at hx ⊢
    have hid : l.map ((fun x : ByteArray=>x.data.toList) ∘ fun s=>⟨s.toArray⟩) = l:=by
     conv=>rhs;rw [← List.map_id l]
     exact List.map_congr_left fun s _=>by simp
    have hJ:=Tryz.strings_Join a.block a.off c (l.map fun s=>⟨s.toArray⟩) ⟨sep.toArray⟩ w (fun j x hj=>?_) (hS _ hS1) (by rw [List.length_map];exact hc.1) (by rw [List.length_map];exact hcap) (by
     rw [List.map_map,hid]
     exact hc.2)
    ·rw [List.map_map,List.length_map] at hJ
     refine ⟨_,_,h,rfl,.str _ _,hJ.mono fun e w' hq=>⟨?_,hq.2⟩⟩
     rw [hid] at hq
     exact hq.1
    ·rw [List.getElem?_map] at hj
     cases hj0 : l[j]? with
     | none=>rw [hj0] at hj;cases hj
     | some s =>
      rw [hj0] at hj
      simp only [Option.map_some,Option.some.injEq] at hj
      subst hj
      have:=hx j (.string ⟨s.toArray⟩) (by rw [List.getElem?_map,hj0];rfl)
      rwa [add_lit'] at this
 ·rename_i s sep
  obtain ⟨v,vs,rfl,h1,hv⟩:=hv.inv
  obtain ⟨u,us,rfl,h2,hv⟩:=hv.inv
  obtain rfl:=hv.inv_nil
  rw [h2.str_inv]
  cases h1 with
  | slz _ _ A=>exact ⟨_,_,h,rfl,.str _ _,(Tryz.strings_Join_none A 0 ⟨sep.toArray⟩ w).mono fun e w' hq=>⟨hq.1,hq.2 ▸ Below.refl _ _⟩⟩
 ·cases h
theorem ok159 : SumOK Tryz.prog 159 Fidx ∧ SNat Fidx:=idx_ok Tryz.func159 (by kernel_rfl) (by kernel_rfl) (by kernel_rfl) (by kernel_rfl)
end Go.Proofs.YtijdnecnjenleaaGreatDoor

namespace Go.Proofs.YtijdnecnjenleaaGreatDoor
open Go.Ev
def smallS (n : Nat) : Bool:=decide (n ≤ 150000000000000)
noncomputable def G0 : Env:={ pure:=[] }
theorem gE : GOK Tryz.prog G0:=GOK.empty
def ltI (n : Int) : Bool:=inR n 97 122 || (inR n 65 90 || inR n 48 57)
def F82 : List AV → Tr AV
 | [.int .u8 n]=>.leaf (.bool (ltI n))
 | _=>.no
theorem ok82 : SumOK Tryz.prog 82 (ofT F82) ∧ SNat (ofT F82):=by
 refine fn0 gE Tryz.func82 (by kernel_rfl) fun ρ avs k r h=>?_
 unfold F82 at h
 split at h
 ·rename_i n
  have hk:=h
  refine Eq.trans (b:=bif decide (n ≥ (97 : Int)) then bif decide (n ≤ (122 : Int)) then k (AV.bool true) else bif decide (n ≥ (65 : Int)) then bif decide (n ≤ (90 : Int)) then k (AV.bool true) else bif decide (n ≥ (48 : Int)) then k (AV.bool (decide (n ≤ (57 : Int)))) else k (AV.bool false) else bif decide (n ≥ (48 : Int)) then k (AV.bool (decide (n ≤ (57 : Int)))) else k (AV.bool false) else bif decide (n ≥ (65 : Int)) then bif decide (n ≤ (90 : Int)) then k (AV.bool true) else bif decide (n ≥ (48 : Int)) then k (AV.bool (decide (n ≤ (57 : Int)))) else k (AV.bool false) else bif decide (n ≥ (48 : Int)) then k (AV.bool (decide (n ≤ (57 : Int)))) else k (AV.bool false)) (by kernel_rfl) ?_
  rw [← hk]
  show _ = k (.bool ((decide (97 ≤ n) && decide (n ≤ 122)) || ((decide (65 ≤ n) && decide (n ≤ 90)) || (decide (48 ≤ n) && decide (n ≤ 57)))))
  cases decide (n ≥ 97) <;> cases decide (n ≤ 122) <;> cases decide (n ≥ 65) <;> cases decide (n ≤ 90) <;> cases decide (n ≥ 48) <;> cases decide (n ≤ 57) <;> rfl
 ·cases h
def smI (n : Int) : Bool:=inR n 97 122 || (inR n 48 57 || (n == 45 || n == 46))
def F126 : List AV → Tr AV
 | [.int .u8 n]=>.leaf (.bool (smI n))
 | _=>.no
theorem ok126 : SumOK Tryz.prog 126 (ofT F126) ∧ SNat (ofT F126):=by
 refine fn0 gE Tryz.func126 (by kernel_rfl) fun ρ avs k r h=>?_
 unfold F126 at h
 split at h
 ·rename_i n
  have hk:=h
  refine Eq.trans (b:=bif decide (n ≥ (97 : Int)) then bif decide (n ≤ (122 : Int)) then k (AV.bool true) else bif decide (n ≥ (48 : Int)) then bif decide (n ≤ (57 : Int)) then k (AV.bool true) else bif n == 45 then k (AV.bool true) else k (AV.bool (n == 46)) else bif n == 45 then k (AV.bool true) else k (AV.bool (n == 46)) else bif decide (n ≥ (48 : Int)) then bif decide (n ≤ (57 : Int)) then k (AV.bool true) else bif n == 45 then k (AV.bool true) else k (AV.bool (n == 46)) else bif n == 45 then k (AV.bool true) else k (AV.bool (n == 46))) (by kernel_rfl) ?_
  rw [← hk]
  show _ = k (.bool ((decide (97 ≤ n) && decide (n ≤ 122)) || ((decide (48 ≤ n) && decide (n ≤ 57)) || (n == 45 || n == 46))))
  cases decide (n ≥ 97) <;> cases decide (n ≤ 122) <;> cases decide (n ≥ 48) <;> cases decide (n ≤ 57) <;> cases n == 45 <;> cases n == 46 <;> rfl
 ·cases h
noncomputable def G125 : Env:={ pure:=[(159,Fidx)] }
theorem g125 : GOK Tryz.prog G125:=GOK.also gE ok159
def F125 : List AV → Tr AV
 | [.str s,.int .u8 c]=>.leaf (.int .i64 (idxB s c))
 | _=>.no
theorem ok125 : SumOK Tryz.prog 125 (ofT F125) ∧ SNat (ofT F125):=by
 refine fn0 g125 Tryz.func125 (by kernel_rfl) fun ρ avs k r h=>?_
 unfold F125 at h
 split at h
 ·rename_i s c
  have hk:=h
  refine Eq.trans (b:=k (AV.int .i64 (idxB s c))) (by kernel_rfl) ?_
  exact hk
 ·cases h
noncomputable def G83 : Env:={ pure:=[(125,ofT F125)] }
theorem g83 : GOK Tryz.prog G83:=GOK.also gE ok125
def F83 : List AV → Tr AV
 | [.str s,.int .u8 c]=>.leaf (.int .i64 (idxB s c))
 | _=>.no
theorem ok83 : SumOK Tryz.prog 83 (ofT F83) ∧ SNat (ofT F83):=by
 refine fn0 g83 Tryz.func83 (by kernel_rfl) fun ρ avs k r h=>?_
 unfold F83 at h
 split at h
 ·rename_i s c
  have hk:=h
  refine Eq.trans (b:=k (AV.int .i64 (idxB s c))) (by kernel_rfl) ?_
  exact hk
 ·cases h
noncomputable def G81 : Env:={ pure:=[(82,ofT F82),(83,ofT F83)] }
theorem g81 : GOK Tryz.prog G81:=GOK.also (GOK.also gE ok83) ok82
def gdI (n : Int) : Bool:=ltI n || decide (idxB [45,95,46,43,61] n ≥ 0)
def F81 : List AV → Tr AV
 | [.int .u8 n]=>.leaf (.bool (gdI n))
 | _=>.no
theorem ok81 : SumOK Tryz.prog 81 (ofT F81) ∧ SNat (ofT F81):=by
 refine fn0 g81 Tryz.func81 (by kernel_rfl) fun ρ avs k r h=>?_
 unfold F81 at h
 split at h
 ·rename_i n
  have hk:=h
  refine Eq.trans (b:=bif ltI n then k (AV.bool true) else k (AV.bool (decide (idxB ([45,95,46,43,61] : List UInt8) n ≥ (0 : Int))))) (by kernel_rfl) ?_
  rw [← hk]
  show _ = k (.bool (ltI n || decide (idxB [45,95,46,43,61] n ≥ 0)))
  cases ltI n <;> rfl
 ·cases h
def atI (s : List UInt8) (i : Nat) : Int:=((s.getD i 0).toNat : Nat)
def allN (p : Int → Bool) (s : List UInt8) : Bool:=!(findN (fun i=>!p (atI s i)) s.length 0).isSome
noncomputable def b84 : Code:=((Tryz.f84.body.map loopsOf).getD []).headD .skip
def μ84 (vs : List AV) (_ : List (Option Row)) : Nat:=match vs with
 | [_,_,_,.int _ n,.int _ i]=>(n - i).toNat
 | _=>0
noncomputable def G84a : Env:={ pure:=[(81,ofT F81)] }
theorem g84a : GOK Tryz.prog G84a:=GOK.also gE ok81
def L84a : List AV → List (Option Row) → Tr LOut
 | [.str s,.fn 81 [],.bool b,.int .i64 n,.int .i64 i],[] =>
  .gd (cnt n i s.length) (sT (fun i=>!gdI (atI s i)) s.length (fun q=>.leaf (.ret,[.str s,.fn 81 [],.bool false,.int .i64 n,.int .i64 (q : Nat)],[])) (.leaf (.exit 0,[.str s,.fn 81 [],.bool b,.int .i64 n,.int .i64 s.length],[])) i.toNat)
 | _,_=>.no
def l84a : Ev.Loop:=⟨{ len:=18,slots:=[0,1,4,7,8] },ofL L84a⟩
theorem loop84a : LoopOK Tryz.prog G84a [(2,l84a)] b84 l84a:=by
 refine loopT g84a.natOK rfl (KOK.nil (by kernel_rfl)) μ84 (fun ρ vs rs k r h=>?_)
 unfold L84a at h
 split at h
 ·rename_i s b n i
  obtain ⟨hc,hk⟩:=gd_some h
  obtain ⟨rfl,hs,j,rfl,hj⟩:=cnt_spec hc
  rw [Int.toNat_natCast] at hk
  refine Eq.trans (b:=bif decide ((↑j : Int) < (↑s.length : Int)) then bif inb (↑j : Int) s.length then bif !gdI (↑(s.getD j (0 : UInt8)).toNat : Int) then k Ex.ret [AV.str s,AV.fn (81 : Nat) [],AV.bool false,AV.int .i64 (↑s.length : Int),AV.int .i64 (↑j : Int)] [] else bif decide (((↑s.length : Int) - IntKind.i64.wrap ((↑j : Int) + (1 : Int))).toNat < ((↑s.length : Int) - (↑j : Int)).toNat) then bif cnt (↑s.length : Int) (IntKind.i64.wrap ((↑j : Int) + (1 : Int))) s.length then bif (findN (fun i=>!gdI (atI s i)) s.length (IntKind.i64.wrap ((↑j : Int) + (1 : Int))).toNat).isSome then k Ex.ret [AV.str s,AV.fn (81 : Nat) [],AV.bool false,AV.int .i64 (↑s.length : Int),AV.int .i64 (↑((findN (fun i=>!gdI (atI s i)) s.length (IntKind.i64.wrap ((↑j : Int) + (1 : Int))).toNat).getD (0 : Nat)) : Int)] [] else k (Ex.exit (0 : Nat)) [AV.str s,AV.fn (81 : Nat) [],AV.bool b,AV.int .i64 (↑s.length : Int),AV.int .i64 (↑s.length : Int)] [] else none else none else none else k (Ex.exit (0 : Nat)) [AV.str s,AV.fn (81 : Nat) [],AV.bool b,AV.int .i64 (↑s.length : Int),AV.int .i64 (↑j : Int)] []) (by kernel_rfl) ?_
  rw [← hk]
  by_cases hlt : j < s.length
  ·obtain ⟨e1,e2,e3,e4,e5⟩:=cnt_facts hlt hs
   rw [sT_step _ _ _ _ _ hlt]
   simp only [e1,e2,e3,e4,e5,cond_true,Int.toNat_natCast]
   rfl
  ·obtain rfl : j = s.length:=by omega
   rw [decide_eq_false (by omega),sT_end]
   rfl
 ·cases h
def F84a : List AV → Tr AV
 | [.str s,.fn 81 []]=>.gd (small s.length) (.leaf (.bool (allN gdI s)))
 | _=>.no
theorem ok84a : SumOK Tryz.prog 84 (ofT F84a) ∧ SNat (ofT F84a):=by
 refine fn1 (K:=[(2,l84a)]) (b:=b84) (l:=l84a) g84a Tryz.func84 (by kernel_rfl) (by kernel_rfl) loop84a fun ρ avs k r h=>?_
 unfold F84a at h
 split at h
 ·rename_i s
  obtain ⟨hc,hk⟩:=gd_some h
  refine Eq.trans (b:=bif cnt (↑s.length : Int) (0 : Int) s.length then bif (findN (fun i=>!gdI (atI s i)) s.length (0 : Nat)).isSome then k (AV.bool false) else k (AV.bool true) else none) (by kernel_rfl) ?_
  rw [← hk,cnt_zero hc]
  show _ = k (.bool (allN gdI s))
  unfold allN
  cases (findN (fun i=>!gdI (atI s i)) s.length 0).isSome <;> rfl
 ·cases h
noncomputable def G84b : Env:={ pure:=[(126,ofT F126)] }
theorem g84b : GOK Tryz.prog G84b:=GOK.also gE ok126
def L84b : List AV → List (Option Row) → Tr LOut
 | [.str s,.fn 126 [],.bool b,.int .i64 n,.int .i64 i],[] =>
  .gd (cnt n i s.length) (sT (fun i=>!smI (atI s i)) s.length (fun q=>.leaf (.ret,[.str s,.fn 126 [],.bool false,.int .i64 n,.int .i64 (q : Nat)],[])) (.leaf (.exit 0,[.str s,.fn 126 [],.bool b,.int .i64 n,.int .i64 s.length],[])) i.toNat)
 | _,_=>.no
def l84b : Ev.Loop:=⟨{ len:=18,slots:=[0,1,4,7,8] },ofL L84b⟩
theorem loop84b : LoopOK Tryz.prog G84b [(2,l84b)] b84 l84b:=by
 refine loopT g84b.natOK rfl (KOK.nil (by kernel_rfl)) μ84 (fun ρ vs rs k r h=>?_)
 unfold L84b at h
 split at h
 ·rename_i s b n i
  obtain ⟨hc,hk⟩:=gd_some h
  obtain ⟨rfl,hs,j,rfl,hj⟩:=cnt_spec hc
  rw [Int.toNat_natCast] at hk
  refine Eq.trans (b:=bif decide ((↑j : Int) < (↑s.length : Int)) then bif inb (↑j : Int) s.length then bif !smI (↑(s.getD j (0 : UInt8)).toNat : Int) then k Ex.ret [AV.str s,AV.fn (126 : Nat) [],AV.bool false,AV.int .i64 (↑s.length : Int),AV.int .i64 (↑j : Int)] [] else bif decide (((↑s.length : Int) - IntKind.i64.wrap ((↑j : Int) + (1 : Int))).toNat < ((↑s.length : Int) - (↑j : Int)).toNat) then bif cnt (↑s.length : Int) (IntKind.i64.wrap ((↑j : Int) + (1 : Int))) s.length then bif (findN (fun i=>!smI (atI s i)) s.length (IntKind.i64.wrap ((↑j : Int) + (1 : Int))).toNat).isSome then k Ex.ret [AV.str s,AV.fn (126 : Nat) [],AV.bool false,AV.int .i64 (↑s.length : Int),AV.int .i64 (↑((findN (fun i=>!smI (atI s i)) s.length (IntKind.i64.wrap ((↑j : Int) + (1 : Int))).toNat).getD (0 : Nat)) : Int)] [] else k (Ex.exit (0 : Nat)) [AV.str s,AV.fn (126 : Nat) [],AV.bool b,AV.int .i64 (↑s.length : Int),AV.int .i64 (↑s.length : Int)] [] else none else none else none else k (Ex.exit (0 : Nat)) [AV.str s,AV.fn (126 : Nat) [],AV.bool b,AV.int .i64 (↑s.length : Int),AV.int .i64 (↑j : Int)] []) (by kernel_rfl) ?_
  rw [← hk]
  by_cases hlt : j < s.length
  ·obtain ⟨e1,e2,e3,e4,e5⟩:=cnt_facts hlt hs
   rw [sT_step _ _ _ _ _ hlt]
   simp only [e1,e2,e3,e4,e5,cond_true,Int.toNat_natCast]
   rfl
  ·obtain rfl : j = s.length:=by omega
   rw [decide_eq_false (by omega),sT_end]
   rfl
 ·cases h
def F84b : List AV → Tr AV
 | [.str s,.fn 126 []]=>.gd (small s.length) (.leaf (.bool (allN smI s)))
 | _=>.no
theorem ok84b : SumOK Tryz.prog 84 (ofT F84b) ∧ SNat (ofT F84b):=by
 refine fn1 (K:=[(2,l84b)]) (b:=b84) (l:=l84b) g84b Tryz.func84 (by kernel_rfl) (by kernel_rfl) loop84b fun ρ avs k r h=>?_
 unfold F84b at h
 split at h
 ·rename_i s
  obtain ⟨hc,hk⟩:=gd_some h
  refine Eq.trans (b:=bif cnt (↑s.length : Int) (0 : Int) s.length then bif (findN (fun i=>!smI (atI s i)) s.length (0 : Nat)).isSome then k (AV.bool false) else k (AV.bool true) else none) (by kernel_rfl) ?_
  rw [← hk,cnt_zero hc]
  show _ = k (.bool (allN smI s))
  unfold allN
  cases (findN (fun i=>!smI (atI s i)) s.length 0).isSome <;> rfl
 ·cases h
noncomputable def G85 : Env:={ pure:=[(158,ofT F158),(84,ofT F84b)] }
theorem g85 : GOK Tryz.prog G85:=GOK.also (GOK.also gE ok84b) ok158
def F162 : List AV → Tr AV
 | [.str s,.str p]=>.gd (smallX s.length) (.leaf (.int .i64 (Lib.index s p)))
 | _=>.no
theorem ok162 : SumOK Tryz.prog 162 (ofT F162) ∧ SNat (ofT F162):=by
 refine fn0 g85 Tryz.func162 (by kernel_rfl) fun ρ avs k r h=>?_
 unfold F162 at h
 split at h
 ·rename_i s p
  obtain ⟨hc,hk⟩:=gd_some h
  refine Eq.trans (b:=bif smallX s.length then k (AV.int .i64 (Lib.index s p)) else none) (by kernel_rfl) ?_
  rw [← hk,hc]
  rfl
 ·cases h
noncomputable def G129 : Env:={ pure:=[(162,ofT F162)] }
theorem g129 : GOK Tryz.prog G129:=GOK.also gE ok162
def ctS (s p : List UInt8) : Bool:=decide (Lib.index s p ≥ 0)
def F129 : List AV → Tr AV
 | [.str s,.str p]=>.gd (smallX s.length) (.leaf (.bool (ctS s p)))
 | _=>.no
theorem ok129 : SumOK Tryz.prog 129 (ofT F129) ∧ SNat (ofT F129):=by
 refine fn0 g129 Tryz.func129 (by kernel_rfl) fun ρ avs k r h=>?_
 unfold F129 at h
 split at h
 ·rename_i s p
  obtain ⟨hc,hk⟩:=gd_some h
  refine Eq.trans (b:=bif smallX s.length then k (AV.bool (decide (Lib.index s p ≥ (0 : Int)))) else none) (by kernel_rfl) ?_
  rw [← hk,hc]
  rfl
 ·cases h
end Go.Proofs.YtijdnecnjenleaaGreatDoor
