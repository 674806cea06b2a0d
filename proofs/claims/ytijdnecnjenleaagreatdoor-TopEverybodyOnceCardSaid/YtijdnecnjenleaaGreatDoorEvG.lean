/-
 The operations,second part: arithmetic,comparisons,strings,slices,literals.
-/
import Derived.Test.YtijdnecnjenleaaGreatDoorEvFa
import Derived.TacticsIn
import Derived.OrdersIn
import Derived.LoopNIn
import Derived.Laws.StructEq
import Derived.Laws.Cover3

namespace Go.Ev
open Go.RowKit
structure Kept (B : Nat → Prop) (w w' : World) : Prop where
 os : w'.os = w.os
 tape : w'.tape = w.tape
 output : w'.output = w.output
 size : w.heap.size ≤ w'.heap.size
 block : ∀ k,B k → w'.heap[k]? = w.heap[k]?
theorem Kept.refl (B : Nat → Prop) (w : World) : Kept B w w:=⟨rfl,rfl,rfl,Nat.le_refl _,fun _ _=>rfl⟩
theorem Kept.trans {B : Nat → Prop} {a b c : World} (h : Kept B a b) (k : Kept B b c) : Kept B a c :=
 ⟨k.os.trans h.os,k.tape.trans h.tape,k.output.trans h.output,Nat.le_trans h.size k.size,fun i hi=>(k.block i hi).trans (h.block i hi)⟩
def Glb (B : Nat → Prop) (w : World) : Prop:=∀ w',Kept B w w' → Facts w'
theorem Glb.mono {B B' : Nat → Prop} {w : World} (h : Glb B w) (hB : ∀ b,B b → B' b) : Glb B' w:=fun w' k=>h w' ⟨k.os,k.tape,k.output,k.size,fun i hi=>k.block i (hB i hi)⟩
structure KeptG (B : Nat → Prop) (w w' : World) : Prop extends Kept B w w' where
 glb : Glb B w
theorem KeptG.trans {B : Nat → Prop} {a b c : World} (h : KeptG B a b) (k : Kept B b c) : KeptG B a c:=⟨Kept.trans h.toKept k,h.glb⟩
theorem KeptG.here {B : Nat → Prop} {w w' : World} (h : KeptG B w w') : Glb B w':=fun _ k=>h.glb _ (Kept.trans h.toKept k)
theorem KeptG.refl {B : Nat → Prop} {w : World} (h : Glb B w) : KeptG B w w:=⟨Kept.refl _ _,h⟩
theorem Kept.of_below {B : Nat → Prop} {w w' : World} {n : Nat} (h : Below n w w') (hB : ∀ b,B b → b < n) : Kept B w w':=⟨h.os,h.tape,h.output,h.size,fun k hk=>h.block k (hB k hk)⟩
theorem Kept.below {w w' : World} {n : Nat} (h : Kept (fun b=>b < n) w w') : Below n w w':=⟨h.os,h.tape,h.output,h.size,h.block⟩
theorem Kept.of_grown {B : Nat → Prop} {w w' : World} {row : Option Nat} (h : w.grownBy w' row) (hB : ∀ b,B b → b < w.heap.size) (hr : ∀ k,row = some k → ¬ B k) : Kept B w w' :=
 ⟨h.os,h.tape,h.output,h.size,fun k hk=>h.block k (hB k hk) (fun e=>hr k e.symm hk)⟩
def Lies (w : World) (g : Nat) (xs : Array Value) (e : TypeId) (m : Bool) : Prop:=∃ fz : Nat × Nat,(fz = (0,0) ∨ (m = true ∧ fz = (xs.size,xs.size + 1))) ∧ w.heap[g]? = some (.cells xs e fz)
def isB (s : Sh) : Bool:=Sh.beq s (.int .u8)
def recV (key : Int) (d : Bool) : List Value:=bif d then [.int .i64 key,.bool true] else [.int .i64 key]
def recA (key : Int) (d : Bool) : List AV:=bif d then [.int .i64 key,.bool true] else [.int .i64 key]
def Holds (w : World) (g : Nat) (vs : List Value) (v : Value) : Prop :=
 ((∃ t,w.heap[g]? = some (.cells vs.toArray t (0,0))) ∧ v = .pointer (some ⟨g,0,none⟩) ∧ ∀ u ∈ vs,u.oneCell' = true) ∨
 (∃ (r : Go.Loop) (key : Int) (us : List Value) (d : Bool),w.heap[g]? = some (.loop r) ∧ (r.state = bif d then .done else .ready) ∧ (r.pending = bif d then some .ret else none) ∧ (r.params,r.assign,r.body) = loopCode key ∧ vs = .tuple (recV key d).toArray :: us ∧ r.tmps.toList = us ∧ v = .func (.yield g) #[] #[]) ∨
 (∃ (s : ByteArray) (pos : Nat),w.heap[g]? = some (.stringIter s pos) ∧ vs = [.tuple #[.string s,.int .i64 pos]] ∧ v = .slice (some ⟨g,0,none⟩) 0 0) ∨
 ∃ (xs : List MapEntry),w.heap[g]? = some (.map xs.toArray xs.length) ∧ (∀ (i : Nat) (e : MapEntry),xs[i]? = some e → e.born = i) ∧ vs = [.tuple (xs.map fun e=>Value.tuple #[e.key,e.val]).toArray] ∧ v = .map (some g)
theorem Holds.keep {w w' : World} {g : Nat} {vs : List Value} {v : Value} (h : Holds w g vs v) (hw : w'.heap[g]? = w.heap[g]?) : Holds w' g vs v:=by
 rcases h with ⟨⟨t,h⟩,h1⟩ | ⟨r,key,us,d,h,h1⟩ | ⟨s,pos,h,h1⟩ | ⟨xs,h,h1⟩
 ·exact .inl ⟨⟨t,hw.trans h⟩,h1⟩
 ·exact .inr (.inl ⟨r,key,us,d,hw.trans h,h1⟩)
 ·exact .inr (.inr (.inl ⟨s,pos,hw.trans h,h1⟩))
 ·exact .inr (.inr (.inr ⟨xs,hw.trans h,h1⟩))
theorem Holds.ptr {w : World} {g g' : Nat} {vs : List Value} {v : Value} (h : Holds w g vs v) (e : v = .pointer (some ⟨g',0,none⟩)) : g = g' ∧ (∃ t,w.heap[g]? = some (.cells vs.toArray t (0,0))) ∧ ∀ u ∈ vs,u.oneCell' = true:=by
 rcases h with ⟨h,h1,h2⟩ | ⟨r,key,us,d,_,_,_,_,_,_,h1⟩ | ⟨s,pos,_,_,h1⟩ | ⟨xs,_,_,_,h1⟩
 ·rw [h1] at e;cases e;exact ⟨rfl,h,h2⟩
 ·rw [h1] at e;cases e
 ·rw [h1] at e;cases e
 ·rw [h1] at e;cases e
def RowRel (w : World) (S : Nat → Prop) (B : Nat → Prop) (β : Bet) (id : Nat) (og : Option Nat) : Row → Prop
 | .box imm cs=>∃ (g : Nat) (vs : List Value) (v : Value),og = some g ∧ β id = some (v,1) ∧ Holds w g vs v ∧ VRels w S β cs vs ∧ (imm = false → ¬ S g) ∧ (imm = true → S g) ∧ ¬ B g
 | .arr imm s e es csp=>0 < s.width ∧ ∃ (v : Value) (sp : List AV) (xs : List Value),(∀ x ∈ es ++ sp,hasSh s x = true) ∧ (∀ c,csp = some c → c = sp) ∧ β id = some (v,s.width) ∧ (∀ u ∈ xs,u.oneCell' = true) ∧
   VRels w S nob (flat (es ++ sp)) xs ∧
   ((es = [] ∧ sp = [] ∧ og = none ∧ ∃ A,v = .slice A 0 0) ∨
    ∃ (g : Nat) (ps : List Value),og = some g ∧ v = .slice (some ⟨g,ps.length,none⟩) es.length (es.length + sp.length) ∧ ¬ B g ∧ Lies w g (ps ++ xs).toArray e (isB s) ∧ es.length + sp.length ≤ maxLen ∧
     (imm = false → ¬ S g) ∧ (imm = true → S g))
 | .foc imm s e pre cs post=>0 < s.width ∧ cs.length = s.width ∧ ∃ (g : Nat) (ps : List Value) (sp : List AV) (xs us ys : List Value),(∀ x ∈ pre,hasSh s x = true) ∧ (∀ x ∈ post ++ sp,hasSh s x = true) ∧ og = some g ∧
   β id = some (.slice (some ⟨g,ps.length,none⟩) (pre.length + (post.length + 1)) (pre.length + (post.length + 1) + sp.length),s.width) ∧
   (∀ u ∈ xs ++ (us ++ ys),u.oneCell' = true) ∧ VRels w S nob (flat pre) xs ∧ VRels w S β cs us ∧ VRels w S nob (flat (post ++ sp)) ys ∧
   ¬ B g ∧ Lies w g (ps ++ (xs ++ (us ++ ys))).toArray e (isB s) ∧ pre.length + (post.length + 1) + sp.length ≤ maxLen ∧ (imm = false → ¬ S g) ∧ (imm = true → S g)
structure Ctx where
 B : Nat → Prop
 bet : Bet:=nob
 df : List Deferred:=[]
instance : CoeFun Ctx fun _=>Nat → Prop:=⟨Ctx.B⟩
instance : Coe Ctx (Nat → Prop):=⟨Ctx.B⟩
structure Rel (w : World) (S : Nat → Prop) (B : Ctx) (β : Bet) (og : Nat → Option Nat) (st : St) (a : Act) : Prop where
 tm : VRels w S β st.tm a.tmps.toList
 df : a.defers = B.df
 row : ∀ id r,lookup st.rows id = some r → RowRel w S B β id (og id) r
 inj : ∀ id id' g,og id = some g → og id' = some g → id = id'
 lt : ∀ id g,og id = some g → g < w.heap.size
 used : ∀ id x,β id = some x → id ∈ st.used
 one : ∀ id x,β id = some x → x.1.oneCell' = true
 Slt : ∀ b,S b → b < w.heap.size
 Ble : ∀ b,B b → b < w.heap.size
 pid : ∀ id x,PID ≤ id → β id = some x → B.bet id = some x
theorem flat_length {s : Sh} : ∀ (es : List AV),(∀ x ∈ es,hasSh s x = true) → (flat es).length = es.length * s.width
 | [],_=>by simp [flat]
 | e :: es,h=>by
  have h1:=hasSh_width s e (h e (by simp))
  have h2:=flat_length (s:=s) es (fun x hx=>h x (by simp [hx]))
  simp only [flat,List.flatMap_cons,List.length_append,List.length_cons] at h2 ⊢
  rw [h1,h2,Nat.add_mul,Nat.one_mul,Nat.add_comm]
theorem flat_append (es fs : List AV) : flat (es ++ fs) = flat es ++ flat fs:=by simp [flat]
theorem flat_at {s : Sh} : ∀ (es : List AV) (i : Nat) (e : AV),(∀ x ∈ es,hasSh s x = true) → es[i]? = some e → ((flat es).drop (i * s.width)).take s.width = e.cells
 | [],i,e,_,h=>by simp at h
 | x :: es,0,e,hs,h=>by
  simp at h
  subst h
  have hw:=hasSh_width s x (hs x (by simp))
  simp only [flat,List.flatMap_cons,Nat.zero_mul,List.drop_zero]
  rw [← hw]
  simp
 | x :: es,i + 1,e,hs,h=>by
  have hw:=hasSh_width s x (hs x (by simp))
  have ih:=flat_at es i e (fun y hy=>hs y (by simp [hy])) (by simpa using h)
  rw [← ih]
  simp only [flat,List.flatMap_cons]
  rw [Nat.add_mul,Nat.one_mul,Nat.add_comm,← List.drop_drop,← hw]
  simp
theorem VRel.keepS {w : World} {S S' : Nat → Prop} {β : Bet} {c : AV} {v : Value} (h : VRel w S β c v) (hS : ∀ b,S b → S' b) : VRel w S' β c v:=h.mono hS (fun _ _=>rfl) (fun _ _ h=>h)
theorem VRels.keepS {w : World} {S S' : Nat → Prop} {β : Bet} {cs : List AV} {vs : List Value} (h : VRels w S β cs vs) (hS : ∀ b,S b → S' b) : VRels w S' β cs vs:=h.mono hS (fun _ _=>rfl) (fun _ _ h=>h)
theorem add_lit' (g o j : Nat) : (⟨g,o,none⟩ : Addr).add j = ⟨g,o + j,none⟩:=by unfold Addr.add;split <;> simp_all
theorem add_add (x : Addr) (i j : Nat) : (x.add i).add j = x.add (i + j):=by
 unfold Addr.add
 by_cases hi : i = 0 <;> by_cases hj : j = 0 <;> simp [hi,hj,Nat.add_assoc]
theorem flat_drop {s : Sh} : ∀ (es : List AV) (l : Nat),(∀ x ∈ es,hasSh s x = true) → flat (es.drop l) = (flat es).drop (l * s.width)
 | es,0,_=>by simp
 | [],l + 1,_=>by simp [flat]
 | e :: es,l + 1,hs=>by
  have hw:=hasSh_width s e (hs e (by simp))
  have:=flat_drop es l (fun x hx=>hs x (by simp [hx]))
  simp only [List.drop_succ_cons,this]
  simp only [flat,List.flatMap_cons]
  rw [Nat.add_mul,Nat.one_mul,Nat.add_comm,← List.drop_drop,← hw]
  simp
theorem flat_take {s : Sh} : ∀ (es : List AV) (l : Nat),(∀ x ∈ es,hasSh s x = true) → flat (es.take l) = (flat es).take (l * s.width)
 | es,0,_=>by simp [flat]
 | [],l + 1,_=>by simp [flat]
 | e :: es,l + 1,hs=>by
  have hw:=hasSh_width s e (hs e (by simp))
  have:=flat_take es l (fun x hx=>hs x (by simp [hx]))
  simp only [List.take_succ_cons]
  simp only [flat,List.flatMap_cons] at this ⊢
  have e1 : List.take (e.cells.length + l * e.cells.length) e.cells = e.cells:=List.take_of_length_le (by omega)
  rw [this,Nat.add_mul,Nat.one_mul,Nat.add_comm,← hw,List.take_append,e1]
  simp
section part
variable {w : World} {S : Nat → Prop} {β : Bet}
theorem VRel.slv_inv {s : Sh} {es : List AV} {v : Value} (h : VRel w S β (.slv s es) v) : ∃ (A : Option Addr) (c : Nat) (ad : Addr) (xs : List Value),v = .slice A es.length c ∧ (∀ e ∈ es,hasSh s e = true) ∧ es.length ≤ c ∧ c ≤ maxLen ∧
  (es ≠ [] → A = some ad ∧ S ad.block) ∧ VRels w S nob (flat es) xs ∧ (∀ u ∈ xs,u.oneCell' = true) ∧ (∀ (j : Nat) (u : Value),xs[j]? = some u → w.cell? (ad.add j) = some u):=by
 cases h with
 | slv _ _ _ A c ad xs hs hc hm hA hl h1 hx hh=>exact ⟨A,c,ad,xs,rfl,hs,hc,hm,hA,⟨hl,hh⟩,h1,hx⟩
theorem slv_part {s : Sh} {es : List AV} {v : Value} (h : VRel w S β (.slv s es) v) (β' : Bet) {l hh : Nat} (hlh : l ≤ hh) (hhl : hh ≤ es.length) :
  ∃ A c,v = .slice A es.length c ∧ es.length ≤ c ∧ VRel w S β' (.slv s ((es.drop l).take (hh - l))) (.slice (if c = l then A else A.map (·.add (l * s.width))) (hh - l) (c - l)):=by
 obtain ⟨A,c,ad,xs,rfl,hs,hc,hm,hA,hv,h1,hx⟩:=h.slv_inv
 refine ⟨A,c,rfl,hc,?_⟩
 have hs' : ∀ e ∈ (es.drop l).take (hh - l),hasSh s e = true:=fun e he=>hs e (List.mem_of_mem_drop (List.mem_of_mem_take he))
 have hlen : ((es.drop l).take (hh - l)).length = hh - l:=by simp;omega
 have hfl : flat ((es.drop l).take (hh - l)) = ((flat es).drop (l * s.width)).take ((hh - l) * s.width):=by
  rw [flat_take (s:=s) _ _ (fun x hx=>hs x (List.mem_of_mem_drop hx)),flat_drop es l hs]
 have hvv:=(hv.drop (l * s.width)).take ((hh - l) * s.width)
 rw [← hfl] at hvv
 have:=VRel.slv (w:=w) (S:=S) β' s ((es.drop l).take (hh - l)) (if c = l then A else A.map (·.add (l * s.width))) (c - l) (ad.add (l * s.width)) ((xs.drop (l * s.width)).take ((hh - l) * s.width)) hs' (by rw [hlen];omega) (by omega)
  (fun hne=>?_) hvv.1 (fun u hu=>h1 u (List.mem_of_mem_drop (List.mem_of_mem_take hu))) (fun j u hu=>?_) hvv.2
 ·rwa [hlen] at this
 ·have hpos : 0 < hh - l:=by
   rcases Nat.eq_zero_or_pos (hh - l) with h0 | h0
   ·rw [h0] at hne;simp at hne
   ·exact h0
  have hne' : es ≠ []:=by rintro rfl;simp at hhl;omega
  obtain ⟨rfl,hS⟩:=hA hne'
  rw [if_neg (by omega)]
  exact ⟨rfl,by rw [add_block];exact hS⟩
 ·rw [List.getElem?_take] at hu
  split at hu
  ·rw [List.getElem?_drop] at hu
   rw [add_add]
   exact hx _ u hu
  ·cases hu
end part
def With (S : Nat → Prop) (og : Nat → Option Nat) (ids : List Nat) (b : Nat) : Prop:=S b ∨ ∃ id ∈ ids,og id = some b
theorem With.left {S : Nat → Prop} {og : Nat → Option Nat} {ids : List Nat} {b : Nat} (h : S b) : With S og ids b:=.inl h
theorem With.sub {S : Nat → Prop} {og : Nat → Option Nat} {ids ids' : List Nat} (hs : ∀ i ∈ ids,i ∈ ids') {b : Nat} (h : With S og ids b) : With S og ids' b :=
 h.imp id fun ⟨i,hi,hb⟩=>⟨i,hs i hi,hb⟩
theorem row_cell {w : World} {g : Nat} {cur : Array Value} {e : TypeId} {m : Bool} (h : Lies w g cur e m) (j : Nat) : w.cell? ⟨g,j,none⟩ = cur[j]?:=by
 obtain ⟨fz,_,h⟩:=h
 simp [World.cell?,h]
theorem behind (ps xs : List Value) (j : Nat) : (ps ++ xs).toArray[ps.length + j]? = xs[j]?:=by
 rw [List.getElem?_toArray,List.getElem?_append_right (Nat.le_add_right _ _),Nat.add_sub_cancel_left]
theorem Lies.plain {w : World} {g : Nat} {xs : Array Value} {e : TypeId} (h : w.heap[g]? = some (.cells xs e (0,0))) {m : Bool} : Lies w g xs e m:=⟨_,.inl rfl,h⟩
theorem Lies.keep {w w' : World} {g : Nat} {xs : Array Value} {e : TypeId} {m : Bool} (h : Lies w g xs e m) (hw : w'.heap[g]? = w.heap[g]?) : Lies w' g xs e m:=by
 obtain ⟨fz,h1,h2⟩:=h
 exact ⟨fz,h1,hw.trans h2⟩
theorem Lies.lt {w : World} {g : Nat} {xs : Array Value} {e : TypeId} {m : Bool} (h : Lies w g xs e m) : g < w.heap.size:=by
 obtain ⟨fz,_,h⟩:=h
 exact (Array.getElem?_eq_some_iff.1 h).1
theorem RowRel.arr_old {w : World} {S : Nat → Prop} {B : Nat → Prop} {β : Bet} {id : Nat} {og : Option Nat} {imm : Bool} {s : Sh} {e : TypeId} {es : List AV} {csp : Option (List AV)} (h : RowRel w S B β id og (.arr imm s e es csp)) :
  0 < s.width ∧ (∀ x ∈ es,hasSh s x = true) ∧ ∃ (v : Value) (xs : List Value),β id = some (v,s.width) ∧ (∀ u ∈ xs,u.oneCell' = true) ∧ VRels w S nob (flat es) xs ∧
   ((es = [] ∧ og = none ∧ ∃ A,v = .slice A 0 0) ∨
    ∃ (g cap o : Nat) (cur : Array Value),og = some g ∧ v = .slice (some ⟨g,o,none⟩) es.length cap ∧ ¬ B g ∧ Lies w g cur e (isB s) ∧ es.length ≤ cap ∧ cap ≤ maxLen ∧
     cur.size = o + cap * s.width ∧ (cur.toList.drop o).take (es.length * s.width) = xs ∧ (imm = false → ¬ S g) ∧ (imm = true → S g)):=by
 obtain ⟨hpos,v,sp,xs,hshA,_,hb,h1A,hvA,hor⟩:=h
 have hsh : ∀ x ∈ es,hasSh s x = true:=fun x hx=>hshA x (List.mem_append_left _ hx)
 have hv : VRels w S nob (flat es) (xs.take (es.length * s.width)):=by
  have:=hvA.take (es.length * s.width)
  rw [flat_append,List.take_append_of_le_length (by rw [flat_length es hsh];exact Nat.le_refl _),List.take_of_length_le (by rw [flat_length es hsh];exact Nat.le_refl _)] at this
  exact this
 refine ⟨hpos,hsh,v,_,hb,fun u hu=>h1A u (List.mem_of_mem_take hu),hv,?_⟩
 rcases hor with ⟨he,hsp,ho,hA⟩ | ⟨g,ps,hog,rfl,hB,hh,hm,hi,hj⟩
 ·exact .inl ⟨he,ho,hA⟩
 ·refine .inr ⟨g,_,ps.length,(ps ++ xs).toArray,hog,rfl,hB,hh,by omega,hm,?_,by simp,hi,hj⟩
  rw [List.size_toArray,List.length_append,hvA.1,flat_length _ hshA,List.length_append]
theorem arr_slv {w : World} {S S' : Nat → Prop} {B : Nat → Prop} {β : Bet} {id : Nat} {og : Option Nat} {imm : Bool} {s : Sh} {e : TypeId} {es : List AV} {csp : Option (List AV)} (h : RowRel w S B β id og (.arr imm s e es csp))
  (hS : ∀ b,S b → S' b) (hg : ∀ g,og = some g → S' g) (β' : Bet) : ∃ v,β id = some (v,s.width) ∧ VRel w S' β' (.slv s es) v ∧
   ∀ i off,i < es.length → ∃ g o n c,v = .slice (some ⟨g,o,none⟩) n c ∧ VRel w S' β' (.eref s es i off) (.pointer (some ⟨g,o + (i * s.width + off),none⟩)):=by
 obtain ⟨hpos,v,sp,xs,hshA,_,hb,h1A,hvA,hor⟩:=h
 have hsh : ∀ x ∈ es,hasSh s x = true:=fun x hx=>hshA x (List.mem_append_left _ hx)
 refine ⟨v,hb,?_⟩
 rcases hor with ⟨he,hsp,_,A,rfl⟩ | ⟨g,ps,hog,rfl,_,hh,hm,_⟩
 ·subst he
  exact ⟨.slv β' s [] A 0 default [] (by simp) (by simp) (by decide) (fun h=>absurd rfl h) (by simp [flat]) (by simp) (by simp) (by simp [flat]),fun i off hi=>by simp at hi⟩
 ·have hv : VRels w S' nob (flat es) (xs.take (es.length * s.width)):=by
   have:=(hvA.keepS hS).take (es.length * s.width)
   rw [flat_append,List.take_append_of_le_length (by rw [flat_length es hsh];exact Nat.le_refl _),List.take_of_length_le (by rw [flat_length es hsh];exact Nat.le_refl _)] at this
   exact this
  have h1 : ∀ u ∈ xs.take (es.length * s.width),u.oneCell' = true:=fun u hu=>h1A u (List.mem_of_mem_take hu)
  have hcell : ∀ (j : Nat) (u : Value),(xs.take (es.length * s.width))[j]? = some u → w.cell? ((⟨g,ps.length,none⟩ : Addr).add j) = some u:=by
   intro j u hu
   rw [add_lit',row_cell hh,behind]
   rw [List.getElem?_take] at hu
   split at hu
   ·exact hu
   ·cases hu
  refine ⟨.slv β' s es _ _ ⟨g,ps.length,none⟩ _ hsh (by omega) hm (fun _=>⟨rfl,hg g hog⟩) hv.1 h1 hcell hv.2,fun i off hi=>⟨g,ps.length,es.length,_,rfl,?_⟩⟩
  have:=VRel.eref β' s es i off ⟨g,ps.length,none⟩ _ hi hsh (hg g hog) hv.1 h1 hcell hv.2
  rwa [add_lit'] at this
theorem mkAV_cells0 {s : Sh} {cs : List AV} (h : hasSh s (mkAV s cs) = true) (hl : cs.length = s.width) : (mkAV s cs).cells = cs:=by
 cases s with
 | agg l=>rfl
 | _ =>
  match cs,hl with
  | [c],_ =>
   first
    | exact (has1_cells _ c h).1
    | (simp [hasSh,has1] at h)
theorem purL_length {f : AV → Option (AV × List Nat)} : ∀ (cs : List AV) (p : List AV × List Nat),purL f cs = some p → p.1.length = cs.length
 | [],p,h=>by simp [purL] at h;subst h;rfl
 | c :: cs,p,h=>by
  simp only [purL] at h
  cases hc : f c with
  | none=>simp [hc] at h
  | some q =>
   cases hq : purL f cs with
   | none=>simp [hc,hq] at h
   | some r =>
    simp [hc,hq] at h
    subst h
    simp [purL_length cs r hq]
theorem foc_slv {w : World} {S S' : Nat → Prop} {B : Nat → Prop} {β : Bet} {id : Nat} {og : Option Nat} {imm : Bool} {s : Sh} {e : TypeId} {pre cs post p : List AV} (h : RowRel w S B β id og (.foc imm s e pre cs post))
  (hS : ∀ b,S b → S' b) (hg : ∀ g,og = some g → S' g) (hp : ∀ us,VRels w S β cs us → VRels w S' nob p us) (hl : p.length = cs.length) (hsh : hasSh s (mkAV s p) = true) (β' : Bet) :
  ∃ v,β id = some (v,s.width) ∧ VRel w S' β' (.slv s (pre ++ mkAV s p :: post)) v:=by
 obtain ⟨hpos,hcl,g,ps,sp,xs,us,ys,hpre,hpost,hog,hb,h1,vx,vu,vy,hB,hh,hm,_⟩:=h
 have hc:=mkAV_cells0 hsh (hl.trans hcl)
 have hf : flat (pre ++ mkAV s p :: post) = flat pre ++ (p ++ flat post):=by
  simp only [flat,List.flatMap_append,List.flatMap_cons,hc]
 have vy' : VRels w S' nob (flat post) (ys.take (flat post).length):=by
  have:=(vy.keepS hS).take (flat post).length
  rw [flat_append,List.take_append_of_le_length (Nat.le_refl _),List.take_of_length_le (Nat.le_refl _)] at this
  exact this
 have hv : VRels w S' nob (flat (pre ++ mkAV s p :: post)) (xs ++ (us ++ ys.take (flat post).length)):=by
  rw [hf]
  exact (vx.keepS hS).append ((hp us vu).append vy')
 have hall : ∀ x ∈ pre ++ mkAV s p :: post,hasSh s x = true:=fun x hx=>by
  rcases List.mem_append.1 hx with hx | hx
  ·exact hpre x hx
  ·rcases List.mem_cons.1 hx with rfl | hx
   ·exact hsh
   ·exact hpost x (List.mem_append_left _ hx)
 have hsub : xs ++ (us ++ ys.take (flat post).length) = (xs ++ (us ++ ys)).take (xs.length + (us.length + (flat post).length)):=by
  rw [List.take_length_add_append,List.take_length_add_append]
 have hn : (pre ++ mkAV s p :: post).length = pre.length + (post.length + 1):=by simp
 refine ⟨_,hb,?_⟩
 have:=VRel.slv β' s (pre ++ mkAV s p :: post) (some ⟨g,ps.length,none⟩) (pre.length + (post.length + 1) + sp.length) ⟨g,ps.length,none⟩ _ hall (by rw [hn];omega) hm (fun _=>⟨rfl,hg g hog⟩) hv.1 (fun u hu=>?_) (fun j u hu=>?_) hv.2
 ·rwa [hn] at this
 ·rw [hsub] at hu
  exact h1 u (List.mem_of_mem_take hu)
 ·rw [hsub,List.getElem?_take] at hu
  rw [add_lit',row_cell hh,behind]
  split at hu
  ·exact hu
  ·cases hu
section pur
variable {w : World} {S : Nat → Prop} {B : Nat → Prop} {β : Bet} {og : Nat → Option Nat} {rows : List (Nat × Row)}
theorem purL_sound {f : AV → Option (AV × List Nat)} (hf : ∀ v v' ids u,f v = some (v',ids) → VRel w S β v u → VRel w (With S og ids) nob v' u) :
  ∀ (cs : List AV) (p : List AV × List Nat) (us : List Value),purL f cs = some p → VRels w S β cs us → VRels w (With S og p.2) nob p.1 us
 | [],p,us,h,hv=>by simp [purL] at h;subst h;rw [hv.inv_nil];exact VRels.nil
 | c :: cs,p,us,h,hv=>by
  obtain ⟨u,us',rfl,h0,hs⟩:=hv.inv
  simp only [purL] at h
  cases hc : f c with
  | none=>simp [hc] at h
  | some q =>
   cases hq : purL f cs with
   | none=>simp [hc,hq] at h
   | some r =>
    simp [hc,hq] at h
    subst h
    exact VRels.cons ((hf c q.1 q.2 u hc h0).keepS fun b=>With.sub (by simp +contextual)) ((purL_sound hf cs r us' hq hs).keepS fun b=>With.sub (by simp +contextual))
theorem pur1_sound (hrow : ∀ id r,lookup rows id = some r → RowRel w S B β id (og id) r) :
  ∀ (n : Nat) (v v' : AV) (ids : List Nat) (u : Value),pur1 rows n v = some (v',ids) → VRel w S β v u → VRel w (With S og ids) nob v' u:=by
 intro n
 induction n with
 | zero=>intro v v' ids u h;simp [pur1] at h
 | succ n ih =>
  intro v v' ids u h hv
  have hL:=purL_sound (w:=w) (S:=S) (β:=β) (og:=og) (f:=pur1 rows n) (fun v v' ids u h hv=>ih v v' ids u h hv)
  cases hv with
  | unk _ v=>simp [pur1] at h
  | undef=>simp [pur1] at h;obtain ⟨rfl,rfl⟩:=h;exact .undef _
  | int _ k m=>simp [pur1] at h;obtain ⟨rfl,rfl⟩:=h;exact .int _ k m
  | bool _ b=>simp [pur1] at h;obtain ⟨rfl,rfl⟩:=h;exact .bool _ b
  | ubool _ b=>simp [pur1] at h;obtain ⟨rfl,rfl⟩:=h;exact .ubool _ b
  | nl _ _ hn=>simp [pur1] at h;obtain ⟨rfl,rfl⟩:=h;exact .nl _ _ hn
  | str _ s=>simp [pur1] at h;obtain ⟨rfl,rfl⟩:=h;exact .str _ s
  | agg _ cs vs hl h1 hh =>
   simp only [pur1] at h
   cases hp : purL (pur1 rows n) cs with
   | none=>simp [hp] at h
   | some p =>
    simp [hp] at h
    obtain ⟨rfl,rfl⟩:=h
    have:=hL cs p vs hp ⟨hl,hh⟩
    exact .agg _ p.1 vs this.1 h1 this.2
  | tup _ cs vs hl hh =>
   simp only [pur1] at h
   cases hp : purL (pur1 rows n) cs with
   | none=>simp [hp] at h
   | some p =>
    simp [hp] at h
    obtain ⟨rfl,rfl⟩:=h
    have:=hL cs p vs hp ⟨hl,hh⟩
    exact .tup _ p.1 vs this.1 this.2
  | slv _ s es A c a xs hs hc hm hA hl h1 hx hh =>
   simp [pur1] at h;obtain ⟨rfl,rfl⟩:=h
   exact (VRel.slv nob s es A c a xs hs hc hm hA hl h1 hx hh).keepS fun b=>With.left
  | slz _ s A=>simp [pur1] at h;obtain ⟨rfl,rfl⟩:=h;exact .slz _ s A
  | eref _ s es i off a xs hi hs hSa hl h1 hx hh =>
   simp [pur1] at h;obtain ⟨rfl,rfl⟩:=h
   exact (VRel.eref nob s es i off a xs hi hs hSa hl h1 hx hh).keepS fun b=>With.left
  | ref _ cs a xs hSa hl h1 hx hh =>
   simp [pur1] at h;obtain ⟨rfl,rfl⟩:=h
   exact (VRel.ref nob cs a xs hSa hl h1 hx hh).keepS fun b=>With.left
  | ifr _ t cs v hh =>
   simp [pur1] at h;obtain ⟨rfl,rfl⟩:=h
   exact (VRel.ifr nob t cs v hh).keepS fun b=>With.left
  | nsl=>simp [pur1] at h;obtain ⟨rfl,rfl⟩:=h;exact .nsl _
  | mpv _ es vs hl hh =>
   simp [pur1] at h;obtain ⟨rfl,rfl⟩:=h
   exact (VRel.mpv nob es vs hl hh).keepS fun b=>With.left
  | ptr _ id off g wd hbt =>
   simp only [pur1] at h
   cases hr : lookup rows id with
   | none=>simp [hr] at h
   | some r =>
    cases r with
    | arr _ _ _ _ _=>simp [hr] at h
    | foc _ _ _ _ _ _=>simp [hr] at h
    | box imm cs =>
     obtain ⟨g',vs,v0,hog,hb,hH,hvs,_⟩:=hrow id _ hr
     have hgg : v0 = .pointer (some ⟨g,0,none⟩):=by rw [hbt] at hb;simp at hb;exact hb.1.symm
     obtain ⟨hgg,⟨t,hh⟩,h1⟩:=hH.ptr hgg
     subst hgg
     simp only [hr] at h
     cases hp : purL (pur1 rows n) cs with
     | none=>simp [hp] at h
     | some p =>
      simp [hp] at h
      obtain ⟨rfl,rfl⟩:=h
      have hq:=((hL cs p vs hp hvs).keepS (S':=With S og (id :: p.2)) fun b=>With.sub (by simp +contextual)).drop off
      refine .ref _ _ _ (vs.drop off) (.inr ⟨id,by simp,hog⟩) hq.1 (fun u hu=>h1 u (List.mem_of_mem_drop hu)) (fun j u hu=>?_) hq.2
      rw [add_lit',row_cell (Lies.plain hh (m:=true))]
      simpa using hu
  | eptr _ id i off g m c wd o hbt =>
   simp only [pur1] at h
   cases hr : lookup rows id with
   | none=>simp [hr] at h
   | some r =>
    cases r with
    | box _ _=>simp [hr] at h
    | foc _ _ _ _ _ _=>simp [hr] at h
    | arr imm s e es csp =>
     simp [hr] at h
     obtain ⟨hi,rfl,rfl⟩:=h
     obtain ⟨v,hb,_,he⟩:=arr_slv (hrow id _ hr) (S':=With S og [id]) (fun b=>With.left) (fun g hg=>.inr ⟨id,by simp,hg⟩) nob
     rw [hbt] at hb
     simp only [Option.some.injEq,Prod.mk.injEq] at hb
     obtain ⟨rfl,rfl⟩:=hb
     obtain ⟨g',o',n',c',hv,hr'⟩:=he i off hi
     simp at hv
     obtain ⟨⟨rfl,rfl⟩,_,_⟩:=hv
     exact hr'
  | own _ id v wd hbt =>
   simp only [pur1] at h
   cases hr : lookup rows id with
   | none=>simp [hr] at h
   | some r =>
    cases r with
    | box _ _=>simp [hr] at h
    | foc imm s e pre cs post =>
     simp only [hr] at h
     cases hp : purL (pur1 rows n) cs with
     | none=>simp [hp] at h
     | some p =>
      simp only [hp] at h
      split at h
      ·rename_i hsh
       simp only [Option.some.injEq,Prod.mk.injEq] at h
       obtain ⟨rfl,rfl⟩:=h
       obtain ⟨v',hb,hv⟩:=foc_slv (hrow id _ hr) (S':=With S og (id :: p.2)) (fun b=>With.left) (fun g hg=>.inr ⟨id,by simp,hg⟩)
        (fun us vu=>(hL cs p us hp vu).keepS fun b=>With.sub (by simp +contextual)) (purL_length cs p hp) hsh nob
       rw [hbt] at hb
       simp at hb
       rw [hb.1]
       exact hv
      ·cases h
    | arr imm s e es csp =>
     simp [hr] at h
     obtain ⟨rfl,rfl⟩:=h
     obtain ⟨v',hb,hv,_⟩:=arr_slv (hrow id _ hr) (S':=With S og [id]) (fun b=>With.left) (fun g hg=>.inr ⟨id,by simp,hg⟩) nob
     rw [hbt] at hb
     simp at hb
     rw [hb.1]
     exact hv
  | sub _ id lo n A m c wd hbt =>
   simp only [pur1] at h
   cases hr : lookup rows id with
   | none=>simp [hr] at h
   | some r =>
    cases r with
    | box _ _=>simp [hr] at h
    | foc _ _ _ _ _ _=>simp [hr] at h
    | arr imm s e es csp =>
     simp [hr] at h
     obtain ⟨hle,rfl,rfl⟩:=h
     obtain ⟨v',hb,hv,_⟩:=arr_slv (hrow id _ hr) (S':=With S og [id]) (fun b=>With.left) (fun g hg=>.inr ⟨id,by simp,hg⟩) nob
     rw [hbt] at hb
     simp only [Option.some.injEq,Prod.mk.injEq] at hb
     obtain ⟨rfl,rfl⟩:=hb
     obtain ⟨A',c',he,hc',hv'⟩:=slv_part hv nob (l:=lo) (hh:=lo + n) (by omega) hle
     cases he
     rw [Nat.add_sub_cancel_left] at hv'
     exact hv'
  | fn _ f cs vs hl hh =>
   simp only [pur1] at h
   cases hp : purL (pur1 rows n) cs with
   | none=>simp [hp] at h
   | some p =>
    simp [hp] at h
    obtain ⟨rfl,rfl⟩:=h
    have:=hL cs p vs hp ⟨hl,hh⟩
    exact .fn _ f p.1 vs this.1 this.2
end pur
theorem AV.force_eq {α : Type} (v : AV) : ∀ k : AV → α,v.force k = k v:=by
 induction v using AV.rec (motive_2:=fun cs=>∀ k : List AV → α,AV.forces cs k = k cs) with
 | nil=>rename_i k;simp [AV.forces]
 | cons c cs ih1 ih2=>rename_i k;simp [AV.forces,ih1,ih2]
 | _=>intro k;simp_all [AV.force]
theorem AV.forces_eq {α : Type} : ∀ (cs : List AV) (k : List AV → α),AV.forces cs k = k cs
 | [],k=>by simp [AV.forces]
 | c :: cs,k=>by simp [AV.forces,AV.force_eq,AV.forces_eq cs]
theorem forceRows_eq {α : Type} : ∀ (rows : List (Nat × Row)) (k : List (Nat × Row) → α),forceRows rows k = k rows
 | [],k=>by simp [forceRows]
 | (i,.box im cs) :: rest,k=>by simp [forceRows,Row.force,AV.forces_eq,forceRows_eq rest]
 | (i,.arr im s e es sp) :: rest,k=>by simp [forceRows,Row.force,forceRows_eq rest]
 | (i,.foc im s e pre cs post) :: rest,k=>by simp [forceRows,Row.force,AV.forces_eq,forceRows_eq rest]
theorem forceL_eq {α : Type} : ∀ (l : List Nat) (k : List Nat → α),forceL l k = k l
 | [],k=>by simp [forceL]
 | i :: l,k=>by simp [forceL,forceL_eq l]
theorem St.force_eq {α : Type} (st : St) (k : St → α) : st.force k = k st:=by simp [St.force,AV.forces_eq,forceRows_eq,forceL_eq]
theorem lookup_setRow (rows : List (Nat × Row)) (id : Nat) (r : Row) (i : Nat) : lookup (setRow rows id r) i = if i = id then some r else lookup rows i:=by
 induction rows with
 | nil=>simp only [setRow,lookup];by_cases h : id = i <;> simp [h,eq_comm]
 | cons x rest ih =>
  obtain ⟨j,x⟩:=x
  simp only [setRow]
  by_cases hj : j = id
  ·subst hj
   simp only [if_pos,lookup]
   by_cases h : j = i <;> simp [h,eq_comm]
   intro h';exact absurd h'.symm h
  ·simp only [if_neg hj,lookup,ih]
   by_cases h : j = i
   ·subst h;simp [hj]
   ·simp [h]
theorem lookup_delRow (rows : List (Nat × Row)) (id i : Nat) : lookup (delRow rows id) i = if i = id then none else lookup rows i:=by
 induction rows with
 | nil=>simp [delRow,lookup]
 | cons x rest ih =>
  obtain ⟨j,x⟩:=x
  simp only [delRow]
  by_cases hj : j = id
  ·subst hj
   simp only [if_pos,ih,lookup]
   by_cases h : i = j
   ·simp [h]
   ·rw [if_neg h,if_neg h,if_neg (fun e=>h e.symm)]
  ·simp only [if_neg hj,lookup,ih]
   by_cases h : j = i
   ·subst h;simp [hj]
   ·simp [h]
theorem lookup_setImm (ids : List Nat) (rows : List (Nat × Row)) (i : Nat) : lookup (setImm ids rows) i = (lookup rows i).map fun r=>if ids.contains i then r.freeze else r:=by
 induction rows with
 | nil=>simp [setImm,lookup]
 | cons x rest ih =>
  obtain ⟨j,x⟩:=x
  simp only [setImm,lookup,ih]
  by_cases h : j = i
  ·subst h;simp
  ·simp [h]
end Go.Ev


namespace Go
def fen (R : Option Nat) : Fence:={ fn:=fun _=>True,depth:=none,alive:=false,round:=R }
def Oper.wpR (R : Option Nat) (P : Program) (o : Oper) (a : Act) (w : World) (K : Act → World → Prop) (Q : Exit → Act → World → Prop) : Prop:=o.wpIn (fen R) 0 P a w K Q
def Code.wpR (R : Option Nat) (P : Program) (c : Code) (Q : Exit → Act → World → Prop) (a : Act) (w : World) : Prop:=c.wpIn (fen R) 0 P Q a w
end Go
namespace Go.Ev
open Go.RowKit
theorem VRels.set {w : World} {S : Nat → Prop} {β : Bet} {cs : List AV} {vs : List Value} (h : VRels w S β cs vs) (d : Nat) {v : AV} {u : Value} (hv : VRel w S β v u) : VRels w S β (cs.set d v) (vs.set d u):=by
 refine ⟨by simp [h.1],fun j c x hc hx=>?_⟩
 rw [List.getElem?_set] at hc hx
 by_cases hd : d = j
 ·subst hd
  simp only [if_pos] at hc hx
  split at hc
  ·rename_i hlt
   rw [if_pos (by rw [h.1];exact hlt)] at hx
   cases hc;cases hx;exact hv
  ·cases hc
 ·rw [if_neg hd] at hc hx
  exact h.2 j c x hc hx
structure Out (w0 : World) (S0 : Nat → Prop) (B : Ctx) (w : World) (S : Nat → Prop) : Prop where
 bel : KeptG B w0 w
 sin : ∀ b,S b → S0 b ∨ ¬ B b
 sub : ∀ b,S0 b → S b
def RelX (w0 : World) (S0 : Nat → Prop) (B : Ctx) (st : St) (a : Act) (w : World) : Prop :=
 ∃ S β og,Rel w S B β og st a ∧ Out w0 S0 B w S
theorem Act.put_tmps (a : Act) (dst : Option Tmp) (u : Value) : (a.put dst u).tmps.toList = (match dst with | some d=>a.tmps.toList.set d u | none=>a.tmps.toList):=by
 cases dst <;> simp [Act.put]
theorem Act.put_defers (a : Act) (dst : Option Tmp) (u : Value) : (a.put dst u).defers = a.defers:=by
 cases dst <;> rfl
theorem tm_put {w : World} {S : Nat → Prop} {β : Bet} {tm : List AV} {a : Act} (h : VRels w S β tm a.tmps.toList) (dst : Option Tmp) {v : AV} {u : Value} (hv : VRel w S β v u) :
  VRels w S β (putTm tm dst v) (a.put dst u).tmps.toList:=by
 rw [Act.put_tmps]
 cases dst with
 | none=>exact h
 | some d=>exact h.set d hv
theorem Rel.put {w : World} {S : Nat → Prop} {B : Ctx} {β : Bet} {og : Nat → Option Nat} {st : St} {a : Act} (h : Rel w S B β og st a) (dst : Option Tmp) {v : AV} {u : Value} (hv : VRel w S β v u) :
  Rel w S B β og ⟨putTm st.tm dst v,st.rows,st.used⟩ (a.put dst u) :=
 ⟨tm_put h.tm dst hv,by rw [Act.put_defers];exact h.df,h.row,h.inj,h.lt,h.used,h.one,h.Slt,h.Ble,h.pid⟩
theorem RowRel.keep {w w' : World} {S S' : Nat → Prop} {B : Nat → Prop} {β β' : Bet} {id : Nat} {og : Option Nat} {r : Row} (h : RowRel w S B β id og r)
  (hβ : ∀ id x,β id = some x → β' id = some x) (hS : ∀ b,S b → S' b) (hS2 : ∀ g,og = some g → S' g → S g) (hw : ∀ b,S b → w'.heap[b]? = w.heap[b]?)
  (hog : ∀ g,og = some g → w'.heap[g]? = w.heap[g]?) : RowRel w' S' B β' id og r:=by
 cases r with
 | box imm cs =>
  obtain ⟨g,vs,t,ho,hb,hh,hv,hi,hj,hB⟩:=h
  exact ⟨g,vs,t,ho,hβ _ _ hb,hh.keep (hog g ho),hv.mono hS hw hβ,fun e hs=>hi e (hS2 g ho hs),fun e=>hS _ (hj e),hB⟩
 | arr imm s e es csp =>
  obtain ⟨hp,v,sp,xs,hsh,hcs,hb,h1,hv,hor⟩:=h
  refine ⟨hp,v,sp,xs,hsh,hcs,hβ _ _ hb,h1,hv.mono hS hw (fun _ _ h=>h),?_⟩
  rcases hor with ⟨he,hs,ho,A,hA⟩ | ⟨g,ps,ho,hvv,hB,hh,hm,hi,hj⟩
  ·exact .inl ⟨he,hs,ho,A,hA⟩
  ·exact .inr ⟨g,ps,ho,hvv,hB,hh.keep (hog g ho),hm,fun e hs=>hi e (hS2 g ho hs),fun e=>hS _ (hj e)⟩
 | foc imm s e pre cs post =>
  obtain ⟨hp,hcl,g,ps,sp,xs,us,ys,h1,h2,ho,hb,h3,vx,vu,vy,hB,hh,hm,hi,hj⟩:=h
  exact ⟨hp,hcl,g,ps,sp,xs,us,ys,h1,h2,ho,hβ _ _ hb,h3,vx.mono hS hw (fun _ _ h=>h),vu.mono hS hw hβ,vy.mono hS hw (fun _ _ h=>h),hB,hh.keep (hog g ho),hm,fun e hs=>hi e (hS2 g ho hs),fun e=>hS _ (hj e)⟩
theorem Rel.grow {w w' : World} {S S' : Nat → Prop} {B : Ctx} {β : Bet} {og : Nat → Option Nat} {st : St} {a : Act} (h : Rel w S B β og st a) (hb : Below w.heap.size w w')
  (hS : ∀ b,S b → S' b) (hS2 : ∀ b,b < w.heap.size → S' b → S b) (hlt : ∀ b,S' b → b < w'.heap.size) : Rel w' S' B β og st a:=by
 have hw : ∀ b,S b → w'.heap[b]? = w.heap[b]?:=fun b hs=>hb.block b (h.Slt b hs)
 exact ⟨h.tm.mono hS hw (fun _ _ h=>h),h.df,fun id r hr=>(h.row id r hr).keep (fun _ _ h=>h) hS (fun g hg=>hS2 g (h.lt id g hg)) hw (fun g hg=>hb.block g (h.lt id g hg)),h.inj,fun id g hg=>Nat.lt_of_lt_of_le (h.lt id g hg) hb.size,h.used,h.one,hlt,fun b hb'=>Nat.lt_of_lt_of_le (h.Ble b hb') hb.size,h.pid⟩
def upd {α : Type} (f : Nat → Option α) (id : Nat) (x : Option α) : Nat → Option α:=fun i=>if i = id then x else f i
theorem upd_same {α : Type} (f : Nat → Option α) (id : Nat) (x : Option α) : upd f id x id = x:=by simp [upd]
theorem upd_other {α : Type} (f : Nat → Option α) (id i : Nat) (x : Option α) (h : i ≠ id) : upd f id x i = f i:=by simp [upd,h]
def Fresh (site : Nat) (used : List Nat) : Prop:=site ∉ used ∧ site < PID
theorem fresh_of {site : Nat} {e : Eff} {used : List Nat} {r : Row} (hn : e.new = some r) (h : freshB site e used = true) : Fresh site used:=by
 simp only [freshB,hn,Bool.and_eq_true,Bool.not_eq_true'] at h
 obtain ⟨⟨h1,h2⟩,_⟩:=h
 exact ⟨by simpa using h1,Nat.blt_eq ▸ h2⟩
theorem pid_upd {B : Ctx} {β : Bet} {site : Nat} {y : Option (Value × Nat)} (h : ∀ id x,PID ≤ id → β id = some x → B.bet id = some x) (hs : site < PID) : ∀ id x,PID ≤ id → upd β site y id = some x → B.bet id = some x:=by
 intro id x hp hx
 rw [upd_other _ _ _ _ (by omega)] at hx
 exact h id x hp hx
theorem Rel.new {w : World} {S : Nat → Prop} {B : Ctx} {β : Bet} {og : Nat → Option Nat} {st : St} {a : Act} (h : Rel w S B β og st a) (site : Nat) (hf : Fresh site st.used) (dst : Option Tmp)
  {w' : World} {S' : Nat → Prop} {r : Row} {v : AV} {u x : Value} {wd : Nat} {o : Option Nat} (hb : Below w.heap.size w w') (hS : ∀ b,S b → S' b) (hS2 : ∀ b,b < w.heap.size → S' b → S b) (hlt : ∀ b,S' b → b < w'.heap.size)
  (hx : x.oneCell' = true) (ho : ∀ g,o = some g → w.heap.size ≤ g ∧ g < w'.heap.size)
  (hrow : RowRel w' S' B (upd β site (some (x,wd))) site o r) (hv : VRel w' S' (upd β site (some (x,wd))) v u) :
  Rel w' S' B (upd β site (some (x,wd))) (upd og site o) ⟨putTm st.tm dst v,setRow st.rows site r,site :: st.used⟩ (a.put dst u):=by
 have hβ : ∀ id y,β id = some y → upd β site (some (x,wd)) id = some y:=fun id y hy=>by
  have hne : id ≠ site:=fun e=>hf.1 (by rw [← e];exact h.used id y hy)
  rw [upd_other _ _ _ _ hne];exact hy
 have hw : ∀ b,S b → w'.heap[b]? = w.heap[b]?:=fun b hs=>hb.block b (h.Slt b hs)
 refine ⟨tm_put (h.tm.mono hS hw hβ) dst hv,by rw [Act.put_defers];exact h.df,fun id y hy=>?_,fun id id' g hg hg'=>?_,fun id g hg=>?_,fun id y hy=>?_,fun id y hy=>?_,hlt,fun b hb'=>Nat.lt_of_lt_of_le (h.Ble b hb') hb.size,pid_upd h.pid hf.2⟩
 ·rw [lookup_setRow] at hy
  by_cases e : id = site
  ·subst e
   simp only [if_pos] at hy
   cases hy
   rw [upd_same]
   exact hrow
  ·rw [if_neg e] at hy
   rw [upd_other _ _ _ _ e]
   exact (h.row id y hy).keep hβ hS (fun g hg=>hS2 g (h.lt id g hg)) hw (fun g hg=>hb.block g (h.lt id g hg))
 ·by_cases e : id = site <;> by_cases e' : id' = site
  ·rw [e,e']
  ·subst e
   rw [upd_same] at hg
   rw [upd_other _ _ _ _ e'] at hg'
   have:=(ho g hg).1
   have:=h.lt id' g hg'
   omega
  ·subst e'
   rw [upd_same] at hg'
   rw [upd_other _ _ _ _ e] at hg
   have:=(ho g hg').1
   have:=h.lt id g hg
   omega
  ·rw [upd_other _ _ _ _ e] at hg
   rw [upd_other _ _ _ _ e'] at hg'
   exact h.inj id id' g hg hg'
 ·by_cases e : id = site
  ·subst e;rw [upd_same] at hg;exact (ho g hg).2
  ·rw [upd_other _ _ _ _ e] at hg;exact Nat.lt_of_lt_of_le (h.lt id g hg) hb.size
 ·by_cases e : id = site
  ·subst e;simp
  ·rw [upd_other _ _ _ _ e] at hy;exact List.mem_cons_of_mem _ (h.used id y hy)
 ·by_cases e : id = site
  ·subst e;rw [upd_same] at hy;cases hy;exact hx
  ·rw [upd_other _ _ _ _ e] at hy;exact h.one id y hy
theorem ofCell_rel {w : World} {S : Nat → Prop} {β : Bet} (s : Sh) (v : Value) : VRel w S β (ofCell s v) v:=by
 unfold ofCell
 split
 ·exact .int _ _ _
 ·exact .bool _ _
 ·rename_i x;exact .str _ x.data.toList
 ·split
  ·exact .slz _ _ _
  ·exact .unk _ _
 ·split
  ·rename_i h;exact .nl _ _ h
  ·exact .unk _ _
theorem ofCells_rel {w : World} {S : Nat → Prop} {β : Bet} : ∀ (l : List Sh) (vs : List Value),VRels w S β (ofCells l vs) vs
 | _,[]=>VRels.nil
 | l,v :: vs=>VRels.cons (ofCell_rel _ v) (ofCells_rel l.tail vs)
theorem ofVal_rel {w : World} {S : Nat → Prop} {β : Bet} (s : Sh) (v : Value) : VRel w S β (ofVal s v) v:=by
 unfold ofVal
 split
 ·rename_i cs
  split
  ·rename_i h
   obtain ⟨l⟩:=cs
   have:=ofCells_rel (w:=w) (S:=S) (β:=β) s.cells l
   exact .agg _ _ _ this.1 (by simpa using h) this.2
  ·exact .unk _ _
 ·rename_i vs
  split
  ·rename_i h
   have : vs = #[]:=Array.eq_empty_of_size_eq_zero h
   subst this
   exact .undef _
  ·exact .unk _ _
 ·exact ofCell_rel s _
theorem ofLit_rel {w : World} {S : Nat → Prop} {β : Bet} (v : Value) : VRel w S β (ofLit v) v:=by
 unfold ofLit
 split
 ·exact .int _ _ _
 ·exact .bool _ _
 ·rename_i x;exact .str _ x.data.toList
 ·exact .unk _ _
theorem getD_rel {w : World} {S : Nat → Prop} {β : Bet} {tm : List AV} {tmps : Array Value} (h : VRels w S β tm tmps.toList) (n : Nat) : VRel w S β (tm.getD n .unk) (tmps.getD n undef):=by
 cases hc : tm[n]? with
 | none=>simp only [List.getD,hc,Option.getD_none];exact .unk _ _
 | some c =>
  obtain ⟨u,hu,hv⟩:=h.at_ hc
  have : tmps.getD n undef = u:=by
   rw [Array.getD_eq_getD_getElem?]
   have : tmps[n]? = some u:=by simpa using hu
   rw [this];rfl
  rw [this]
  simp only [List.getD,hc,Option.getD_some]
  exact hv
theorem val_rel {w : World} {S : Nat → Prop} {β : Bet} {tm : List AV} {a : Act} (h : VRels w S β tm a.tmps.toList) (x : Operand) : VRel w S β (val tm x) (a.eval x):=by
 cases x with
 | tmp t=>exact getD_rel h t
 | const v=>exact ofLit_rel v
 | global g=>exact .unk _ _
 | func f=>exact .fn _ f [] [] rfl (fun j c u hc=>by simp at hc)
theorem valT_rel {w : World} {S : Nat → Prop} {β : Bet} {tm : List AV} {a : Act} (h : VRels w S β tm a.tmps.toList) (P : Program) (t : TypeId) (x : Operand) : VRel w S β (valT P tm t x) (a.eval x):=by
 cases x with
 | tmp t=>exact getD_rel h t
 | const v=>exact ofVal_rel _ v
 | global g=>exact .unk _ _
 | func f=>exact .fn _ f [] [] rfl (fun j c u hc=>by simp at hc)
theorem valsT_rel {w : World} {S : Nat → Prop} {β : Bet} {tm : List AV} {a : Act} (h : VRels w S β tm a.tmps.toList) (P : Program) : ∀ (ts : List TypeId) (xs : List Operand),VRels w S β (valsT P tm ts xs) (xs.map a.eval)
 | _,[]=>by unfold valsT;split <;> first | contradiction | exact VRels.nil
 | [],x :: xs=>VRels.cons (val_rel h x) (valsT_rel h P [] xs)
 | t :: ts,x :: xs=>VRels.cons (valT_rel h P t x) (valsT_rel h P ts xs)
theorem semAt_of {P : Program} {R : Option Nat} {o : Oper} {a : Act} {w : World} {s : Result Next} (hr : (execOp a.eval o).run P w = s) (hn : ∀ d w',s ≠ .ok (.defer d) w') (hp : ∀ x w',s ≠ .halt x w') : (o.semAt R a.eval).run P w = s:=by
 cases R with
 | none=>exact hr
 | some l =>
  by_cases hd : ∃ c,o.op = .defer c
  ·obtain ⟨c,hc⟩:=hd
   exfalso
   simp only [execOp,hc,Sem.run_bind] at hr
   cases hres : (resolve a.eval c o.type).run P w with
   | ok d w' =>
    rw [hres] at hr
    exact hn d w' hr.symm
   | halt x w' =>
    rw [hres] at hr
    exact hp x w' hr.symm
  ·rw [Oper.semAt_eq (some l) a.eval o fun c hc=>hd ⟨c,hc⟩]
   exact hr
theorem wp_value {P : Program} {R : Option Nat} {o : Oper} {a : Act} {w w' : World} {K : Act → World → Prop} {Q : Exit → Act → World → Prop} {u : Value} (hr : (execOp a.eval o).run P w = .ok (.value u) w') (h : K (a.put o.dst u) w') : o.wpR R P a w K Q:=by
 refine ⟨fun _ _=>trivial,?_⟩
 rw [semAt_of hr (fun _ _ h=>by cases h) (fun _ _ h=>by cases h)]
 exact h
theorem wp_skip' {P : Program} {R : Option Nat} {o : Oper} {a : Act} {w w' : World} {K : Act → World → Prop} {Q : Exit → Act → World → Prop} (hr : (execOp a.eval o).run P w = .ok .skip w') (h : K (a.put o.dst undef) w') : o.wpR R P a w K Q:=by
 refine ⟨fun _ _=>trivial,?_⟩
 rw [semAt_of hr (fun _ _ h=>by cases h) (fun _ _ h=>by cases h)]
 exact h
end Go.Ev


namespace Go.Ev
open Go.RowKit
section ops
variable {R : Option Nat} {ρ : Type} {P : Program} {w0 w : World} {S0 S : Nat → Prop} {B : Ctx} {β : Bet} {og : Nat → Option Nat} {st : St} {a : Act} {o : Oper} {site : Nat} {y : Eff → Option ρ} {r : ρ}
 {K : Act → World → Prop} {Q : Exit → Act → World → Prop}
def Good (w0 : World) (S0 : Nat → Prop) (B : Ctx) (site : Nat) (o : Oper) (st : St) (y : Eff → Option ρ) (r : ρ) (K : Act → World → Prop) : Prop :=
 ∀ e a' w',y e = some r → RelX w0 S0 B (apply site o.dst e st) a' w' → K a' w'
theorem Out.grow (hO : Out w0 S0 B w S) {w' : World} (hB : ∀ b,B b → b < w.heap.size) (hb : Below w.heap.size w w') : Out w0 S0 B w' S :=
 ⟨hO.bel.trans (Kept.of_below hb hB),hO.sin,hO.sub⟩
theorem op_slot (hR : Rel w S B β og st a) (hO : Out w0 S0 B w S) {v : AV} {u : Value} (hv : VRel w S β v u) (hy : y { v } = some r) (hK : Good w0 S0 B site o st y r K)
  (hrun : (execOp a.eval o).run P w = .ok (.value u) w) : o.wpR R P a w K Q :=
 wp_value hrun (hK _ _ _ hy ⟨S,β,og,hR.put o.dst hv,hO⟩)
theorem below_alloc (w : World) (x : Obj) : Below w.heap.size w (w.alloc x):=(Below.refl _ _).alloc (Nat.le_refl _) x
theorem op_newBox (hR : Rel w S B β og st a) (hO : Out w0 S0 B w S) (hf : Fresh site st.used) {cs : List AV} {vs : List Value} {t : TypeId} (hv : VRels w S β cs vs) (h1 : ∀ u ∈ vs,u.oneCell' = true)
  (hy : y { v:=.ptr site 0,new:=some (.box false cs) } = some r) (hK : Good w0 S0 B site o st y r K)
  (hrun : (execOp a.eval o).run P w = .ok (.value (.pointer (some ⟨w.heap.size,0,none⟩))) (w.alloc (.cells vs.toArray t))) : o.wpR R P a w K Q:=by
 have hb:=below_alloc w (.cells vs.toArray t)
 have hlt : ∀ b,S b → b < (w.alloc (.cells vs.toArray t)).heap.size:=fun b hs=>by have:=hR.Slt b hs;simp;omega
 refine wp_value hrun (hK _ _ _ hy ⟨S,_,_,hR.new site hf o.dst hb (fun _ h=>h) (fun _ _ h=>h) hlt (x:=.pointer (some ⟨w.heap.size,0,none⟩)) (wd:=1) (o:=some w.heap.size) rfl
  (fun g hg=>by cases hg;simp) ?_ (.ptr _ site 0 w.heap.size 1 (upd_same _ _ _)),hO.grow hR.Ble hb⟩)
 refine ⟨w.heap.size,vs,_,rfl,upd_same _ _ _,.inl ⟨⟨t,heap_alloc_new w _⟩,rfl,h1⟩,?_,fun _ hs=>absurd (hR.Slt _ hs) (Nat.lt_irrefl _),(fun h=>by cases h),fun hB=>Nat.lt_irrefl _ (hR.Ble _ hB)⟩
 refine hv.mono (fun _ h=>h) (fun b hs=>hb.block b (hR.Slt b hs)) (fun id x hx=>?_)
 have hne : id ≠ site:=fun e=>hf.1 (by rw [← e];exact hR.used id x hx)
 rw [upd_other _ _ _ _ hne];exact hx
theorem iter_rel {w : World} {S : Nat → Prop} {β : Bet} (s : List UInt8) (p : Nat) : VRels w S β [.tup [.str s,.int .i64 (p : Int)]] [.tuple #[.string ⟨s.toArray⟩,.int .i64 (p : Int)]]:=by
 refine ⟨rfl,fun j c u hc hu=>?_⟩
 match j with
 | 0 =>
  simp at hc hu
  subst hc hu
  refine .tup _ [.str s,.int .i64 (p : Int)] [.string ⟨s.toArray⟩,.int .i64 (p : Int)] rfl fun j c u hc hu=>?_
  match j with
  | 0=>simp at hc hu;subst hc hu;exact .str _ _
  | 1=>simp at hc hu;subst hc hu;exact .int _ _ _
  | j + 2=>simp at hc
 | j + 1=>simp at hc
theorem op_range (hR : Rel w S B β og st a) (hO : Out w0 S0 B w S) (hf : Fresh site st.used) {t : TypeId} {x : Operand} {s : List UInt8} (ho : o.op = .range t x) (ht : P.underlying t = some .string) (hx : valT P st.tm t x = .str s)
  (hy : y { v:=.eptr site 0 0,new:=some (.box false [.tup [.str s,.int .i64 0]]) } = some r) (hK : Good w0 S0 B site o st y r K) : o.wpR R P a w K Q:=by
 have hb:=below_alloc w (.stringIter ⟨s.toArray⟩ 0)
 have hlt : ∀ b,S b → b < (w.alloc (.stringIter ⟨s.toArray⟩ 0)).heap.size:=fun b hs=>by have:=hR.Slt b hs;simp;omega
 have hv:=valT_rel hR.tm P t x
 rw [hx] at hv
 have hv' : a.eval x = .string ⟨s.toArray⟩:=by
  generalize a.eval x = u at hv
  cases hv;rfl
 have hrun : (execOp a.eval o).run P w = .ok (.value (.pointer (some ⟨w.heap.size,0,none⟩))) (w.alloc (.stringIter ⟨s.toArray⟩ 0)):=by
  simp [execOp,ho,Instr.range,hv',run_underlying ht,newObj]
  rfl
 refine wp_value hrun (hK _ _ _ hy ⟨S,_,_,hR.new site hf o.dst hb (fun _ h=>h) (fun _ _ h=>h) hlt (x:=.slice (some ⟨w.heap.size,0,none⟩) 0 0) (wd:=1) (o:=some w.heap.size) rfl
  (fun g hg=>by cases hg;simp) ?_ (.eptr _ site 0 0 w.heap.size 0 0 1 0 (upd_same _ _ _)),hO.grow hR.Ble hb⟩)
 refine ⟨w.heap.size,[.tuple #[.string ⟨s.toArray⟩,.int .i64 ((0 : Nat) : Int)]],_,rfl,upd_same _ _ _,.inr (.inr (.inl ⟨_,0,heap_alloc_new w _,rfl,rfl⟩)),?_,fun _ hs=>absurd (hR.Slt _ hs) (Nat.lt_irrefl _),(fun h=>by cases h),fun hB=>Nat.lt_irrefl _ (hR.Ble _ hB)⟩
 exact iter_rel s 0
theorem VRel.bool_inv {b : Bool} {v : Value} (h : VRel w S β (.bool b) v) : v = .bool b:=by cases h;rfl
theorem VRel.int_inv {k : IntKind} {n : Int} {v : Value} (h : VRel w S β (.int k n) v) : v = .int k n:=by cases h;rfl
theorem VRel.str_inv {s : List UInt8} {v : Value} (h : VRel w S β (.str s) v) : v = .string ⟨s.toArray⟩:=by cases h;rfl
theorem op_move (hR : Rel w S B β og st a) (hO : Out w0 S0 B w S) {x : Operand} (ho : o.op = .move x ∨ o.op = .assign x) (hy : y { v:=valT P st.tm o.type x } = some r) (hK : Good w0 S0 B site o st y r K) : o.wpR R P a w K Q :=
 op_slot hR hO (valT_rel hR.tm P o.type x) hy hK (by rcases ho with h | h <;> simp [execOp,h])
theorem op_pick (hR : Rel w S B β og st a) (hO : Out w0 S0 B w S) {c x z : Operand} {t : Bool} (ho : o.op = .pick c x z) (hc : val st.tm c = .bool t)
  (hy : y { v:=valT P st.tm o.type (if t then x else z) } = some r) (hK : Good w0 S0 B site o st y r K) : o.wpR R P a w K Q:=by
 have h:=val_rel hR.tm c
 rw [hc] at h
 refine op_slot hR hO (valT_rel hR.tm P o.type _) hy hK ?_
 simp only [execOp,ho,h.bool_inv,asBool]
 cases t <;> simp
theorem zeroAV_spec {t : TypeId} {cs : List AV} (h : zeroAV P t = some cs) : ∃ i v,P.info? t = some i ∧ i.zero = some v ∧ (ofVal (shOf P depth t) v).laidB = true ∧ cs = (ofVal (shOf P depth t) v).cells:=by
 unfold zeroAV at h
 split at h
 ·rename_i i hi
  split at h
  ·rename_i v hv
   split at h
   ·rename_i hl
    cases h
    exact ⟨i,v,hi,hv,hl,rfl⟩
   ·cases h
  ·cases h
 ·cases h
theorem op_alloc (hR : Rel w S B β og st a) (hO : Out w0 S0 B w S) (hf : Fresh site st.used) {t : TypeId} (ho : o.op = .alloc t) {cs : List AV} (hz : zeroAV P t = some cs)
  (hy : y { v:=.ptr site 0,new:=some (.box false cs) } = some r) (hK : Good w0 S0 B site o st y r K) : o.wpR R P a w K Q:=by
 obtain ⟨i,v,hi,hv,hl,rfl⟩:=zeroAV_spec hz
 obtain ⟨us,hc,hvs,h1⟩:=(ofVal_rel (w:=w) (S:=S) (β:=β) (shOf P depth t) v).laid hl hR.one
 refine op_newBox hR hO hf (t:=t) hvs h1 hy hK ?_
 simp [execOp,ho,Instr.alloc,zeroValue,typeInfo,hi,hv,newVar,newRow,hc]
theorem op_box (hR : Rel w S B β og st a) (hO : Out w0 S0 B w S) (hf : Fresh site st.used) {t : TypeId} {x : Operand} (ho : o.op = .box t x) (hl : (valT P st.tm t x).laidB = true)
  (hy : y { v:=.ptr site 0,new:=some (.box false (valT P st.tm t x).cells) } = some r) (hK : Good w0 S0 B site o st y r K) : o.wpR R P a w K Q:=by
 obtain ⟨us,hc,hvs,h1⟩:=(valT_rel hR.tm P t x).laid hl hR.one
 refine op_newBox hR hO hf (t:=t) hvs h1 hy hK ?_
 simp [execOp,ho,Instr.box,newVar,newRow,hc]
theorem op_extract (hR : Rel w S B β og st a) (hO : Out w0 S0 B w S) {x : Operand} {i : Nat} {vs : List AV} {v : AV} (ho : o.op = .extract x i) (hx : val st.tm x = .tup vs) (hv : vs[i]? = some v)
  (hy : y { v } = some r) (hK : Good w0 S0 B site o st y r K) : o.wpR R P a w K Q:=by
 have h:=val_rel hR.tm x
 rw [hx] at h
 generalize hu : a.eval x = u at h
 cases h with
 | tup _ _ us hl hh =>
  obtain ⟨u,hu',hvu⟩:=VRels.at_ (cs:=vs) (vs:=us) ⟨hl,hh⟩ hv
  refine op_slot hR hO hvu hy hK ?_
  simp [execOp,ho,hu,Instr.extract,hu']
theorem op_nilCheck (hR : Rel w S B β og st a) (hO : Out w0 S0 B w S) {x : Operand} {v : AV} (ho : o.op = .nilCheck x) (hx : val st.tm x = v)
  (hk : (∃ id off,v = .ptr id off) ∨ (∃ id i off,v = .eptr id i off) ∨ (∃ cs,v = .ref cs) ∨ (∃ s es i off,v = .eref s es i off) ∨ (∃ f cs,v = .fn f cs))
  (hy : y { v } = some r) (hK : Good w0 S0 B site o st y r K) : o.wpR R P a w K Q:=by
 have h:=val_rel hR.tm x
 rw [hx] at h
 refine op_slot hR hO h hy hK ?_
 have hr : (∃ ad,a.eval x = .pointer (some ad)) ∨ ∃ f cs,a.eval x = .func (.func f) #[] cs:=by
  generalize a.eval x = u at h
  rcases hk with ⟨id,off,rfl⟩ | ⟨id,i,off,rfl⟩ | ⟨cs,rfl⟩ | ⟨s,es,i,off,rfl⟩ | ⟨f,cs,rfl⟩
  ·cases h;exact .inl ⟨_,rfl⟩
  ·cases h;exact .inl ⟨_,rfl⟩
  ·cases h;exact .inl ⟨_,rfl⟩
  ·cases h;exact .inl ⟨_,rfl⟩
  ·cases h;exact .inr ⟨_,_,rfl⟩
 rcases hr with ⟨ad,he⟩ | ⟨f,cs,he⟩ <;> simp [execOp,ho,he]
theorem op_makeFunc (hR : Rel w S B β og st a) (hO : Out w0 S0 B w S) {f : Nat} {first captured : Array Operand} (ho : o.op = .makeFunc (.func f) first captured) (hf : first.size = 0)
  (hy : y { v:=.fn f (captured.toList.map (val st.tm)) } = some r) (hK : Good w0 S0 B site o st y r K) : o.wpR R P a w K Q:=by
 have hfe : first = #[]:=Array.eq_empty_of_size_eq_zero hf
 subst hfe
 refine op_slot (u:=.func (.func f) #[] (captured.toList.map a.eval).toArray) hR hO (.fn _ f _ _ (by simp) fun j c u hc hu=>?_) hy hK ?_
 ·simp only [List.getElem?_map] at hc hu
  cases hj : captured.toList[j]? with
  | none=>simp [hj] at hc
  | some x=>simp [hj] at hc hu;subst hc;subst hu;exact val_rel hR.tm x
 ·have hm : captured.map a.eval = (captured.toList.map a.eval).toArray:=by apply Array.ext';simp
  simp [execOp,ho,Instr.makeFunc,hm]
theorem fieldOf_spec {t : TypeId} {f : Nat} {fl : Field} (h : fieldOf P t f = some fl) : ∃ fs,P.underlying t = some (.struct fs) ∧ fs[f]? = some fl:=by
 unfold fieldOf at h
 split at h
 ·rename_i fs hfs;exact ⟨fs,hfs,h⟩
 ·cases h
theorem cellsOf_info {t : TypeId} (h : P.cellsOf t ≠ 0) : ∃ i,P.info? t = some i ∧ i.size = P.cellsOf t:=by
 unfold Program.cellsOf at h ⊢
 cases hi : P.info? t with
 | none=>simp [hi] at h
 | some i=>exact ⟨i,rfl,by simp⟩
theorem op_fieldAddr (hR : Rel w S B β og st a) (hO : Out w0 S0 B w S) {t : TypeId} {x : Operand} {f : Nat} {fl : Field} (ho : o.op = .fieldAddr t x f) (hfl : fieldOf P t f = some fl) (hz : P.cellsOf fl.type ≠ 0) {v v' : AV} (hx : val st.tm x = v)
  (hk : (∃ id off,v = .ptr id off ∧ v' = .ptr id (off + fl.offset)) ∨ (∃ id i off,v = .eptr id i off ∧ v' = .eptr id i (off + fl.offset)) ∨ (∃ cs,v = .ref cs ∧ v' = .ref (cs.drop fl.offset)) ∨
   (∃ s es i off,v = .eref s es i off ∧ v' = .eref s es i (off + fl.offset)))
  (hy : y { v:=v' } = some r) (hK : Good w0 S0 B site o st y r K) : o.wpR R P a w K Q:=by
 obtain ⟨fs,hfs,hf⟩:=fieldOf_spec hfl
 obtain ⟨i,hi,hsz⟩:=cellsOf_info hz
 have h:=val_rel hR.tm x
 rw [hx] at h
 have hr : ∃ ad,a.eval x = .pointer (some ad) ∧ VRel w S β v' (.pointer (some (ad.add fl.offset))):=by
  generalize a.eval x = u at h
  rcases hk with ⟨id,off,rfl,rfl⟩ | ⟨id,i,off,rfl,rfl⟩ | ⟨cs,rfl,rfl⟩ | ⟨s,es,i,off,rfl,rfl⟩
  ·cases h with
   | ptr _ _ _ g wd hb=>exact ⟨_,rfl,by rw [add_lit'];exact .ptr _ id _ g wd hb⟩
  ·cases h with
   | eptr _ _ _ _ g n c wd o hb=>exact ⟨_,rfl,by rw [add_lit',Nat.add_assoc,Nat.add_assoc];exact .eptr _ id i _ g n c wd o hb⟩
  ·cases h with
   | ref _ _ ad xs hSa hl h1 hxs hh =>
    have hd:=(VRels.drop (cs:=cs) (vs:=xs) ⟨hl,hh⟩ fl.offset)
    refine ⟨_,rfl,.ref _ _ _ (xs.drop fl.offset) (by rw [add_block];exact hSa) hd.1 (fun u hu=>h1 u (List.mem_of_mem_drop hu)) (fun j u hu=>?_) hd.2⟩
    rw [add_add]
    exact hxs _ u (by simpa using hu)
  ·cases h with
   | eref _ _ _ _ _ ad xs hi hs hSa hl h1 hxs hh =>
    refine ⟨_,rfl,?_⟩
    rw [add_add,Nat.add_assoc]
    exact .eref _ s es i _ ad xs hi hs hSa hl h1 hxs hh
 obtain ⟨ad,he,hv⟩:=hr
 refine op_slot hR hO hv hy hK ?_
 have hne : i.size ≠ 0:=by rw [hsz];exact hz
 simp [execOp,ho,he,Instr.fieldAt,run_underlying hfs,hf,Instr.sureAddr,fieldPlace,sizeOf,typeInfo,hi,hne]
theorem run_isAgg {t : TypeId} {d : TypeDesc} (h : P.underlying t = some d) (w : World) : (isAgg t).run P w = .ok (isAggT P t) w:=by
 unfold isAgg isAggT
 simp only [Sem.run_bind,run_underlying h,Result.andThen_ok,h]
 cases d <;> rfl
theorem aggT_some {t : TypeId} (h : isAggT P t = true) : ∃ d,P.underlying t = some d:=by
 unfold isAggT at h
 cases hd : P.underlying t with
 | none=>simp [hd] at h
 | some d=>exact ⟨d,rfl⟩
theorem underlying_info {t : TypeId} {d : TypeDesc} (h : P.underlying t = some d) : ∃ i,P.info? t = some i ∧ i.size = P.cellsOf t:=by
 unfold Program.underlying at h
 cases hi : P.info? t with
 | none=>simp [hi] at h
 | some i=>exact ⟨i,rfl,by simp [Program.cellsOf,hi]⟩
theorem run_loadCells_take (w : World) (ad : Addr) (xs : List Value) (n : Nat) (hn : n ≤ xs.length) (hx : ∀ (j : Nat) (u : Value),xs[j]? = some u → w.cell? (ad.add j) = some u) :
  (loadCells ad n).run P w = .ok (xs.take n).toArray w:=by
 have hl : (xs.take n).length = n:=by simp;omega
 have:=run_loadCells_list (P:=P) w ad (xs.take n) (fun j v hv=>by
  rw [List.getElem?_take] at hv
  split at hv
  ·exact hx j v hv
  ·cases hv)
 rwa [hl] at this
theorem load_sound {t : TypeId} {cs : List AV} {z : AV → Option ρ} (h : evLoad P t cs z = some r) {ad : Addr} {xs : List Value} (hv : VRels w S β cs xs) (h1 : ∀ u ∈ xs,u.oneCell' = true)
  (hx : ∀ (j : Nat) (u : Value),xs[j]? = some u → w.cell? (ad.add j) = some u) : ∃ v u,z v = some r ∧ VRel w S β v u ∧ (loadVar t ad).run P w = .ok u w:=by
 unfold evLoad at h
 split at h
 ·rename_i hagg
  split at h
  ·rename_i hle
   have hle' : P.cellsOf t ≤ cs.length:=Nat.le_of_ble_eq_true hle
   obtain ⟨d,hd⟩:=aggT_some hagg
   obtain ⟨i,hi,hsz⟩:=underlying_info hd
   have ht:=hv.take (P.cellsOf t)
   refine ⟨_,_,h,.agg _ _ _ ht.1 (fun u hu=>h1 u (List.mem_of_mem_take hu)) ht.2,?_⟩
   simp [loadVar,run_isAgg hd,hagg,sizeOf,typeInfo,hi,hsz,run_loadCells_take w ad xs _ (by rw [hv.1];exact hle') hx]
  ·cases h
 ·rename_i hagg
  split at h
  ·rename_i hs
   obtain ⟨d,hd⟩:=Option.isSome_iff_exists.1 hs
   split at h
   ·rename_i c _
    obtain ⟨u,xs',rfl,hu,_⟩:=hv.inv
    refine ⟨c,u,h,hu,?_⟩
    have:=hx 0 u rfl
    have h0 : ad.add 0 = ad:=by simp [Addr.add]
    rw [h0] at this
    simp [loadVar,run_isAgg hd,hagg,this]
   ·cases h
  ·cases h
theorem op_load_of (hR : Rel w S B β og st a) (hO : Out w0 S0 B w S) {t : TypeId} {x : Operand} (ho : o.op = .load t x) {cs : List AV} {ad : Addr} {xs : List Value} (hx : a.eval x = .pointer (some ad))
  (hv : VRels w S β cs xs) (h1 : ∀ u ∈ xs,u.oneCell' = true) (hc : ∀ (j : Nat) (u : Value),xs[j]? = some u → w.cell? (ad.add j) = some u)
  (h : evLoad P t cs (fun v=>y { v }) = some r) (hK : Good w0 S0 B site o st y r K) : o.wpR R P a w K Q:=by
 obtain ⟨v,u,hy,hvu,hrun⟩:=load_sound (P:=P) h hv h1 hc
 refine op_slot hR hO hvu hy hK ?_
 simp [execOp,ho,hx,Instr.loadAt,Instr.sureAddr,hrun]
theorem eta1_rel {s : Sh} {v : AV} {u : Value} (h : has1 s v = true) (hv : VRel w S β v u) : VRel w S β (eta1 s v) u:=by
 cases s with
 | int k=>cases v <;> simp [has1] at h;subst h;exact hv
 | bool=>cases v <;> simp [has1] at h;exact hv
 | str=>cases v <;> simp [has1] at h;exact hv
 | slice s =>
  cases v <;> simp [has1] at h
  ·rw [Sh.beq_eq _ _ h];exact hv
  ·cases hv with
   | slz _ _ A=>exact .slv _ s [] A 0 default [] (by simp) (by simp) (by decide) (fun h=>absurd rfl h) (by simp [flat]) (by simp) (by simp) (by simp [flat])
 | agg l=>cases v <;> simp [has1] at h
 | other=>cases v <;> simp [has1] at h <;> exact hv
theorem etas_rel : ∀ (l : List Sh) (cs : List AV) (us : List Value),hass l cs = true → VRels w S β cs us → VRels w S β (etas l cs) us
 | [],[],us,_,hv=>by rw [hv.inv_nil];exact VRels.nil
 | [],_ :: _,_,h,_=>by simp [hass] at h
 | _ :: _,[],_,h,_=>by simp [hass] at h
 | s :: l,c :: cs,us,h,hv=>by
  simp [hass] at h
  obtain ⟨u,us',rfl,hu,hs⟩:=hv.inv
  exact VRels.cons (eta1_rel h.1 hu) (etas_rel l cs us' h.2 hs)
theorem elem_cells {s : Sh} {es : List AV} {xs : List Value} {ad : Addr} {i off : Nat} (hs : ∀ e ∈ es,hasSh s e = true) (hi : i < es.length) (hv : VRels w S β (flat es) xs) (h1 : ∀ u ∈ xs,u.oneCell' = true)
  (hx : ∀ (j : Nat) (u : Value),xs[j]? = some u → w.cell? (ad.add j) = some u) : ∃ ys : List Value,VRels w S β ((etaCells s (es.getD i .unk)).drop off) ys ∧ (∀ u ∈ ys,u.oneCell' = true) ∧
   ∀ (j : Nat) (u : Value),ys[j]? = some u → w.cell? ((ad.add (i * s.width + off)).add j) = some u:=by
 have he : es[i]? = some es[i]:=List.getElem?_eq_getElem hi
 have hgd : es.getD i .unk = es[i]:=by simp [List.getD,he]
 have hsh : hasSh s es[i] = true:=hs _ (List.getElem_mem hi)
 have hcl:=flat_at es i es[i] hs he
 have hvv:=(hv.drop (i * s.width)).take s.width
 rw [hcl] at hvv
 have hq:=(etas_rel _ _ _ (hasSh_hass s _ hsh) hvv).drop off
 refine ⟨_,by rw [hgd];exact hq,fun u hu=>h1 u (List.mem_of_mem_drop (List.mem_of_mem_take (List.mem_of_mem_drop hu))),fun j u hu=>?_⟩
 rw [add_add]
 rw [List.getElem?_drop,List.getElem?_take] at hu
 split at hu
 ·rw [List.getElem?_drop] at hu
  rw [show i * s.width + off + j = i * s.width + (off + j) from by omega]
  exact hx _ u hu
 ·cases hu
theorem foc_at {B' : Nat → Prop} {id : Nat} {og' : Option Nat} {im : Bool} {s : Sh} {e : TypeId} {pre cs post : List AV} (h : RowRel w S B' β id og' (.foc im s e pre cs post)) : ∃ g bo n c,β id = some (.slice (some ⟨g,bo,none⟩) n c,s.width) ∧
  (∀ off,∃ zs : List Value,VRels w S β (cs.drop off) zs ∧ (∀ u ∈ zs,u.oneCell' = true) ∧ ∀ (j : Nat) (u : Value),zs[j]? = some u → w.cell? ((⟨g,bo + (pre.length * s.width + off),none⟩ : Addr).add j) = some u) ∧
  (∀ i off,i < pre.length → ∃ zs : List Value,VRels w S β ((etaCells s (pre.getD i .unk)).drop off) zs ∧ (∀ u ∈ zs,u.oneCell' = true) ∧ ∀ (j : Nat) (u : Value),zs[j]? = some u → w.cell? ((⟨g,bo + (i * s.width + off),none⟩ : Addr).add j) = some u) ∧
  (∀ i off,i < post.length → ∃ zs : List Value,VRels w S β ((etaCells s (post.getD i .unk)).drop off) zs ∧ (∀ u ∈ zs,u.oneCell' = true) ∧ ∀ (j : Nat) (u : Value),zs[j]? = some u → w.cell? ((⟨g,bo + ((pre.length + 1 + i) * s.width + off),none⟩ : Addr).add j) = some u):=by
 obtain ⟨hpos,hcl,g,ps,sp,xs,us,ys,hpre,hpost,hog,hb,h1,vx,vu,vy,hB,hh,hm,_⟩:=h
 have lx : xs.length = pre.length * s.width:=vx.1.trans (flat_length pre hpre)
 have lu : us.length = s.width:=vu.1.trans hcl
 have cellx : ∀ (j : Nat) (u : Value),xs[j]? = some u → w.cell? ((⟨g,ps.length,none⟩ : Addr).add j) = some u:=fun j u hu=>by
  rw [add_lit',row_cell hh,behind]
  have hj:=(List.getElem?_eq_some_iff.1 hu).1
  rw [List.getElem?_append_left hj];exact hu
 have cellu : ∀ (j : Nat) (u : Value),us[j]? = some u → w.cell? ⟨g,ps.length + (pre.length * s.width + j),none⟩ = some u:=fun j u hu=>by
  rw [row_cell hh,behind,List.getElem?_append_right (by omega),lx,Nat.add_sub_cancel_left,List.getElem?_append_left (List.getElem?_eq_some_iff.1 hu).1]
  exact hu
 have celly : ∀ (j : Nat) (u : Value),ys[j]? = some u → w.cell? ((⟨g,ps.length + (pre.length + 1) * s.width,none⟩ : Addr).add j) = some u:=fun j u hu=>by
  rw [add_lit',row_cell hh,Nat.add_assoc,behind,Nat.add_mul,Nat.one_mul,List.getElem?_append_right (by omega),lx,List.getElem?_append_right (by omega),lu]
  rw [show pre.length * s.width + s.width + j - pre.length * s.width - s.width = j from by omega]
  exact hu
 have mono : ∀ {c : List AV} {v : List Value},VRels w S nob c v → VRels w S β c v:=fun h=>h.mono (fun _ h=>h) (fun _ _=>rfl) (fun _ _ h=>by cases h)
 refine ⟨g,_,_,_,hb,fun off=>⟨us.drop off,vu.drop off,fun u hu=>h1 u (by simp [List.mem_of_mem_drop hu]),fun j u hu=>?_⟩,fun i off hi=>?_,fun i off hi=>?_⟩
 ·rw [add_lit',Nat.add_assoc,Nat.add_assoc]
  rw [List.getElem?_drop] at hu
  exact cellu _ u hu
 ·obtain ⟨zs,z1,z2,z3⟩:=elem_cells (off:=off) hpre hi (mono vx) (fun u hu=>h1 u (by simp [hu])) cellx
  rw [add_lit'] at z3
  exact ⟨zs,z1,z2,z3⟩
 ·have hi' : i < (post ++ sp).length:=by rw [List.length_append];omega
  obtain ⟨zs,z1,z2,z3⟩:=elem_cells (off:=off) hpost hi' (mono vy) (fun u hu=>h1 u (by simp [hu])) celly
  rw [add_lit',Nat.add_assoc,show (pre.length + 1) * s.width + (i * s.width + off) = (pre.length + 1 + i) * s.width + off from by rw [Nat.add_mul (pre.length + 1) i];omega] at z3
  have e : (post ++ sp).getD i .unk = post.getD i .unk:=by
   rw [List.getD,List.getD,List.getElem?_append_left hi]
  rw [e] at z1
  exact ⟨zs,z1,z2,z3⟩
theorem op_load (hR : Rel w S B β og st a) (hO : Out w0 S0 B w S) {rowsV : List (Nat × Row)} (hsub : ∀ id x,lookup rowsV id = some x → lookup st.rows id = some x) {t : TypeId} {x : Operand} (ho : o.op = .load t x)
  {Γ : Env} (h : evOp P Γ site o st.tm rowsV y = some r) (hK : Good w0 S0 B site o st y r K) : o.wpR R P a w K Q:=by
 have hv:=val_rel hR.tm x
 simp only [evOp,ho] at h
 split at h
 ·rename_i id off hx
  rw [hx] at hv
  split at h
  ·rename_i im cs hl
   obtain ⟨g,vs,v0,hog,hb,hH,hvs,_⟩:=hR.row id _ (hsub _ _ hl)
   generalize he : a.eval x = u at hv
   cases hv with
   | ptr _ _ _ g' wd hb' =>
    rw [hb] at hb'
    simp only [Option.some.injEq,Prod.mk.injEq] at hb'
    obtain ⟨hgg,⟨t',hh⟩,h1⟩:=hH.ptr hb'.1
    subst hgg
    refine op_load_of hR hO ho he (hvs.drop off) (fun u hu=>h1 u (List.mem_of_mem_drop hu)) (fun j u hu=>?_) h hK
    rw [add_lit',row_cell (Lies.plain hh (m:=true))]
    simpa using hu
  ·cases h
 ·rename_i cs hx
  rw [hx] at hv
  generalize he : a.eval x = u at hv
  cases hv with
  | ref _ _ ad xs hSa hl h1 hxs hh=>exact op_load_of hR hO ho he (VRels.mono (β:=nob) (w:=w) (S:=S) ⟨hl,hh⟩ (fun _ h=>h) (fun _ _=>rfl) (fun _ _ h=>by cases h)) h1 hxs h hK
 ·rename_i s es i off hx
  rw [hx] at hv
  generalize he : a.eval x = u at hv
  cases hv with
  | eref _ _ _ _ _ ad xs hi hs hSa hl h1 hxs hh =>
   obtain ⟨ys,hys,h1',hc⟩:=elem_cells (off:=off) hs hi (VRels.mono (β:=nob) (β':=β) (w:=w) (S:=S) ⟨hl,hh⟩ (fun _ h=>h) (fun _ _=>rfl) (fun _ _ h=>by cases h)) h1 hxs
   exact op_load_of hR hO ho he hys h1' hc h hK
 ·rename_i id i off hx
  rw [hx] at hv
  split at h
  ·rename_i im s e es csp hl
   generalize hb : decide (i < es.length) = b at h
   cases b with
   | false=>cases h
   | true =>
    have hi : i < es.length:=of_decide_eq_true hb
    simp only [cond_true] at h
    obtain ⟨hp,hsh,v,xs,hb,h1,hvs,hor⟩:=(hR.row id _ (hsub _ _ hl)).arr_old
    generalize he : a.eval x = u at hv
    cases hv with
    | eptr _ _ _ _ g n c wd bo hb' =>
     rw [hb] at hb'
     simp only [Option.some.injEq,Prod.mk.injEq] at hb'
     obtain ⟨rfl,rfl⟩:=hb'
     rcases hor with ⟨he0,_⟩ | ⟨g',cap,bo',cur,hog,hvv,_,hh,_,_,_,htk,_⟩
     ·subst he0;simp at hi
     ·simp at hvv
      obtain ⟨⟨rfl,rfl⟩,_,_⟩:=hvv
      have hcell : ∀ (j : Nat) (u : Value),xs[j]? = some u → w.cell? ((⟨g,bo,none⟩ : Addr).add j) = some u:=by
       intro j u hu
       rw [add_lit',row_cell hh]
       rw [← htk,List.getElem?_take] at hu
       split at hu
       ·simpa using hu
       ·cases hu
      obtain ⟨ys,hys,h1',hc⟩:=elem_cells (off:=off) hsh hi (VRels.mono (β:=nob) (β':=β) (w:=w) (S:=S) hvs (fun _ h=>h) (fun _ _=>rfl) (fun _ _ h=>by cases h)) h1 hcell
      rw [add_lit'] at hc
      exact op_load_of hR hO ho he hys h1' hc h hK
  ·rename_i im s e pre cs post hl
   obtain ⟨g,bo,n,c,hb,f1,f2,f3⟩:=foc_at (hR.row id _ (hsub _ _ hl))
   generalize he : a.eval x = u at hv
   cases hv with
   | eptr _ _ _ _ g' n' c' wd bo' hb' =>
    rw [hb] at hb'
    simp only [Option.some.injEq,Prod.mk.injEq,Value.slice.injEq,Addr.mk.injEq] at hb'
    obtain ⟨⟨⟨rfl,rfl,_⟩,_⟩,rfl⟩:=hb'
    by_cases e1 : i = pre.length
    ·subst e1
     rw [decide_eq_true rfl] at h
     obtain ⟨zs,z1,z2,z3⟩:=f1 off
     exact op_load_of hR hO ho he z1 z2 z3 h hK
    ·rw [decide_eq_false e1,cond_false] at h
     split at h
     ·cases h
     by_cases e2 : i < pre.length
     ·rw [decide_eq_true e2] at h
      obtain ⟨zs,z1,z2,z3⟩:=f2 i off e2
      exact op_load_of hR hO ho he z1 z2 z3 h hK
     ·rw [decide_eq_false e2,cond_false] at h
      by_cases e3 : i - (pre.length + 1) < post.length
      ·rw [decide_eq_true e3] at h
       obtain ⟨zs,z1,z2,z3⟩:=f3 (i - (pre.length + 1)) off e3
       rw [show pre.length + 1 + (i - (pre.length + 1)) = i from by omega] at z3
       exact op_load_of hR hO ho he z1 z2 z3 h hK
      ·rw [decide_eq_false e3] at h
       cases h
  ·cases h
 ·cases h
end ops
end Go.Ev

namespace Go.Ev
open Go.RowKit
section ops
variable {R : Option Nat} {ρ : Type} {P : Program} {w0 w : World} {S0 S : Nat → Prop} {B : Ctx} {β : Bet} {og : Nat → Option Nat} {st : St} {a : Act} {o : Oper} {site : Nat} {y : Eff → Option ρ} {r : ρ}
 {K : Act → World → Prop} {Q : Exit → Act → World → Prop}
theorem bif_some {b : Bool} {x : Option ρ} (h : (bif b then x else none) = some r) : b = true ∧ x = some r:=by cases b <;> simp_all
theorem bif_some' {b : Bool} {x : Option ρ} (h : (bif b then none else x) = some r) : b = false ∧ x = some r:=by cases b <;> simp_all
theorem toList_mk (l : List UInt8) : (ByteArray.mk l.toArray).toList = l:=by rw [ByteArray.toList_eq]
theorem eqA_sound : ∀ (fs : List Field) (n : Nat) (cs ds : List AV) (xs ys : Array Value) (b : Bool),eqA P fs n cs ds = some b →
  (∀ (j : Nat) (c : AV),cs[j]? = some c → ∃ u,xs[n + j]? = some u ∧ VRel w S β c u) → (∀ (j : Nat) (c : AV),ds[j]? = some c → ∃ u,ys[n + j]? = some u ∧ VRel w S β c u) → ∀ d : Nat,(Op.eqFields (d + 1) xs ys fs).run P w = .ok b w
 | [],n,[],[],xs,ys,b,h,_,_,d=>by simp [eqA] at h;simp [Op.eqFields,← h]
 | [],n,_ :: _,_,xs,ys,b,h,_,_,d=>by simp [eqA] at h
 | [],n,[],_ :: _,xs,ys,b,h,_,_,d=>by simp [eqA] at h
 | f :: fs,n,[],_,xs,ys,b,h,_,_,d=>by simp [eqA] at h
 | f :: fs,n,c :: cs,[],xs,ys,b,h,_,_,d=>by simp [eqA] at h
 | f :: fs,n,c :: cs,e :: ds,xs,ys,b,h,hx,hy,d=>by
  obtain ⟨u,hu,hcu⟩:=hx 0 c rfl
  obtain ⟨u',hu',heu⟩:=hy 0 e rfl
  rw [Nat.add_zero] at hu hu'
  have ih:=fun b' hb'=>eqA_sound fs (n + 1) cs ds xs ys b' hb' (fun j c hc=>by have:=hx (j + 1) c (by simpa using hc);rwa [show n + (j + 1) = n + 1 + j from by omega] at this)
   (fun j c hc=>by have:=hy (j + 1) c (by simpa using hc);rwa [show n + (j + 1) = n + 1 + j from by omega] at this) d
  simp only [eqA] at h
  split at h
  ·rename_i hno
   simp only [Bool.and_eq_true,bne_iff_ne,ne_eq,beq_iff_eq] at hno
   obtain ⟨hn,hof⟩:=hno
   have key : ∀ (dd : TypeDesc),P.underlying f.type = some dd → isAggT P f.type = false → ∀ b1 : Bool,(Op.equalIn (d + 1) f.type u u').run P w = .ok b1 w → ∀ b2,eqA P fs (n + 1) cs ds = some b2 → b = (b1 && b2) →
     (Op.eqFields (d + 1) xs ys (f :: fs)).run P w = .ok b w:=by
    intro dd hdd hag b1 h1 b2 h2 hb
    have hpart : ∀ (zs : Array Value) (z : Value),zs[n]? = some z → (part f.type zs f.offset).run P w = .ok z w:=fun zs z hz=>by
     simp [part,run_isAgg hdd,hag,hof,hz]
    simp only [Op.eqFields,ne_eq,hn,not_false_eq_true,if_true,Sem.run_bind,hpart xs u hu,hpart ys u' hu',Result.andThen_ok,h1]
    cases b1 with
    | false=>simp [hb]
    | true=>simp [ih b2 h2,hb]
   split at h
   ·rename_i k0 k m k' m' hdd
    split at h
    ·rename_i hk
     subst hk
     split at h
     ·rename_i b2 h2
      cases h
      rw [hcu.int_inv,heu.int_inv] at *
      exact key _ hdd (by simp [isAggT,hdd]) (m == m') (run_equalIn_int w d f.type k k0 m m' hdd) b2 h2 rfl
     ·cases h
    ·cases h
   ·rename_i m m' hdd
    split at h
    ·rename_i b2 h2
     cases h
     rw [hcu.bool_inv,heu.bool_inv] at *
     exact key _ hdd (by simp [isAggT,hdd]) (m == m') (run_equalIn_bool' w d f.type m m' hdd) b2 h2 rfl
    ·cases h
   ·rename_i m m' hdd
    split at h
    ·rename_i b2 h2
     cases h
     rw [hcu.str_inv,heu.str_inv] at *
     have:=run_equalIn_string (P:=P) w d f.type ⟨m.toArray⟩ ⟨m'.toArray⟩ hdd
     rw [toList_mk,toList_mk] at this
     exact key _ hdd (by simp [isAggT,hdd]) (m == m') this b2 h2 rfl
    ·cases h
   ·cases h
  ·cases h
theorem VRel.agg_inv {cs : List AV} {v : Value} (h : VRel w S β (.agg cs) v) : ∃ vs : List Value,v = .agg vs.toArray ∧ VRels w S β cs vs ∧ ∀ u ∈ vs,u.oneCell' = true:=by
 cases h with
 | agg _ _ vs hl h1 hh=>exact ⟨vs,rfl,⟨hl,hh⟩,h1⟩
theorem bin_sound {op : BinOp} {t : TypeId} {x z : AV} {z' : AV → Option ρ} (h : evBin P op t x z z' = some r) {ox oz : Operand} {u u' : Value} (hx : VRel w S β x u) (hz : VRel w S β z u') :
  ∃ v uu,z' v = some r ∧ VRel w S β v uu ∧ (do eqGuard op t ox oz u u';binOp op t u u').run P w = .ok uu w:=by
 unfold evBin at h
 split at h
 ·rename_i k m k' m'
  rw [hx.int_inv,hz.int_inv]
  split at h
  ·rename_i hop
   unfold binShift at h
   obtain ⟨hb,h⟩:=bif_some' h
   have hb' : ¬ m' < 0:=by simpa using hb
   exact ⟨_,_,h,.int _ _ _,by simp [go_sem,Op.shift,hb']⟩
  ·unfold binShift at h
   obtain ⟨hb,h⟩:=bif_some' h
   have hb' : ¬ m' < 0:=by simpa using hb
   exact ⟨_,_,h,.int _ _ _,by simp [go_sem,Op.shift,hb']⟩
  ·split at h
   ·rename_i hk
    subst hk
    unfold binInt at h
    split at h
    ·exact ⟨_,_,h,.int _ _ _,by simp [go_sem,Op.intArith]⟩
    ·exact ⟨_,_,h,.int _ _ _,by simp [go_sem,Op.intArith]⟩
    ·exact ⟨_,_,h,.int _ _ _,by simp [go_sem,Op.intArith]⟩
    ·obtain ⟨hb,h⟩:=bif_some' h
     have hb' : ¬ m' = 0:=by simpa using hb
     exact ⟨_,_,h,.int _ _ _,by simp [go_sem,Op.intDiv,hb']⟩
    ·obtain ⟨hb,h⟩:=bif_some' h
     have hb' : ¬ m' = 0:=by simpa using hb
     exact ⟨_,_,h,.int _ _ _,by simp [go_sem,Op.intDiv,hb']⟩
    ·exact ⟨_,_,h,.int _ _ _,by simp only [eqGuard_at_int,pure_bind,binOp_and,Op.intBits];rfl⟩
    ·exact ⟨_,_,h,.int _ _ _,by simp only [eqGuard_at_int,pure_bind,binOp_or,Op.intBits];rfl⟩
    ·exact ⟨_,_,h,.int _ _ _,by simp only [eqGuard_at_int,pure_bind,binOp_xor,Op.intBits];rfl⟩
    ·exact ⟨_,_,h,.bool _ _,by simp only [eqGuard_at_int,pure_bind,binOp_eql];rfl⟩
    ·exact ⟨_,_,h,.bool _ _,by simp only [eqGuard_at_int,pure_bind,binOp_neq];rfl⟩
    ·exact ⟨_,_,h,.bool _ _,by simp only [eqGuard_at_int,pure_bind,binOp_lss];rfl⟩
    ·exact ⟨_,_,h,.bool _ _,by simp only [eqGuard_at_int,pure_bind,binOp_leq];rfl⟩
    ·exact ⟨_,_,h,.bool _ _,by simp only [eqGuard_at_int,pure_bind,binOp_gtr];rfl⟩
    ·exact ⟨_,_,h,.bool _ _,by simp only [eqGuard_at_int,pure_bind,binOp_geq];rfl⟩
    ·cases h
   ·cases h
 ·rename_i m m'
  rw [hx.str_inv,hz.str_inv]
  unfold binStr at h
  split at h
  ·obtain ⟨hb,h⟩:=bif_some h
   have hle : m.length + m'.length ≤ 9223372036854775807:=by simpa [lenB] using hb
   refine ⟨_,.string ⟨(m ++ m').toArray⟩,h,.str _ _,?_⟩
   have hn : ¬ (((ByteArray.mk m.toArray).size + (ByteArray.mk m'.toArray).size : Nat) : Int) > IntKind.i64.max:=by
    show ¬ ((m.toArray.size + m'.toArray.size : Nat) : Int) > IntKind.i64.max
    rw [IntKind.max_i64]
    simp
    omega
   have happ : (ByteArray.mk m.toArray) ++ (ByteArray.mk m'.toArray) = ByteArray.mk (m ++ m').toArray:=by
    apply ByteArray.ext
    simp
   simp only [eqGuard_at_string,pure_bind,binOp,Op.stringOp,if_neg hn,happ]
   rfl
  ·exact ⟨_,_,h,.bool _ _,by simp only [eqGuard_at_string,pure_bind,binOp,Op.stringOp,toList_mk];rfl⟩
  ·exact ⟨_,_,h,.bool _ _,by simp only [eqGuard_at_string,pure_bind,binOp,Op.stringOp,toList_mk];rfl⟩
  ·exact ⟨_,_,h,.bool _ _,by simp only [eqGuard_at_string,pure_bind,binOp,Op.stringOp,toList_mk];rfl⟩
  ·exact ⟨_,_,h,.bool _ _,by simp only [eqGuard_at_string,pure_bind,binOp,Op.stringOp,toList_mk];rfl⟩
  ·exact ⟨_,_,h,.bool _ _,by simp only [eqGuard_at_string,pure_bind,binOp,Op.stringOp,toList_mk];rfl⟩
  ·exact ⟨_,_,h,.bool _ _,by simp only [eqGuard_at_string,pure_bind,binOp,Op.stringOp,toList_mk];rfl⟩
  ·cases h
 ·rename_i m m'
  rw [hx.bool_inv,hz.bool_inv]
  split at h
  ·rename_i hd
   have hrun : (Op.equal t (.bool m) (.bool m')).run P w = .ok (m == m') w:=run_equalIn_bool' w 9999 t m m' hd
   split at h
   ·refine ⟨_,_,h,.bool _ _,?_⟩
    simp only [eqGuard_at_bool,pure_bind,binOp,Sem.run_bind,hrun,Result.andThen_ok,Sem.run_pure]
   ·refine ⟨_,_,h,.bool _ _,?_⟩
    simp only [eqGuard_at_bool,pure_bind,binOp,Sem.run_bind,hrun,Result.andThen_ok,Sem.run_pure]
   ·cases h
  ·cases h
 ·rename_i cs ds
  obtain ⟨vs,rfl,hvs,_⟩:=hx.agg_inv
  obtain ⟨us,rfl,hus,_⟩:=hz.agg_inv
  split at h
  ·rename_i b hb
   unfold eqStruct at hb
   split at hb
   ·rename_i fs hfs
    split at hb
    ·rename_i hok
     simp only [Bool.and_eq_true,Bool.not_eq_true'] at hok
     have hfo : P.fieldsOf t = fs:=by simp [Program.fieldsOf,hfs]
     have hrun : (Op.equalIn 10000 t (.agg vs.toArray) (.agg us.toArray)).run P w = .ok b w:=by
      rw [run_equalIn_struct w 9999 t _ _ (by rw [hfo];exact hfs) hok.1,hfo]
      exact eqA_sound fs.toList 0 cs ds _ _ b hb (fun j c hc=>by obtain ⟨u,hu,hr⟩:=hvs.at_ hc;exact ⟨u,by simpa using hu,hr⟩) (fun j c hc=>by obtain ⟨u,hu,hr⟩:=hus.at_ hc;exact ⟨u,by simpa using hu,hr⟩) 9998
     split at h
     ·exact ⟨_,_,h,.bool _ _,by simp [run_eqGuard_agg w _ t ox oz _ _ hok.2,run_eql_struct,hrun]⟩
     ·exact ⟨_,_,h,.bool _ _,by simp [run_eqGuard_agg w _ t ox oz _ _ hok.2,run_neq_struct,hrun]⟩
     ·cases h
    ·cases hb
   ·cases hb
  ·cases h
 ·cases h
theorem op_bin (hR : Rel w S B β og st a) (hO : Out w0 S0 B w S) {op : BinOp} {t t' : TypeId} {x z : Operand} (ho : o.op = .binOp op t x z t')
  (h : evBin P op t (valT P st.tm t x) (valT P st.tm t z) (fun v=>y { v }) = some r) (hK : Good w0 S0 B site o st y r K) : o.wpR R P a w K Q:=by
 obtain ⟨v,uu,hy,hv,hrun⟩:=bin_sound (ox:=x) (oz:=z) h (valT_rel hR.tm P t x) (valT_rel hR.tm P t z)
 refine op_slot hR hO hv hy hK ?_
 simp only [execOp,ho]
 rw [Sem.run_bind,hrun]
 rfl
theorem isNilC_eq {z : Operand} (h : isNilC z = true) : z = .const (.slice none 0 0):=by
 unfold isNilC at h
 split at h
 ·rfl
 ·cases h
theorem op_nil (hR : Rel w S B β og st a) (hO : Out w0 S0 B w S) {op : BinOp} {t t' : TypeId} {x z : Operand} (ho : o.op = .binOp op t x z t') (hz : isNilC z = true)
  (h : evNil P op t (valT P st.tm t x) (fun v=>y { v }) = some r) (hK : Good w0 S0 B site o st y r K) : o.wpR R P a w K Q:=by
 have hv:=valT_rel hR.tm P t x
 rw [isNilC_eq hz] at ho
 have hc : a.eval (.const (.slice none 0 0)) = .slice none 0 0:=rfl
 unfold evNil at h
 split at h
 ·rename_i e s es hd hx
  rw [hx] at hv
  generalize hu : a.eval x = u at hv
  cases hv with
  | slv _ _ _ A c ad xs hs hcap hm hA hl h1 hcx hh =>
   have heq : (Op.equal t (.slice A es.length c) (.slice none 0 0)).run P w = .ok A.isNone w:=run_equal_slice_nil w t e A es.length c hd
   have hg : eqGuard op t x (.const (.slice none 0 0)) (.slice A es.length c) (.slice none 0 0) = pure ():=by cases op <;> rfl
   have hex : ∀ b,es ≠ [] → A.isNone = b → b = false:=fun b hne hb=>by rw [(hA hne).1] at hb;exact hb.symm
   split at h
   ·cases hes : es with
    | nil =>
     rw [hes] at h
     refine op_slot hR hO (u:=.bool A.isNone) (.ubool _ _) h hK ?_
     simp only [execOp,ho,hu,hc,hg,pure_bind,binOp,Sem.run_bind,heq,Result.andThen_ok,Sem.run_pure]
    | cons e0 l =>
     have hb:=hex _ (by rw [hes];simp) rfl
     rw [hes] at h
     refine op_slot hR hO (u:=.bool false) (.bool _ _) h hK ?_
     simp only [execOp,ho,hu,hc,hg,pure_bind,binOp,Sem.run_bind,heq,Result.andThen_ok,Sem.run_pure,hb]
   ·cases hes : es with
    | nil =>
     rw [hes] at h
     refine op_slot hR hO (u:=.bool !A.isNone) (.ubool _ _) h hK ?_
     simp only [execOp,ho,hu,hc,hg,pure_bind,binOp,Sem.run_bind,heq,Result.andThen_ok,Sem.run_pure]
    | cons e0 l =>
     have hb:=hex _ (by rw [hes];simp) rfl
     rw [hes] at h
     refine op_slot hR hO (u:=.bool true) (.bool _ _) h hK ?_
     simp only [execOp,ho,hu,hc,hg,pure_bind,binOp,Sem.run_bind,heq,Result.andThen_ok,Sem.run_pure,hb,Bool.not_false]
   ·cases h
 ·rename_i e hd hx
  rw [hx] at hv
  generalize hu : a.eval x = u at hv
  cases hv with
  | nsl =>
   have heq : (Op.equal t (.slice none 0 0) (.slice none 0 0)).run P w = .ok true w:=run_equal_slice_nil w t e none 0 0 hd
   have hg : eqGuard op t x (.const (.slice none 0 0)) (.slice none 0 0) (.slice none 0 0) = pure ():=by cases op <;> rfl
   split at h
   ·refine op_slot hR hO (u:=.bool true) (.bool _ _) h hK ?_
    simp only [execOp,ho,hu,hc,hg,pure_bind,binOp,Sem.run_bind,heq,Result.andThen_ok,Sem.run_pure]
   ·refine op_slot hR hO (u:=.bool false) (.bool _ _) h hK ?_
    simp only [execOp,ho,hu,hc,hg,pure_bind,binOp,Sem.run_bind,heq,Result.andThen_ok,Sem.run_pure,Bool.not_true]
   ·cases h
 ·cases h
theorem op_neg (hR : Rel w S B β og st a) (hO : Out w0 S0 B w S) {t : TypeId} {x : Operand} {k : IntKind} {n : Int} (ho : o.op = .unOp .neg t x) (hx : valT P st.tm t x = .int k n)
  (hy : y { v:=.int k (k.wrap (0 - n)) } = some r) (hK : Good w0 S0 B site o st y r K) : o.wpR R P a w K Q:=by
 have h:=valT_rel hR.tm P t x
 rw [hx] at h
 exact op_slot hR hO (.int _ _ _) hy hK (by simp [execOp,ho,h.int_inv,Op.unary,Op.intArith])
theorem op_not (hR : Rel w S B β og st a) (hO : Out w0 S0 B w S) {t : TypeId} {x : Operand} {b : Bool} (ho : o.op = .unOp .not t x) (hx : valT P st.tm t x = .bool b)
  (hy : y { v:=.bool !b } = some r) (hK : Good w0 S0 B site o st y r K) : o.wpR R P a w K Q:=by
 have h:=valT_rel hR.tm P t x
 rw [hx] at h
 exact op_slot hR hO (.bool _ _) hy hK (by simp [execOp,ho,h.bool_inv,Op.unary])
theorem op_convert_int (hR : Rel w S B β og st a) (hO : Out w0 S0 B w S) {src dst : TypeId} {x : Operand} {k0 k k1 : IntKind} {n : Int} (ho : o.op = .convert src dst x) (hs : P.underlying src = some (.int k0)) (hd : P.underlying dst = some (.int k)) (hx : valT P st.tm src x = .int k1 n)
  (hy : y { v:=.int k (k.wrap n) } = some r) (hK : Good w0 S0 B site o st y r K) : o.wpR R P a w K Q:=by
 have h:=valT_rel hR.tm P src x
 rw [hx] at h
 exact op_slot hR hO (.int _ _ _) hy hK (by simp [execOp,ho,h.int_inv,convert,run_underlying hs,run_underlying hd,Conv.intToInt])
theorem op_convert_rune (hR : Rel w S B β og st a) (hO : Out w0 S0 B w S) {src dst : TypeId} {x : Operand} {k0 k1 : IntKind} {n : Int} (ho : o.op = .convert src dst x) (hs : P.underlying src = some (.int k0)) (hd : P.underlying dst = some .string) (hx : valT P st.tm src x = .int k1 n)
  (hy : y { v:=.str (encA n) } = some r) (hK : Good w0 S0 B site o st y r K) : o.wpR R P a w K Q:=by
 have h:=valT_rel hR.tm P src x
 rw [hx] at h
 have he : (Utf8.encode n) = ⟨(encA n).toArray⟩:=by unfold encA;cases Utf8.encode n;simp
 exact op_slot hR hO (.str _ _) hy hK (by simp [execOp,ho,h.int_inv,convert,run_underlying hs,run_underlying hd,Conv.intToString,he])
theorem op_convert_str (hR : Rel w S B β og st a) (hO : Out w0 S0 B w S) {src dst : TypeId} {x : Operand} {s : List UInt8} (ho : o.op = .convert src dst x) (hs : P.underlying src = some .string) (hd : P.underlying dst = some .string) (hx : valT P st.tm src x = .str s)
  (hy : y { v:=.str s } = some r) (hK : Good w0 S0 B site o st y r K) : o.wpR R P a w K Q:=by
 have h:=valT_rel hR.tm P src x
 rw [hx] at h
 exact op_slot hR hO (.str _ _) hy hK (by simp [execOp,ho,h.str_inv,convert,run_underlying hs,run_underlying hd])
theorem op_field (hR : Rel w S B β og st a) (hO : Out w0 S0 B w S) {t : TypeId} {x : Operand} {f : Nat} (ho : o.op = .field t x f) {Γ : Env} {rowsV : List (Nat × Row)} (h : evOp P Γ site o st.tm rowsV y = some r) (hK : Good w0 S0 B site o st y r K) : o.wpR R P a w K Q:=by
 have hv:=valT_rel hR.tm P t x
 simp only [evOp,ho] at h
 split at h
 ·rename_i fl hfl
  obtain ⟨fs,hfs,hf⟩:=fieldOf_spec hfl
  split at h
  ·rename_i cs hx
   rw [hx] at hv
   obtain ⟨vs,he,hvs,h1⟩:=hv.agg_inv
   split at h
   ·rename_i hag
    split at h
    ·obtain ⟨d,hd⟩:=aggT_some hag
     obtain ⟨i,hi,hsz⟩:=underlying_info hd
     have hq:=(hvs.drop fl.offset).take (P.cellsOf fl.type)
     refine op_slot hR hO (.agg _ _ _ hq.1 (fun u hu=>h1 u (List.mem_of_mem_drop (List.mem_of_mem_take hu))) hq.2) h hK ?_
     simp [execOp,ho,he,Instr.field,run_underlying hfs,hf,asAgg,part,run_isAgg hd,hag,sizeOf,typeInfo,hi,hsz]
    ·cases h
   ·rename_i hag
    split at h
    ·rename_i v hcv
     obtain ⟨u,hu,hr⟩:=hvs.at_ hcv
     split at h
     ·rename_i hsome
      obtain ⟨d,hd⟩:=Option.isSome_iff_exists.1 hsome
      refine op_slot hR hO hr h hK ?_
      simp [execOp,ho,he,Instr.field,run_underlying hfs,hf,asAgg,part,run_isAgg hd,hag,hu]
     ·cases h
    ·cases h
  ·cases h
 ·cases h
end ops
end Go.Ev
