/-
  The operations, third part: slices, indexes, append.
-/
import Derived.Test.YtijdnecnjenleaaGreatDoorEvB
import Derived.Maps.AppendAt
import Derived.OrdersIn
import Derived.LoopNIn
import Derived.Laws.Cover3
set_option linter.all false
namespace Go.Ev
open Go.RowKit
variable{w:World}{S:Nat->Prop}{vs:List Value}{B:Nat->Prop}{w':World}{v:Value}{e:TypeId}{S':Nat->Prop}{g:Nat}{m:Bool}{xs:Array Value}
abbrev cD:=Nat->Option (Value×Nat)
def flat(es:List AV):List AV:=es.flatMap AV.cells
def cq:cD:=λ_=>none
inductive VRel(w:World)(S:Nat->Prop):cD->AV->Value->Prop
 |J (β:cD) (v:Value):VRel w S β .J v
 |undef (β:cD):VRel w S β .undef Go.undef
 |int (β:cD) (k:IntKind) (n:Int):VRel w S β (.int k n) (.int k n)
 |bool (β:cD) (b:Bool):VRel w S β (.bool b) (.bool b)
 |jC (β:cD) (b:Bool):VRel w S β .jC (.bool b)
 |nl (β:cD) (v:Value) (h:nilB v=true):VRel w S β .nl v
 |str (β:cD) (s:List UInt8):VRel w S β (.str s) (.string ⟨s.toArray⟩)
 |agg (β:cD) (cs:List AV) (vs:List Value) (ay:vs.length=cs.length) (af:∀u∈vs,u.oneCell'=true)
  (h:∀(j:Nat)(c:AV)(u:Value),cs[j]?=some c->vs[j]?=some u->VRel w S β c u):VRel w S β (.agg cs) (.agg vs.toArray)
 |tup (β:cD) (cs:List AV) (vs:List Value) (ay:vs.length=cs.length)
  (h:∀(j:Nat)(c:AV)(u:Value),cs[j]?=some c->vs[j]?=some u->VRel w S β c u):VRel w S β (.tup cs) (.tuple vs.toArray)
 |ab (β:cD) (s:Sh) (es:List AV) (A:Option Addr) (c:Nat) (a:Addr) (xs:List Value) (an:∀e∈es,cb s e=true) (aa:es.length<=c) (hm:c<=maxLen)
  (bq:es≠[]->A=some a/\S a.block) (ay:xs.length=(flat es).length) (af:∀u∈xs,u.oneCell'=true)
  (ak:∀(j:Nat)(u:Value),xs[j]?=some u->w.cell? (a.add j)=some u)
  (h:∀(j:Nat)(c:AV)(u:Value),(flat es)[j]?=some c->xs[j]?=some u->VRel w S cq c u):VRel w S β (.ab s es) (.slice A es.length c)
 |bf (β:cD) (s:Sh) (A:Option Addr):VRel w S β (.bf s) (.slice A 0 0)
 |hP (β:cD) (s:Sh) (es:List AV) (i off:Nat) (a:Addr) (xs:List Value) (hi:i<es.length) (an:∀e∈es,cb s e=true)
  (cu:S a.block) (ay:xs.length=(flat es).length) (af:∀u∈xs,u.oneCell'=true)
  (ak:∀(j:Nat)(u:Value),xs[j]?=some u->w.cell? (a.add j)=some u)
  (h:∀(j:Nat)(c:AV)(u:Value),(flat es)[j]?=some c->xs[j]?=some u->VRel w S cq c u):
  VRel w S β (.hP s es i off) (.pointer (some (a.add (i*s.width+off))))
 |ref (β:cD) (cs:List AV) (a:Addr) (xs:List Value) (cu:S a.block) (ay:xs.length=cs.length) (af:∀u∈xs,u.oneCell'=true)
  (ak:∀(j:Nat)(u:Value),xs[j]?=some u->w.cell? (a.add j)=some u)
  (h:∀(j:Nat)(c:AV)(u:Value),cs[j]?=some c->xs[j]?=some u->VRel w S cq c u):VRel w S β (.ref cs) (.pointer (some a))
 |lE (β:cD) (t:Nat) (cs:List AV) (v:Value) (h:VRel w S cq (.ref cs) v):VRel w S β (.lE t cs) (.iface t v)
 |lF (β:cD):VRel w S β .lF (.slice none 0 0)
 |ct (β:cD) (es:List AV) (bj:List (Value×Value)) (ay:bj.length=es.length)
  (h:∀(j:Nat)(c:AV)(u:Value×Value),es[j]?=some c->bj[j]?=some u->VRel w S cq c (.tuple #[u.1,u.2])):VRel w S β (.ct es) (.tuple (bj.map λp=>Value.tuple #[p.1,p.2]).toArray)
 |ptr (β:cD) (id off g wd:Nat) (ag:β id=some (.pointer (some ⟨g,0,none⟩),wd)):VRel w S β (.ptr id off) (.pointer (some ⟨g,off,none⟩))
 |eptr (β:cD) (id i off g n c wd o:Nat) (ag:β id=some (.slice (some ⟨g,o,none⟩) n c,wd)):VRel w S β (.eptr id i off) (.pointer (some ⟨g,o+(i*wd+off),none⟩))
 |own (β:cD) (id:Nat) (v:Value) (wd:Nat) (ag:β id=some (v,wd)):VRel w S β (.own id) v
 |sub (β:cD) (id lo len:Nat) (A:Option Addr) (n c wd:Nat) (ag:β id=some (.slice A n c,wd)):VRel w S β (.sub id lo len) (.slice (if c=lo then A else A.map (·.add (lo*wd))) len (c-lo))
 |fn (β:cD) (f:Nat) (cs:List AV) (vs:List Value) (ay:vs.length=cs.length)
  (h:∀(j:Nat)(c:AV)(u:Value),cs[j]?=some c->vs[j]?=some u->VRel w S β c u):VRel w S β (.fn f cs) (.func (.func f) #[] vs.toArray)
def VRels(w:World)(S:Nat->Prop)(β:cD)(cs:List AV)(vs:List Value):Prop:=vs.length=cs.length/\∀(j:Nat)(c:AV)(u:Value),cs[j]?=some c->vs[j]?=some u->VRel w S β c u
theorem Mt(a:Addr)(j:Nat):(a.add j).block=a.block:=by grind[Addr.add]
def Ns(hw:∀b,S b->w'.heap[b]?=w.heap[b]?)(a:Addr)(xs:List Value)(an:S a.block)
  (ak:∀(j:Nat)(u:Value),xs[j]?=some u->w.cell? (a.add j)=some u)(j:Nat)(u:Value)(hu:xs[j]?=some u):w'.cell? (a.add j)=some u:=
 (World.cell?_of_block (w:=w) Ms).trans (ak j u hu)
theorem VRel.mono{β:cD}{c:AV}(h:VRel w S β c v)
  (cu:∀b,S b->S' b)(hw:∀b,S b->w'.heap[b]?=w.heap[b]?):∀{bD:cD},(∀id x,β id=some x->bD id=some x)->VRel w' S' bD c v:=by
 induction h with
 |J β v=>intro bD _;exact .J bD v
 |undef=>intro bD _;exact .undef bD
 |int β k n=>intro bD _;exact .int bD k n
 |bool β b=>intro bD _;exact .bool bD b
 |jC β b=>intro bD _;exact .jC bD b
 |nl β v h=>intro bD _;exact .nl bD v h
 |str β s=>intro bD _;exact .str bD s
 |agg β cs vs ay af _ ih=>intro bD ag;exact .agg bD cs vs ay af λj c u aa hu=>ih j c u aa hu ag
 |tup β cs vs ay _ ih=>intro bD ag;exact .tup bD cs vs ay λj c u aa hu=>ih j c u aa hu ag
 |ab β s es A c a xs an aa hm bq ay af ak _ ih=>
  intro bD _
  refine .ab bD s es A c a xs an aa hm (λbO=>⟨(bq bO).1,cu _ (bq bO).2⟩) ay af ?_ λj c u aa hu=>ih j c u aa hu λ_ _ h=>h
  rcases es with _|⟨e,es⟩
  .grind[flat]
  .exact Ns hw a xs (bq bb).2 ak
 |bf β s A=>intro bD _;exact .bf bD s A
 |hP β s es i off a xs hi an iC ay af ak _ ih=>intro bD _;exact .hP bD s es i off a xs hi an (cu _ iC) ay af (Ns hw a xs iC ak) λj c u aa hu=>ih j c u aa hu λ_ _ h=>h
 |ref β cs a xs iC ay af ak _ ih=>intro bD _;exact .ref bD cs a xs (cu _ iC) ay af (Ns hw a xs iC ak) λj c u aa hu=>ih j c u aa hu λ_ _ h=>h
 |lE β t cs v _ ih=>intro bD _;exact .lE bD t cs v (ih λ_ _ h=>h)
 |lF=>intro bD _;exact .lF bD
 |ct β es vs ay _ ih=>intro bD _;exact .ct bD es vs ay λj c u aa hu=>ih j c u aa hu λ_ _ h=>h
 |ptr β id off g wd bP=>intro bD ag;exact .ptr bD id off g wd (ag _ _ bP)
 |eptr β id i off g n c wd o bP=>intro bD ag;exact .eptr bD id i off g n c wd o (ag _ _ bP)
 |own β id v wd bP=>intro bD ag;exact .own bD id v wd (ag _ _ bP)
 |sub β id lo len A n c wd bP=>intro bD ag;exact .sub bD id lo len A n c wd (ag _ _ bP)
 |fn β f cs vs ay _ ih=>intro bD ag;exact .fn bD f cs vs ay λj c u aa hu=>ih j c u aa hu ag
def VRels.mono{β bD:cD}{cs:List AV}(h:VRels w S β cs vs)
  (cu:∀b,S b->S' b)(hw:∀b,S b->w'.heap[b]?=w.heap[b]?)(ag:∀id x,β id=some x->bD id=some x):VRels w' S' bD cs vs:=
 ⟨h.1,λj c u aa hu=>(h.2 j c u aa hu).mono cu hw ag⟩
theorem VRels.nil{β:cD}:VRels w S β [] []:=⟨rfl,λj c u aa=>y2⟩
theorem VRels.cons{β:cD}{c:AV}{cs:List AV}(h:VRel w S β c v)(an:VRels w S β cs vs):VRels w S β (c::cs) (v::vs):=by
 refine⟨by simp[an.1],λj x u ak hu=>?_⟩;cases j with
 |zero=>grind
 |succ j=>simp at ak hu;exact an.2 j x u ak hu
def VRels.inv{β:cD}{c:AV}{cs:List AV}(h:VRels w S β (c::cs) vs):∃v fr,vs=v::fr/\VRel w S β c v/\VRels w S β cs fr:=by
 cases vs with
 |nil=>have:=h.1;simp at this
 |cons v fr=>exact⟨v,fr,rfl,h.2 0 c v rfl rfl,by have:=h.1;simpa using this,λj x u ak hu=>h.2 (j+1) x u G' yX⟩
def VRels.gf{β:cD}(h:VRels w S β [] vs):vs=[]:=pn (by simpa using h.1)
theorem VRels.append{β:cD}{cs ds:List AV}{us:List Value}(h:VRels w S β cs vs)(h':VRels w S β ds us):VRels w S β (cs++ds) (vs++us):=by
 induction cs generalizing vs with
 |nil=>rw[h.gf];simpa using h'
 |cons c cs ih=>obtain⟨v,fr,rfl,ar,b6⟩:=h.inv;grind[VRels.cons]
def VRels.drop{β:cD}{cs:List AV}(h:VRels w S β cs vs)(n:Nat):VRels w S β (cs.drop n) (vs.drop n):=⟨y5,λj c u aa hu=>h.2 (n+j) c u wY yX⟩
def VRels.take{β:cD}{cs:List AV}(h:VRels w S β cs vs)(n:Nat):VRels w S β (cs.take n) (vs.take n):=by
 refine⟨y5,λj c u aa hu=>?_⟩;rw[AX]at aa hu;split at aa
 .rename_i aP;rw[dE aP]at hu;exact h.2 j c u aa hu
 .cases aa
theorem VRels.at_{β:cD}{cs:List AV}(h:VRels w S β cs vs){j:Nat}{c:AV}(aa:cs[j]?=some c):∃u,vs[j]?=some u/\VRel w S β c u:=by
 have aP:j<vs.length:=by rw[h.1];grind
 exact⟨vs[j],fC aP,h.2 j c _ aa (fC aP)⟩
theorem VRel.laid{β:cD}{c:AV}(h:VRel w S β c v)(ag:c.laidB=true)(HS:∀id x,β id=some x->x.1.oneCell'=true):
  ∃us:List Value,v.cells=us.toArray/\VRels w S β c.cells us/\∀u∈us,u.oneCell'=true:=by
 have one:∀(c:AV)(v:Value),c.cells=[c]->v.cells= #[v]->v.oneCell'=true->VRel w S β c v->
   ∃us:List Value,v.cells=us.toArray/\VRels w S β c.cells us/\∀u∈us,u.oneCell'=true:=λc v aa ar af h=>
  ⟨[v],by simp[ar],by grind[VRels.cons,VRels.nil],s5⟩
 cases h with
 |J _ v=>simp[AV.laidB]at ag
 |undef _=>simp[AV.laidB]at ag
 |int _ k n=>exact one _ _ rfl rfl rfl (.int _ k n)
 |bool _ b=>exact one _ _ rfl rfl rfl (.bool _ b)
 |jC _ b=>exact one _ _ rfl rfl rfl (.jC _ b)
 |nl _ v h=>exact one _ _ rfl GX GX (.nl _ v h)
 |str _ s=>exact one _ _ rfl rfl rfl (.str _ s)
 |agg _ cs vs ay af h=>exact⟨vs,rfl,⟨ay,h⟩,af⟩
 |tup _ cs vs ay h=>simp[AV.laidB]at ag
 |ab _ s es A c a xs an aa hm bq ay af ak h=>exact one _ _ rfl rfl rfl (.ab _ s es A c a xs an aa hm bq ay af ak h)
 |bf _ s A=>exact one _ _ rfl rfl rfl (.bf _ s A)
 |hP _ s es i off a xs hi an iC ay af ak h=>exact one _ _ rfl rfl rfl (.hP _ s es i off a xs hi an iC ay af ak h)
 |ref _ cs a xs iC ay af ak h=>exact one _ _ rfl rfl rfl (.ref _ cs a xs iC ay af ak h)
 |lE _ t cs v h=>exact one _ _ rfl rfl rfl (.lE _ t cs v h)
 |lF=>exact one _ _ rfl rfl rfl (.lF _)
 |ct _ es vs ay h=>simp[AV.laidB]at ag
 |ptr _ id off g wd bP=>exact one _ _ rfl rfl rfl (.ptr _ id off g wd bP)
 |eptr _ id i off g n c wd o bP=>exact one _ _ rfl rfl rfl (.eptr _ id i off g n c wd o bP)
 |own _ id v wd bP=>
  have af:=HS _ _ bP
  have ar:v.cells= #[v]:=by cases v<;>first|rfl|(simp[Value.oneCell']at af)
  exact one _ _ rfl ar af (.own _ id v wd bP)
 |sub _ id lo len A n c wd bP=>exact one _ _ rfl rfl rfl (.sub _ id lo len A n c wd bP)
 |fn _ f cs vs ay h=>exact one _ _ rfl rfl rfl (.fn _ f cs vs ay h)
def M':∀(l:List Sh)(cs:List AV),gg l cs=true->cs.length=l.length
 |[],[],_=>rfl
 |[],_::_,h=>Hh
 |_::_,[],h=>Hh
 |s::l,c::cs,h=>by simp[gg]at h;simp[M' l cs h.2]
theorem ql(s:Sh)(v:AV)(h:fE s v=true):v.cells=[v]/\s.cells=[s]:=by cases s<;>cases v<;>simp[fE]at h<;>exact⟨rfl,rfl⟩
theorem Er(s:Sh)(v:AV)(h:cb s v=true):gg s.cells v.cells=true:=by
 have one:∀s:Sh,fE s v=true->gg s.cells v.cells=true:=λs h'=>by grind[ql,gg]
 cases s with
 |agg l=>cases v<;>simp[cb]at h;exact h
 |other=>exact one .other h
 |int k=>exact one (.int k) h
 |bool=>exact one .bool h
 |str=>exact one .str h
 |slice s=>exact one (.slice s) h
theorem vK(s:Sh)(v:AV)(h:cb s v=true):v.cells.length=s.width:=M' _ _ (Er s v h)
theorem Sh.beq_eq:∀(s t:Sh),Sh.beq s t=true->s=t:=by
 intro s;induction s using Sh.rec (motive_2:=λl=>∀gW,Sh.q0 l gW=true->l=gW)with
 |int k=>intro t h;cases t<;>simp[Sh.beq]at h;rw[h]
 |bool=>grind[Sh.beq]
 |str=>grind[Sh.beq]
 |slice s ih=>intro t h;cases t<;>simp[Sh.beq]at h;rw[ih _ h]
 |agg l ih=>intro t h;cases t<;>simp[Sh.beq]at h;rw[ih _ h]
 |other=>grind[Sh.beq]
 |nil=>grind[Sh.q0]
 |cons a l af7 af8=>rename_i gW h;cases gW<;>simp[Sh.q0]at h;rw[af7 _ h.1,af8 _ h.2]
open Go.Proofs
def UP(w:World):Prop:=(∃m:Int,w.cell? ⟨0,0,none⟩=some (.int .i64 m))/\Lib.TabIs Tryz.prog w "internal/strconv.uint64pow10" .u64 Lib.pow10Tab
noncomputable def H3(c:Option Code)(j:Nat):Array Tmp×Code×Code:=((c.map rS).getD []).getD j (#[],.skip,.skip)
noncomputable def ra(key:Int):Array Tmp×Code×Code:=match key.toNat with
 |0=>H3 Tryz.f14.body 0
 |1=>H3 Tryz.f16.body 0
 |_=>H3 Tryz.f9.body 0
structure Kept(B:Nat->Prop)(w w':World):Prop where
 os:w'.os=w.os
 tape:w'.tape=w.tape
 output:w'.output=w.output
 size:w.heap.size<=w'.heap.size
 block:∀k,B k->w'.heap[k]?=w.heap[k]?
theorem Kept.refl(B:Nat->Prop)(w:World):Kept B w w:=⟨rfl,rfl,rfl,dc _,λ_ _=>rfl⟩
def Kept.trans{a b c:World}(h:Kept B a b)(k:Kept B b c):Kept B a c:=⟨k.os.trans h.os,k.tape.trans h.tape,k.output.trans h.output,lp h.size k.size,λi hi=>(k.block i hi).trans (h.block i hi)⟩
def Glb(B:Nat->Prop)(w:World):Prop:=∀w',Kept B w w'->UP w'
def Glb.mono{j5:Nat->Prop}(h:Glb B w)(dy:∀b,B b->j5 b):Glb j5 w:=λw' k=>h w' ⟨k.os,k.tape,k.output,k.size,λi hi=>k.block i (dy i hi)⟩
structure oZ(B:Nat->Prop)(w w':World):Prop extends Kept B w w' where
 js:Glb B w
def oZ.trans{a b c:World}(h:oZ B a b)(k:Kept B b c):oZ B a c:=⟨Kept.trans h.toKept k,h.js⟩
def oZ.here(h:oZ B w w'):Glb B w':=λ_ k=>h.js _ (Kept.trans h.toKept k)
theorem oZ.refl(h:Glb B w):oZ B w w:=⟨Kept.refl _ _,h⟩
def Kept.xz{n:Nat}(h:Below n w w')(dy:∀b,B b->b<n):Kept B w w':=⟨h.os,h.tape,h.output,h.size,λk ai=>h.block k (dy k ai)⟩
def Kept.below{n:Nat}(h:Kept (λb=>b<n) w w'):Below n w w':=⟨h.os,h.tape,h.output,h.size,h.block⟩
def Kept.H4{row:Option Nat}(h:w.grownBy w' row)(dy:∀b,B b->b<w.heap.size)(aD:∀k,row=some k->¬B k):Kept B w w':=⟨h.os,h.tape,h.output,h.size,λk ai=>h.block k (dy k ai) (λe=>aD k e.symm ai)⟩
def jQ(w:World)(g:Nat)(xs:Array Value)(e:TypeId)(m:Bool):Prop:=∃fz:Nat×Nat,(fz=(0,0)\/(m=true/\fz=(xs.size,xs.size+1)))/\w.heap[g]?=some (.cells xs e fz)
def H5(s:Sh):Bool:=Sh.beq s (.int .u8)
def qj(key:Int)(d:Bool):List Value:=bif d then[.int .i64 key,.bool true]else[.int .i64 key]
def vL(key:Int)(d:Bool):List AV:=bif d then[.int .i64 key,.bool true]else[.int .i64 key]
def Holds(w:World)(g:Nat)(vs:List Value)(v:Value):Prop:=
 ((∃t,w.heap[g]?=some (.cells vs.toArray t (0,0)))/\v=.pointer (some ⟨g,0,none⟩)/\∀u∈vs,u.oneCell'=true)\/
 (∃(r:Go.Loop)(key:Int)(us:List Value)(d:Bool),w.heap[g]?=some (.loop r)/\(r.state=bif d then .done else .ready)/\(r.pending=bif d then some .ret else none)/\(r.params,r.assign,r.body)=ra key/\vs=.tuple (qj key d).toArray::us/\r.tmps.toList=us/\v=.func (.yield g) #[] #[])\/
 (∃(s:ByteArray)(pos:Nat),w.heap[g]?=some (.stringIter s pos)/\vs=[.tuple #[.string s,.int .i64 pos]]/\v=.slice (some ⟨g,0,none⟩) 0 0)\/
 ∃(xs:List MapEntry),w.heap[g]?=some (.map xs.toArray xs.length)/\(∀(i:Nat)(e:MapEntry),xs[i]?=some e->e.born=i)/\vs=[.tuple (xs.map λe=>Value.tuple #[e.key,e.val]).toArray]/\v=.map (some g)
def Holds.gJ(h:Holds w g vs v)(hw:w'.heap[g]?=w.heap[g]?):Holds w' g vs v:=by
 rcases h with⟨⟨t,h⟩,af⟩|⟨r,key,us,d,h,af⟩|⟨s,pos,h,af⟩|⟨xs,h,af⟩
 .exact .inl ⟨⟨t,hw.trans h⟩,af⟩
 .exact .inr (.inl ⟨r,key,us,d,hw.trans h,af⟩)
 .exact .inr (.inr (.inl ⟨s,pos,hw.trans h,af⟩))
 .exact .inr (.inr (.inr ⟨xs,hw.trans h,af⟩))
theorem Holds.ptr{fm:Nat}(h:Holds w g vs v)(e:v=.pointer (some ⟨fm,0,none⟩)):g=fm/\(∃t,w.heap[g]?=some (.cells vs.toArray t (0,0)))/\∀u∈vs,u.oneCell'=true:=by
 rcases h with⟨h,af,ao⟩|⟨r,key,us,d,_,_,_,_,_,_,af⟩|⟨s,pos,_,_,af⟩|⟨xs,_,_,_,af⟩
 .grind
 .rw[af]at e;cases e
 .rw[af]at e;cases e
 .rw[af]at e;cases e
def eb(w:World)(S:Nat->Prop)(B:Nat->Prop)(β:cD)(id:Nat)(og:Option Nat):Row->Prop
 |.box bW cs=>∃(g:Nat)(vs:List Value)(v:Value),og=some g/\β id=some (v,1)/\Holds w g vs v/\VRels w S β cs vs/\(bW=false->¬S g)/\(bW=true->S g)/\¬B g
 |.arr bW s e es dm=>0<s.width/\∃(v:Value)(sp:List AV)(xs:List Value),(∀x∈es++sp,cb s x=true)/\(∀c,dm=some c->c=sp)/\β id=some (v,s.width)/\(∀u∈xs,u.oneCell'=true)/\
  VRels w S cq (flat (es++sp)) xs/\
  ((es=[]/\sp=[]/\og=none/\∃A,v=.slice A 0 0)\/
   ∃(g:Nat)(bj:List Value),og=some g/\v=.slice (some ⟨g,bj.length,none⟩) es.length (es.length+sp.length)/\¬B g/\jQ w g (bj++xs).toArray e (H5 s)/\es.length+sp.length<=maxLen/\
    (bW=false->¬S g)/\(bW=true->S g))
 |.cj bW s e pre cs post=>0<s.width/\cs.length=s.width/\∃(g:Nat)(bj:List Value)(sp:List AV)(xs us cm:List Value),(∀x∈pre,cb s x=true)/\(∀x∈post++sp,cb s x=true)/\og=some g/\
  β id=some (.slice (some ⟨g,bj.length,none⟩) (pre.length+(post.length+1)) (pre.length+(post.length+1)+sp.length),s.width)/\
  (∀u∈xs++(us++cm),u.oneCell'=true)/\VRels w S cq (flat pre) xs/\VRels w S β cs us/\VRels w S cq (flat (post++sp)) cm/\
  ¬B g/\jQ w g (bj++(xs++(us++cm))).toArray e (H5 s)/\pre.length+(post.length+1)+sp.length<=maxLen/\(bW=false->¬S g)/\(bW=true->S g)
structure Ctx where
 B:Nat->Prop
 kH:cD:=cq
 df:List Deferred:=[]
instance:CoeFun Ctx λ_=>Nat->Prop:=⟨Ctx.B⟩
instance:Coe Ctx (Nat->Prop):=⟨Ctx.B⟩
structure Rel(w:World)(S:Nat->Prop)(B:Ctx)(β:cD)(og:Nat->Option Nat)(st:bC)(a:Act):Prop where
 tm:VRels w S β st.tm a.tmps.toList
 df:a.defers=B.df
 row:∀id r,lookup st.rows id=some r->eb w S B β id (og id) r
 inj:∀id eg g,og id=some g->og eg=some g->id=eg
 lt:∀id g,og id=some g->g<w.heap.size
 used:∀id x,β id=some x->id∈st.used
 one:∀id x,β id=some x->x.1.oneCell'=true
 dF:∀b,S b->b<w.heap.size
 dZ:∀b,B b->b<w.heap.size
 pid:∀id x,aE<=id->β id=some x->B.kH id=some x
theorem lZ{s:Sh}:∀(es:List AV),(∀x∈es,cb s x=true)->(flat es).length=es.length*s.width
 |[],_=>vv
 |e::es,h=>by have af:=vK s e (h e bb);have ao:=lZ (s:=s) es (λx ak=>h x lv);simp_all[flat,kB,Bh]
theorem vM(es aC:List AV):flat (es++aC)=flat es++flat aC:=vv
theorem H6{s:Sh}:∀(es:List AV)(i:Nat)(e:AV),(∀x∈es,cb s x=true)->es[i]?=some e->((flat es).drop (i*s.width)).take s.width=e.cells
 |[],i,e,_,h=>k1
 |x::es,0,e,an,h=>by simp at h;subst h;have hw:=vK s x (an x bb);simp_all[flat]
 |x::es,i+1,e,an,h=>by have hw:=vK s x (an x bb);have ih:=H6 es i e (λy aN=>an y y1) qT;rw[<-ih];simp only[flat,mg];rw[kB,Bg,Bh,<-AY,<-hw];simp
def VRel.hk{β:cD}{c:AV}(h:VRel w S β c v)(cu:∀b,S b->S' b):VRel w S' β c v:=h.mono cu (λ_ _=>rfl) (λ_ _ h=>h)
def VRels.hk{β:cD}{cs:List AV}(h:VRels w S β cs vs)(cu:∀b,S b->S' b):VRels w S' β cs vs:=h.mono cu (λ_ _=>rfl) (λ_ _ h=>h)
theorem hd(g o j:Nat):(⟨g,o,none⟩:Addr).add j=⟨g,o+j,none⟩:=by grind[Addr.add]
theorem add_add(x:Addr)(i j:Nat):(x.add i).add j=x.add (i+j):=by grind[Addr.add]
theorem BW{s:Sh}:∀(es:List AV)(l:Nat),(∀x∈es,cb s x=true)->flat (es.drop l)=(flat es).drop (l*s.width)
 |es,0,_=>bb
 |[],l+1,_=>vv
 |e::es,l+1,an=>by have hw:=vK s e (an e bb);have:=BW es l (λx ak=>an x lv);simp only[List.drop_succ_cons,this];simp only[flat,mg];rw[kB,Bg,Bh,<-AY,<-hw];simp
theorem H7{s:Sh}:∀(es:List AV)(l:Nat),(∀x∈es,cb s x=true)->flat (es.take l)=(flat es).take (l*s.width)
 |es,0,_=>vv
 |[],l+1,_=>vv
 |e::es,l+1,an=>by have hw:=vK s e (an e bb);have:=H7 es l (λx ak=>an x lv);simp_all[flat,nn,kB,List.take_append]
section part
variable{w:World}{S:Nat->Prop}{β:cD}
def VRel.Es{s:Sh}{es:List AV}(h:VRel w S β (.ab s es) v):∃(A:Option Addr)(c:Nat)(ad:Addr)(xs:List Value),v=.slice A es.length c/\(∀e∈es,cb s e=true)/\es.length<=c/\c<=maxLen/\
  (es≠[]->A=some ad/\S ad.block)/\VRels w S cq (flat es) xs/\(∀u∈xs,u.oneCell'=true)/\(∀(j:Nat)(u:Value),xs[j]?=some u->w.cell? (ad.add j)=some u):=by
 cases h with
 |ab _ _ _ A c ad xs an aa hm bq ay af ak hh=>exact⟨A,c,ad,xs,rfl,an,aa,hm,bq,⟨ay,hh⟩,af,ak⟩
theorem Nt{s:Sh}{es:List AV}(h:VRel w S β (.ab s es) v)(bD:cD){l hh:Nat}(avB:l<=hh)(vN:hh<=es.length):
  ∃A c,v=.slice A es.length c/\es.length<=c/\VRel w S bD (.ab s ((es.drop l).take (hh-l))) (.slice (if c=l then A else A.map (·.add (l*s.width))) (hh-l) (c-l)):=by
 obtain⟨A,c,ad,xs,rfl,an,aa,hm,bq,ar,af,ak⟩:=h.Es
 refine⟨A,c,rfl,aa,?_⟩
 have tn:∀e∈(es.drop l).take (hh-l),cb s e=true:=λe he=>an e (jx (lr he))
 have hlen:((es.drop l).take (hh-l)).length=hh-l:=lu
 have fU:flat ((es.drop l).take (hh-l))=((flat es).drop (l*s.width)).take ((hh-l)*s.width):=by rw[H7 (s:=s) _ _ (λx ak=>an x (jx ak)),BW es l an]
 have fo:=(ar.drop (l*s.width)).take ((hh-l)*s.width)
 rw[<-fU]at fo
 have:=VRel.ab (w:=w) (S:=S) bD s ((es.drop l).take (hh-l)) (if c=l then A else A.map (·.add (l*s.width))) (c-l) (ad.add (l*s.width)) ((xs.drop (l*s.width)).take ((hh-l)*s.width)) tn (by rw[hlen];omega) al
  (λbO=>?_) fo.1 (λu hu=>af u (jx (lr hu))) (λj u hu=>?_) fo.2
 .rwa[hlen]at this
 .have dJ:0<hh-l:=by
    rcases vl (hh-l)with a7|a7
    .rw[a7]at bO;simp at bO
    .exact a7
  have Nu:es≠[]:=by rintro rfl;simp at vN;omega
  obtain⟨rfl,cu⟩:=bq Nu;rw[c0 al];grind[Mt]
 grind[add_add]
end part
def cr(S:Nat->Prop)(og:Nat->Option Nat)(ids:List Nat)(b:Nat):Prop:=S b\/∃id∈ids,og id=some b
def cr.left{og:Nat->Option Nat}{ids:List Nat}{b:Nat}(h:S b):cr S og ids b:=.inl h
def cr.sub{og:Nat->Option Nat}{ids UQ:List Nat}(an:∀i∈ids,i∈UQ){b:Nat}(h:cr S og ids b):cr S og UQ b:=h.imp id λ⟨i,hi,ag⟩=>⟨i,an i hi,ag⟩
theorem sb{cur:Array Value}(h:jQ w g cur e m)(j:Nat):w.cell? ⟨g,j,none⟩=cur[j]?:=by obtain⟨fz,_,h⟩:=h;simp[World.cell?,h]
def behind(bj xs:List Value)(j:Nat):(bj++xs).toArray[bj.length+j]?=xs[j]?:=bM
theorem jQ.plain(h:w.heap[g]?=some (.cells xs e (0,0))):jQ w g xs e m:=⟨_,.inl rfl,h⟩
def jQ.gJ(h:jQ w g xs e m)(hw:w'.heap[g]?=w.heap[g]?):jQ w' g xs e m:=by obtain⟨fz,af,ao⟩:=h;exact⟨fz,af,hw.trans ao⟩
theorem jQ.lt(h:jQ w g xs e m):g<w.heap.size:=by obtain⟨fz,_,h⟩:=h;grind
def eb.Et{β:cD}{id:Nat}{og:Option Nat}{bW:Bool}{s:Sh}{es:List AV}{dm:Option (List AV)}(h:eb w S B β id og (.arr bW s e es dm)):
  0<s.width/\(∀x∈es,cb s x=true)/\∃(v:Value)(xs:List Value),β id=some (v,s.width)/\(∀u∈xs,u.oneCell'=true)/\VRels w S cq (flat es) xs/\
   ((es=[]/\og=none/\∃A,v=.slice A 0 0)\/
    ∃(g cap o:Nat)(cur:Array Value),og=some g/\v=.slice (some ⟨g,o,none⟩) es.length cap/\¬B g/\jQ w g cur e (H5 s)/\es.length<=cap/\cap<=maxLen/\
     cur.size=o+cap*s.width/\(cur.toList.drop o).take (es.length*s.width)=xs/\(bW=false->¬S g)/\(bW=true->S g)):=by
 obtain⟨dJ,v,sp,xs,BX,_,ag,Eu,H8,e2⟩:=h
 have dd:∀x∈es,cb s x=true:=λx ak=>BX x (wV _ ak)
 have ar:VRels w S cq (flat es) (xs.take (es.length*s.width)):=by have:=H8.take (es.length*s.width);rw[vM,wU GR,nn GR]at this;exact this
 refine⟨dJ,dd,v,_,ag,λu hu=>Eu u (lr hu),ar,?_⟩
 rcases e2 with⟨he,gA,aw,bq⟩|⟨g,bj,dQ,rfl,dy,hh,hm,hi,aP⟩
 .exact .inl ⟨he,aw,bq⟩
 .refine .inr ⟨g,_,bj.length,(bj++xs).toArray,dQ,rfl,dy,hh,al,hm,?_,bb,hi,aP⟩;rw[A3,fu,H8.1,lZ _ BX,fu]
def Nv{β:cD}{id:Nat}{og:Option Nat}{bW:Bool}{s:Sh}{es:List AV}{dm:Option (List AV)}(h:eb w S B β id og (.arr bW s e es dm))
  (cu:∀b,S b->S' b)(aB:∀g,og=some g->S' g)(bD:cD):∃v,β id=some (v,s.width)/\VRel w S' bD (.ab s es) v/\
   ∀i off,i<es.length->∃g o n c,v=.slice (some ⟨g,o,none⟩) n c/\VRel w S' bD (.hP s es i off) (.pointer (some ⟨g,o+(i*s.width+off),none⟩)):=by
 obtain⟨dJ,v,sp,xs,BX,_,ag,Eu,H8,e2⟩:=h
 have dd:∀x∈es,cb s x=true:=λx ak=>BX x (wV _ ak)
 refine⟨v,ag,?_⟩
 rcases e2 with⟨he,gA,_,A,rfl⟩|⟨g,bj,dQ,rfl,_,hh,hm,_⟩
 .subst he;exact⟨.ab bD s [] A 0 default [] bb bb gn (λh=>absurd rfl h) vv bb bb bb,λi off hi=>by simp at hi⟩
 .have ar:VRels w S' cq (flat es) (xs.take (es.length*s.width)):=by
    have:=(H8.hk cu).take (es.length*s.width);rw[vM,wU GR,nn GR]at this;exact this
  have af:∀u∈xs.take (es.length*s.width),u.oneCell'=true:=λu hu=>Eu u (lr hu);have o0:∀(j:Nat)(u:Value),(xs.take (es.length*s.width))[j]?=some u->w.cell? ((⟨g,bj.length,none⟩:Addr).add j)=some u:=by
   intro j u hu;rw[hd,sb hh,behind];rw[AX]at hu;split at hu
   .exact hu
   .cases hu
  refine⟨.ab bD s es _ _ ⟨g,bj.length,none⟩ _ dd al hm (λ_=>⟨rfl,aB g dQ⟩) ar.1 af o0 ar.2,λi off hi=>⟨g,bj.length,es.length,_,rfl,?_⟩⟩;have:=VRel.hP bD s es i off ⟨g,bj.length,none⟩ _ hi dd (aB g dQ) ar.1 af o0 ar.2;rwa[hd]at this
def af9{s:Sh}{cs:List AV}(h:cb s (dU s cs)=true)(ay:cs.length=s.width):(dU s cs).cells=cs:=by
 cases s with
 |agg l=>rfl
 |_=>
  match cs,ay with
  |[c],_=>
   first
    |exact(ql _ c h).1
    |(simp[cb,fE]at h)
theorem MR{f:AV->Option (AV×List Nat)}:∀(cs:List AV)(p:List AV×List Nat),dp f cs=some p->p.1.length=cs.length
 |[],p,h=>by grind[dp]
 |c::cs,p,h=>by
  simp only[dp]at h;cases aa:f c with
  |none=>simp[aa]at h
  |some q=>
   cases aH:dp f cs with
   |none=>simp[aa,aH]at h
   |some r=>simp[aa,aH]at h;subst h;simp[MR cs r aH]
def aga{β:cD}{id:Nat}{og:Option Nat}{bW:Bool}{s:Sh}{pre cs post p:List AV}(h:eb w S B β id og (.cj bW s e pre cs post))
  (cu:∀b,S b->S' b)(aB:∀g,og=some g->S' g)(au:∀us,VRels w S β cs us->VRels w S' cq p us)(ay:p.length=cs.length)(dd:cb s (dU s p)=true)(bD:cD):
  ∃v,β id=some (v,s.width)/\VRel w S' bD (.ab s (pre++dU s p::post)) v:=by
 obtain⟨dJ,di,g,bj,sp,xs,us,cm,lM,j8,dQ,ag,af,iE,hR,jr,dy,hh,hm,_⟩:=h
 have aa:=af9 dd (ay.trans di)
 have aR:flat (pre++dU s p::post)=flat pre++(p++flat post):=by simp only[flat,List.flatMap_append,mg,aa]
 have agb:VRels w S' cq (flat post) (cm.take (flat post).length):=by have:=(jr.hk cu).take (flat post).length;rw[vM,wU (dc _),nn (dc _)]at this;exact this
 have ar:VRels w S' cq (flat (pre++dU s p::post)) (xs++(us++cm.take (flat post).length)):=by rw[aR];exact(iE.hk cu).append ((au us hR).append agb)
 have cn:∀x∈pre++dU s p::post,cb s x=true:=λx ak=>by
  rcases gD.1 ak with ak|ak
  .exact lM x ak
  .rcases gv.1 ak with rfl|ak
   .exact dd
   .exact j8 x (wV _ ak)
 have cN:xs++(us++cm.take (flat post).length)=(xs++(us++cm)).take (xs.length+(us.length+(flat post).length)):=by rw[Gz,Gz]
 have aJ:(pre++dU s p::post).length=pre.length+(post.length+1):=bb
 refine⟨_,ag,?_⟩
 have:=VRel.ab bD s (pre++dU s p::post) (some ⟨g,bj.length,none⟩) (pre.length+(post.length+1)+sp.length) ⟨g,bj.length,none⟩ _ cn (by rw[aJ];omega) hm (λ_=>⟨rfl,aB g dQ⟩) ar.1 (λu hu=>?_) (λj u hu=>?_) ar.2
 .rwa[aJ]at this
 .rw[cN]at hu;exact af u (lr hu)
 .rw[cN,AX]at hu;rw[hd,sb hh,behind];split at hu
  .exact hu
  .cases hu
section pur
variable{w:World}{S:Nat->Prop}{B:Nat->Prop}{β:cD}{og:Nat->Option Nat}{rows:List (Nat×Row)}
def zn{f:AV->Option (AV×List Nat)}(aR:∀v da ids u,f v=some (da,ids)->VRel w S β v u->VRel w (cr S og ids) cq da u):
  ∀(cs:List AV)(p:List AV×List Nat)(us:List Value),dp f cs=some p->VRels w S β cs us->VRels w (cr S og p.2) cq p.1 us
 |[],p,us,h,ar=>by simp[dp]at h;subst h;rw[ar.gf];exact VRels.nil
 |c::cs,p,us,h,ar=>by
  obtain⟨u,lb,rfl,a7,an⟩:=ar.inv;simp only[dp]at h;cases aa:f c with
  |none=>simp[aa]at h
  |some q=>
   cases aH:dp f cs with
   |none=>simp[aa,aH]at h
   |some r=>simp[aa,aH]at h;subst h;exact VRels.cons ((aR c q.1 q.2 u aa a7).hk λb=>cr.sub G8) ((zn aR cs r lb aH an).hk λb=>cr.sub G8)
theorem oU(eN:∀id r,lookup rows id=some r->eb w S B β id (og id) r):
  ∀(n:Nat)(v da:AV)(ids:List Nat)(u:Value),cB rows n v=some (da,ids)->VRel w S β v u->VRel w (cr S og ids) cq da u:=by
 intro n
 induction n with
 |zero=>grind[cB]
 |succ n ih=>
  intro v da ids u h ar
  have eD:=zn (w:=w) (S:=S) (β:=β) (og:=og) (f:=cB rows n) (λv da ids u h ar=>ih v da ids u h ar)
  cases ar with
  |J _ v=>simp[cB]at h
  |undef=>simp[cB]at h;obtain⟨rfl,rfl⟩:=h;exact .undef _
  |int _ k m=>simp[cB]at h;obtain⟨rfl,rfl⟩:=h;exact .int _ k m
  |bool _ b=>simp[cB]at h;obtain⟨rfl,rfl⟩:=h;exact .bool _ b
  |jC _ b=>simp[cB]at h;obtain⟨rfl,rfl⟩:=h;exact .jC _ b
  |nl _ _ aJ=>simp[cB]at h;obtain⟨rfl,rfl⟩:=h;exact .nl _ _ aJ
  |str _ s=>simp[cB]at h;obtain⟨rfl,rfl⟩:=h;exact .str _ s
  |agg _ cs vs ay af hh=>
   simp only[cB]at h
   cases au:dp (cB rows n) cs with
   |none=>simp[au]at h
   |some p=>
    simp[au]at h
    obtain⟨rfl,rfl⟩:=h
    have:=eD cs p vs au ⟨ay,hh⟩
    exact .agg _ p.1 vs this.1 af this.2
  |tup _ cs vs ay hh=>
   simp only[cB]at h
   cases au:dp (cB rows n) cs with
   |none=>simp[au]at h
   |some p=>
    simp[au]at h
    obtain⟨rfl,rfl⟩:=h
    have:=eD cs p vs au ⟨ay,hh⟩
    exact .tup _ p.1 vs this.1 this.2
  |ab _ s es A c a xs an aa hm bq ay af ak hh=>
   simp[cB]at h;obtain⟨rfl,rfl⟩:=h
   exact(VRel.ab cq s es A c a xs an aa hm bq ay af ak hh).hk λb=>cr.left
  |bf _ s A=>simp[cB]at h;obtain⟨rfl,rfl⟩:=h;exact .bf _ s A
  |hP _ s es i off a xs hi an iC ay af ak hh=>
   simp[cB]at h;obtain⟨rfl,rfl⟩:=h
   exact(VRel.hP cq s es i off a xs hi an iC ay af ak hh).hk λb=>cr.left
  |ref _ cs a xs iC ay af ak hh=>
   simp[cB]at h;obtain⟨rfl,rfl⟩:=h
   exact(VRel.ref cq cs a xs iC ay af ak hh).hk λb=>cr.left
  |lE _ t cs v hh=>
   simp[cB]at h;obtain⟨rfl,rfl⟩:=h
   exact(VRel.lE cq t cs v hh).hk λb=>cr.left
  |lF=>simp[cB]at h;obtain⟨rfl,rfl⟩:=h;exact .lF _
  |ct _ es vs ay hh=>
   simp[cB]at h;obtain⟨rfl,rfl⟩:=h
   exact(VRel.ct cq es vs ay hh).hk λb=>cr.left
  |ptr _ id off g wd bP=>
   simp only[cB]at h
   cases aD:lookup rows id with
   |none=>simp[aD]at h
   |some r=>
    cases r with
    |arr _ _ _ _ _=>simp[aD]at h
    |cj _ _ _ _ _ _=>simp[aD]at h
    |box bW cs=>
     obtain⟨fm,vs,v0,dQ,ag,ep,b6,_⟩:=eN id _ aD
     have tq:v0=.pointer (some ⟨g,0,none⟩):=by rw[bP]at ag;simp at ag;exact ag.1.symm
     obtain⟨tq,⟨t,hh⟩,af⟩:=ep.ptr tq
     subst tq
     simp only[aD]at h
     cases au:dp (cB rows n) cs with
     |none=>simp[au]at h
     |some p=>
      simp[au]at h
      obtain⟨rfl,rfl⟩:=h
      have aH:=((eD cs p vs au b6).hk (S':=cr S og (id::p.2)) λb=>cr.sub G8).drop off
      refine .ref _ _ _ (vs.drop off) (.inr ⟨id,bb,dQ⟩) aH.1 (λu hu=>af u (jx hu)) (λj u hu=>?_) aH.2
      rw[hd,sb (jQ.plain hh (m:=true))]
      simpa using hu
  |eptr _ id i off g m c wd o bP=>
   simp only[cB]at h
   cases aD:lookup rows id with
   |none=>simp[aD]at h
   |some r=>
    cases r with
    |box _ _=>simp[aD]at h
    |cj _ _ _ _ _ _=>simp[aD]at h
    |arr bW s e es dm=>
     simp[aD]at h
     obtain⟨hi,rfl,rfl⟩:=h
     obtain⟨v,ag,_,he⟩:=Nv (eN id _ aD) (S':=cr S og [id]) (λb=>cr.left) (λg aB=>.inr ⟨id,bb,aB⟩) cq
     rw[bP]at ag
     simp only[ej,gU]at ag
     obtain⟨rfl,rfl⟩:=ag
     obtain⟨fm,o',k',c',ar,tr⟩:=he i off hi
     grind
  |own _ id v wd bP=>
   simp only[cB]at h
   cases aD:lookup rows id with
   |none=>simp[aD]at h
   |some r=>
    cases r with
    |box _ _=>simp[aD]at h
    |cj bW s e pre cs post=>
     simp only[aD]at h
     cases au:dp (cB rows n) cs with
     |none=>simp[au]at h
     |some p=>
      simp only[au]at h
      split at h
      .rename_i dd;simp only[ej,gU]at h;obtain⟨rfl,rfl⟩:=h;obtain⟨da,ag,ar⟩:=aga (eN id _ aD) (S':=cr S og (id::p.2)) (λb=>cr.left) (λg aB=>.inr ⟨id,bb,aB⟩)
         (λus hR=>(eD cs p us au hR).hk λb=>cr.sub G8) (MR cs p au) dd cq
       grind
      .cases h
    |arr bW s e es dm=>
     simp[aD]at h
     obtain⟨rfl,rfl⟩:=h
     obtain⟨da,ag,ar,_⟩:=Nv (eN id _ aD) (S':=cr S og [id]) (λb=>cr.left) (λg aB=>.inr ⟨id,bb,aB⟩) cq
     grind
  |sub _ id lo n A m c wd bP=>
   simp only[cB]at h
   cases aD:lookup rows id with
   |none=>simp[aD]at h
   |some r=>
    cases r with
    |box _ _=>simp[aD]at h
    |cj _ _ _ _ _ _=>simp[aD]at h
    |arr bW s e es dm=>
     simp[aD]at h
     obtain⟨hle,rfl,rfl⟩:=h
     obtain⟨da,ag,ar,_⟩:=Nv (eN id _ aD) (S':=cr S og [id]) (λb=>cr.left) (λg aB=>.inr ⟨id,bb,aB⟩) cq
     rw[bP]at ag
     simp only[ej,gU]at ag
     obtain⟨rfl,rfl⟩:=ag
     obtain⟨qm,c',he,iD,jN⟩:=Nt ar cq (l:=lo) (hh:=lo+n) al hle
     grind
  |fn _ f cs vs ay hh=>
   simp only[cB]at h
   cases au:dp (cB rows n) cs with
   |none=>simp[au]at h
   |some p=>
    simp[au]at h
    obtain⟨rfl,rfl⟩:=h
    have:=eD cs p vs au ⟨ay,hh⟩
    exact .fn _ f p.1 vs this.1 this.2
end pur
theorem AV.force_eq{α:Type}(v:AV):∀k:AV->α,v.force k=k v:=by
 induction v using AV.rec (motive_2:=λcs=>∀k:List AV->α,AV.qd cs k=k cs)with
 |nil=>rfl
 |cons c cs HT UR=>grind[AV.qd]
 |_=>grind[AV.force]
def AV.Mg{α:Type}:∀(cs:List AV)(k:List AV->α),AV.qd cs k=k cs
 |[],k=>by simp[AV.qd]
 |c::cs,k=>by simp[AV.qd,AV.force_eq,AV.Mg cs]
def Mh{α:Type}:∀(rows:List (Nat×Row))(k:List (Nat×Row)->α),Bp rows k=k rows
 |[],k=>by simp[Bp]
 |(i,.box im cs)::rest,k=>SR
 |(i,.arr im s e es sp)::rest,k=>by simp[Bp,Row.force,Mh rest]
 |(i,.cj im s e pre cs post)::rest,k=>SR
def US{α:Type}:∀(l:List Nat)(k:List Nat->α),DZ l k=k l
 |[],k=>by simp[DZ]
 |i::l,k=>by simp[DZ,US l]
theorem bC.force_eq{α:Type}(st:bC)(k:bC->α):st.force k=k st:=by simp[bC.force,AV.Mg,Mh,US]
theorem px(rows:List (Nat×Row))(id:Nat)(r:Row)(i:Nat):lookup (setRow rows id r) i=if i=id then some r else lookup rows i:=by
 induction rows with
 |nil=>simp_all[setRow,lookup,eq_comm]
 |cons x rest ih=>
  obtain⟨j,x⟩:=x;simp only[setRow];by_cases aP:j=id
  .simp_all[lookup,eq_comm]
  .simp only[c0 aP,lookup,ih];grind
theorem y7(rows:List (Nat×Row))(id i:Nat):lookup (mn rows id) i=if i=id then none else lookup rows i:=by
 induction rows with
 |nil=>simp[mn,lookup]
 |cons x rest ih=>
  obtain⟨j,x⟩:=x;simp only[mn];by_cases aP:j=id
  .subst aP;simp only[dE,ih,lookup];grind
  .simp only[c0 aP,lookup,ih];grind
theorem yU(ids:List Nat)(rows:List (Nat×Row))(i:Nat):lookup (il ids rows) i=(lookup rows i).map λr=>if ids.contains i then r.freeze else r:=by
 induction rows with
 |nil=>simp[il,lookup]
 |cons x rest ih=>grind[il,lookup]
end Go.Ev
namespace Go
def l7(R:Option Nat):Fence:={fn:=λ_=>True,depth:=none,alive:=false,round:=R}
def Oper.cX(R:Option Nat)(P:Program)(o:Oper)(a:Act)(w:World)(K:Act->World->Prop)(Q:Exit->Act->World->Prop):Prop:=o.wpIn (l7 R) 0 P a w K Q
def Code.cX(R:Option Nat)(P:Program)(c:Code)(Q:Exit->Act->World->Prop)(a:Act)(w:World):Prop:=c.wpIn (l7 R) 0 P Q a w
end Go
namespace Go.Ev
open Go.RowKit
variable{t:TypeId}{x:Operand}{w:World}{β:cD}{S:Nat->Prop}{cs:List AV}{k:IntKind}{n:Int}{e:TypeId}{s:Sh}{v:AV}{u:Value}{rowsV:List (Nat×Row)}{i:Operand}{B:Ctx}{w':World}{es:List AV}{og:Nat->Option Nat}{st:bC}{ids:List Nat}{tm:List AV}{b:Bool}{z:Operand}{lo hi:Option Operand}{S':Nat->Prop}{R:Option Nat}{xs:List Value}
theorem VRels.set{vs:List Value}(h:VRels w S β cs vs)(d:Nat)(ar:VRel w S β v u):VRels w S β (cs.set d v) (vs.set d u):=by
 refine⟨y5,λj c x aa ak=>?_⟩;rw[List.getElem?_set]at aa ak;by_cases aX:d=j
 .grind
 .rw[c0 aX]at aa ak;exact h.2 j c x aa ak
structure Out(w0:World)(bh:Nat->Prop)(B:Ctx)(w:World)(S:Nat->Prop):Prop where
 gL:oZ B w0 w
 sin:∀b,S b->bh b\/¬B b
 sub:∀b,bh b->S b
def eX(w0:World)(bh:Nat->Prop)(B:Ctx)(st:bC)(a:Act)(w:World):Prop:=∃S β og,Rel w S B β og st a/\Out w0 bh B w S
theorem Act.UT(a:Act)(dst:Option Tmp)(u:Value):(a.put dst u).tmps.toList=(match dst with|some d=>a.tmps.toList.set d u|none=>a.tmps.toList):=by grind[Act.put]
def Act.put_defers(a:Act)(dst:Option Tmp)(u:Value):(a.put dst u).defers=a.defers:=by cases dst<;>rfl
def HO{a:Act}(h:VRels w S β tm a.tmps.toList)(dst:Option Tmp)(ar:VRel w S β v u):
  VRels w S β (hl tm dst v) (a.put dst u).tmps.toList:=by
 rw[Act.UT]
 cases dst with
 |none=>exact h
 |some d=>exact h.set d ar
theorem Rel.put{a:Act}(h:Rel w S B β og st a)(dst:Option Tmp)(ar:VRel w S β v u):
  Rel w S B β og ⟨hl st.tm dst v,st.rows,st.used⟩ (a.put dst u):=
 ⟨HO h.tm dst ar,Mf,h.row,h.inj,h.lt,h.used,h.one,h.dF,h.dZ,h.pid⟩
theorem eb.gJ{B:Nat->Prop}{bD:cD}{id:Nat}{og:Option Nat}{r:Row}(h:eb w S B β id og r)
  (gK:∀id x,β id=some x->bD id=some x)(cu:∀b,S b->S' b)(vG:∀g,og=some g->S' g->S g)(hw:∀b,S b->w'.heap[b]?=w.heap[b]?)
  (dQ:∀g,og=some g->w'.heap[g]?=w.heap[g]?):eb w' S' B bD id og r:=by
 cases r with
 |box bW cs=>
  obtain⟨g,vs,t,aw,ag,hh,ar,hi,aP,dy⟩:=h
  exact⟨g,vs,t,aw,gK _ _ ag,hh.gJ (dQ g aw),ar.mono cu hw gK,λe an=>hi e (vG g aw an),λe=>cu _ (aP e),dy⟩
 |arr bW s e es dm=>
  obtain⟨au,v,sp,xs,dd,gh,ag,af,ar,e2⟩:=h
  refine⟨au,v,sp,xs,dd,gh,gK _ _ ag,af,ar.mono cu hw (λ_ _ h=>h),?_⟩
  rcases e2 with⟨he,an,aw,A,bq⟩|⟨g,bj,aw,fo,dy,hh,hm,hi,aP⟩
  .grind
  .exact .inr ⟨g,bj,aw,fo,dy,hh.gJ (dQ g aw),hm,λe an=>hi e (vG g aw an),λe=>cu _ (aP e)⟩
 |cj bW s e pre cs post=>
  obtain⟨au,di,g,bj,sp,xs,us,cm,af,ao,aw,ag,a1,iE,hR,jr,dy,hh,hm,hi,aP⟩:=h
  exact⟨au,di,g,bj,sp,xs,us,cm,af,ao,aw,gK _ _ ag,a1,iE.mono cu hw (λ_ _ h=>h),hR.mono cu hw gK,jr.mono cu hw (λ_ _ h=>h),dy,hh.gJ (dQ g aw),hm,λe an=>hi e (vG g aw an),λe=>cu _ (aP e)⟩
def Rel.grow{a:Act}(h:Rel w S B β og st a)(ag:Below w.heap.size w w')
  (cu:∀b,S b->S' b)(vG:∀b,b<w.heap.size->S' b->S b)(aL:∀b,S' b->b<w'.heap.size):Rel w' S' B β og st a:=by
 have hw:∀b,S b->w'.heap[b]?=w.heap[b]?:=λb an=>ag.block b (h.dF b an)
 exact⟨h.tm.mono cu hw (λ_ _ h=>h),h.df,λid r aD=>(h.row id r aD).gJ (λ_ _ h=>h) cu (λg aB=>vG g (h.lt id g aB)) hw (λg aB=>ag.block g (h.lt id g aB)),h.inj,λid g aB=>jK (h.lt id g aB) ag.size,h.used,h.one,aL,λb cp=>jK (h.dZ b cp) ag.size,h.pid⟩
def fK{α:Type}(f:Nat->Option α)(id:Nat)(x:Option α):Nat->Option α:=λi=>if i=id then x else f i
theorem cV{α:Type}(f:Nat->Option α)(id:Nat)(x:Option α):fK f id x id=x:=by simp[fK]
theorem fl{α:Type}(f:Nat->Option α)(id i:Nat)(x:Option α)(h:i≠id):fK f id x i=f i:=by simp[fK,h]
def lN(site:Nat)(used:List Nat):Prop:=site∉used/\site<aE
def r8{site:Nat}{e:dx}{used:List Nat}{r:Row}(aJ:e.new=some r)(h:gX site e used=true):lN site used:=by simp only[gX,aJ,ba,jZ]at h;obtain⟨⟨af,ao⟩,_⟩:=h;exact⟨s5,sV▸ao⟩
theorem H9{site:Nat}{y:Option (Value×Nat)}(h:∀id x,aE<=id->β id=some x->B.kH id=some x)(an:site<aE):∀id x,aE<=id->fK β site y id=some x->B.kH id=some x:=by grind[fl]
theorem Rel.new{a:Act}(h:Rel w S B β og st a)(site:Nat)(aR:lN site st.used)(dst:Option Tmp)
  {r:Row}{x:Value}{wd:Nat}{o:Option Nat}(ag:Below w.heap.size w w')(cu:∀b,S b->S' b)(vG:∀b,b<w.heap.size->S' b->S b)(aL:∀b,S' b->b<w'.heap.size)
  (ak:x.oneCell'=true)(aw:∀g,o=some g->w.heap.size<=g/\g<w'.heap.size)
  (eN:eb w' S' B (fK β site (some (x,wd))) site o r)(ar:VRel w' S' (fK β site (some (x,wd))) v u):
  Rel w' S' B (fK β site (some (x,wd))) (fK og site o) ⟨hl st.tm dst v,setRow st.rows site r,site::st.used⟩ (a.put dst u):=by
 have gK:∀id y,β id=some y->fK β site (some (x,wd)) id=some y:=λid y aN=>by have bO:id≠site:=λe=>aR.1 (by rw[<-e];exact h.used id y aN);grind[fl]
 have hw:∀b,S b->w'.heap[b]?=w.heap[b]?:=λb an=>ag.block b (h.dF b an)
 refine⟨HO (h.tm.mono cu hw gK) dst ar,Mf,λid y aN=>?_,λid eg g aB dK=>?_,λid g aB=>?_,λid y aN=>?_,λid y aN=>?_,aL,λb cp=>jK (h.dZ b cp) ag.size,H9 h.pid aR.2⟩
 .rw[px]at aN;by_cases e:id=site
  .simp_all[cV]
  .rw[c0 e]at aN;rw[fl _ _ _ _ e];exact(h.row id y aN).gJ gK cu (λg aB=>vG g (h.lt id g aB)) hw (λg aB=>ag.block g (h.lt id g aB))
 .by_cases e:id=site<;>by_cases e':eg=site
  .rw[e,e']
  .subst e;rw[cV]at aB;rw[fl _ _ _ _ e']at dK;have:=(aw g aB).1;have:=h.lt eg g dK;omega
  .subst e';rw[cV]at dK;rw[fl _ _ _ _ e]at aB;have:=(aw g dK).1;have:=h.lt id g aB;omega
  .rw[fl _ _ _ _ e]at aB;rw[fl _ _ _ _ e']at dK;exact h.inj id eg g aB dK
 .by_cases e:id=site
  .grind[cV]
  .rw[fl _ _ _ _ e]at aB;exact jK (h.lt id g aB) ag.size
 .by_cases e:id=site
  .subst e;simp
  .rw[fl _ _ _ _ e]at aN;exact oK _ (h.used id y aN)
 .by_cases e:id=site
  .grind[cV]
  .rw[fl _ _ _ _ e]at aN;exact h.one id y aN
theorem Ew(s:Sh)(v:Value):VRel w S β (p' s v) v:=by
 unfold p';split
 .exact .int _ _ _
 .exact .bool _ _
 .rename_i x;exact .str _ x.data.toList
 .split
  .exact .bf _ _ _
  .exact .J _ _
 .split
  .rename_i h;exact .nl _ _ h
  .exact .J _ _
def UU{w:World}{S:Nat->Prop}{β:cD}:∀(l:List Sh)(vs:List Value),VRels w S β (xf l vs) vs
 |_,[]=>VRels.nil
 |l,v::vs=>VRels.cons (Ew _ v) (UU l.tail vs)
def BQ(s:Sh)(v:Value):VRel w S β (oS s v) v:=by
 unfold oS;split
 .rename_i cs;split
  .rename_i h;obtain⟨l⟩:=cs;have:=UU (w:=w) (S:=S) (β:=β) s.cells l;exact .agg _ _ _ this.1 qT this.2
  .exact .J _ _
 .rename_i vs;split
  .rename_i h;have:vs= #[]:=L8 h;subst this;exact .undef _
  .exact .J _ _
 .exact Ew s _
def agc(v:Value):VRel w S β (DY v) v:=by
 unfold DY;split
 .exact .int _ _ _
 .exact .bool _ _
 .rename_i x;exact .str _ x.data.toList
 .exact .J _ _
theorem xA{tmps:Array Value}(h:VRels w S β tm tmps.toList)(n:Nat):VRel w S β (tm.getD n .J) (tmps.getD n undef):=by
 cases aa:tm[n]?with
 |none=>simp only[List.getD,aa,Option.getD_none];exact .J _ _
 |some c=>obtain⟨u,hu,ar⟩:=h.at_ aa;simp_all
def eV{a:Act}(h:VRels w S β tm a.tmps.toList)(x:Operand):VRel w S β (val tm x) (a.eval x):=by
 cases x with
 |tmp t=>exact xA h t
 |const v=>exact agc v
 |global g=>exact .J _ _
 |func f=>exact .fn _ f [] [] rfl (λj c u aa=>y2)
def iP{a:Act}(h:VRels w S β tm a.tmps.toList)(P:Program)(t:TypeId)(x:Operand):VRel w S β (cw P tm t x) (a.eval x):=by
 cases x with
 |tmp t=>exact xA h t
 |const v=>exact BQ _ v
 |global g=>exact .J _ _
 |func f=>exact .fn _ f [] [] rfl (λj c u aa=>y2)
theorem qi{w:World}{S:Nat->Prop}{β:cD}{tm:List AV}{a:Act}(h:VRels w S β tm a.tmps.toList)(P:Program):∀(ae:List TypeId)(xs:List Operand),VRels w S β (hz P tm ae xs) (xs.map a.eval)
 |_,[]=>by grind[hz,VRels.nil]
 |[],x::xs=>VRels.cons (eV h x) (qi h P [] xs)
 |t::ae,x::xs=>VRels.cons (iP h P t x) (qi h P ae xs)
theorem semAt_of{P:Program}{o:Oper}{a:Act}{s:Result Next}(aD:(execOp a.eval o).run P w=s)(aJ:∀d w',s≠ .ok (.defer d) w')(au:∀x w',s≠ .halt x w'):(o.semAt R a.eval).run P w=s:=by
 cases R with
 |none=>exact aD
 |some l=>
  by_cases aX:∃c,o.op=.defer c
  .obtain⟨c,aa⟩:=aX;exfalso;simp only[execOp,aa,iL]at aD;cases ts:(resolve a.eval c o.type).run P w with
   |ok d w'=>rw[ts]at aD;exact aJ d w' aD.symm
   |halt x w'=>rw[ts]at aD;exact au x w' aD.symm
  grind[Oper.semAt_eq]
def wp_value{P:Program}{o:Oper}{a:Act}{K:Act->World->Prop}{Q:Exit->Act->World->Prop}(aD:(execOp a.eval o).run P w=.ok (.value u) w')(h:K (a.put o.dst u) w'):o.cX R P a w K Q:=by refine⟨λ_ _=>trivial,?_⟩;rw[semAt_of aD (λ_ _ h=>cM) (λ_ _ h=>cM)];exact h
def wp_skip'{P:Program}{o:Oper}{a:Act}{K:Act->World->Prop}{Q:Exit->Act->World->Prop}(aD:(execOp a.eval o).run P w=.ok .skip w')(h:K (a.put o.dst undef) w'):o.cX R P a w K Q:=by refine⟨λ_ _=>trivial,?_⟩;rw[semAt_of aD (λ_ _ h=>cM) (λ_ _ h=>cM)];exact h
section ops
variable{R:Option Nat}{aj:Type}{P:Program}{w0 w:World}{bh S:Nat->Prop}{B:Ctx}{β:cD}{og:Nat->Option Nat}{st:bC}{a:Act}{o:Oper}{site:Nat}{y:dx->Option aj}{r:aj}
 {K:Act->World->Prop}{Q:Exit->Act->World->Prop}
def Good(w0:World)(bh:Nat->Prop)(B:Ctx)(site:Nat)(o:Oper)(st:bC)(y:dx->Option aj)(r:aj)(K:Act->World->Prop):Prop:=∀e cL w',y e=some r->eX w0 bh B (apply site o.dst e st) cL w'->K cL w'
def Out.grow(aY:Out w0 bh B w S)(dy:∀b,B b->b<w.heap.size)(ag:Below w.heap.size w w'):Out w0 bh B w' S:=⟨aY.gL.trans (Kept.xz ag dy),aY.sin,aY.sub⟩
def fI(ah:Rel w S B β og st a)(aY:Out w0 bh B w S)(ar:VRel w S β v u)(aN:y {v}=some r)(bg:Good w0 bh B site o st y r K)
  (bu:(execOp a.eval o).run P w=.ok (.value u) w):o.cX R P a w K Q:=
 wp_value bu (bg _ _ _ aN ⟨S,β,og,ah.put o.dst ar,aY⟩)
def r9(w:World)(x:Obj):Below w.heap.size w (w.alloc x):=(Below.refl _ _).alloc (dc _) x
theorem Ey(ah:Rel w S B β og st a)(aY:Out w0 bh B w S)(aR:lN site st.used){vs:List Value}(ar:VRels w S β cs vs)(af:∀u∈vs,u.oneCell'=true)
  (aN:y {v:=.ptr site 0,new:=some (.box false cs)}=some r)(bg:Good w0 bh B site o st y r K)
  (bu:(execOp a.eval o).run P w=.ok (.value (.pointer (some ⟨w.heap.size,0,none⟩))) (w.alloc (.cells vs.toArray t))):o.cX R P a w K Q:=by
 have ag:=r9 w (.cells vs.toArray t)
 have aL:∀b,S b->b<(w.alloc (.cells vs.toArray t)).heap.size:=λb an=>DL
 refine wp_value bu (bg _ _ _ aN ⟨S,_,_,ah.new site aR o.dst ag (λ_ h=>h) (λ_ _ h=>h) aL (x:=.pointer (some ⟨w.heap.size,0,none⟩)) (wd:=1) (o:=some w.heap.size) rfl
  (λg aB=>w2) ?_ (.ptr _ site 0 w.heap.size 1 (cV _ _ _)),aY.grow ah.dZ ag⟩)
 refine⟨w.heap.size,vs,_,rfl,cV _ _ _,.inl ⟨⟨t,LR w _⟩,rfl,af⟩,?_,λ_ an=>absurd (ah.dF _ an) (mK _),(λh=>cM),λdy=>mK _ (ah.dZ _ dy)⟩
 refine ar.mono (λ_ h=>h) (λb an=>ag.block b (ah.dF b an)) (λid x ak=>?_)
 have bO:id≠site:=λe=>aR.1 (by rw[<-e];exact ah.used id x ak)
 grind[fl]
def VRel.oP{v:Value}(h:VRel w S β (.bool b) v):v=.bool b:=y0
def VRel.eT{v:Value}(h:VRel w S β (.int k n) v):v=.int k n:=y0
def VRel.hO{s:List UInt8}{v:Value}(h:VRel w S β (.str s) v):v=.string ⟨s.toArray⟩:=y0
theorem Ez(ah:Rel w S B β og st a)(aY:Out w0 bh B w S)(aw:o.op=.move x\/o.op=.assign x)(aN:y {v:=cw P st.tm o.type x}=some r)(bg:Good w0 bh B site o st y r K):o.cX R P a w K Q:=fI ah aY (iP ah.tm P o.type x) aN bg (by rcases aw with h|h<;>simp[execOp,h])
theorem Nw(ah:Rel w S B β og st a)(aY:Out w0 bh B w S){c:Operand}{t:Bool}(aw:o.op=.pick c x z)(aa:val st.tm c=.bool t)
  (aN:y {v:=cw P st.tm o.type (if t then x else z)}=some r)(bg:Good w0 bh B site o st y r K):o.cX R P a w K Q:=by
 have h:=eV ah.tm c
 rw[aa]at h
 refine fI ah aY (iP ah.tm P o.type _) aN bg ?_
 simp only[execOp,aw,h.oP,asBool]
 cases t<;>simp
theorem H'(h:q3 P t=some cs):∃i v,P.info? t=some i/\i.zero=some v/\(oS (shOf P depth t) v).laidB=true/\cs=(oS (shOf P depth t) v).cells:=by grind[q3]
theorem Nx(ah:Rel w S B β og st a)(aY:Out w0 bh B w S)(aR:lN site st.used)(aw:o.op=.alloc t)(bp:q3 P t=some cs)
  (aN:y {v:=.ptr site 0,new:=some (.box false cs)}=some r)(bg:Good w0 bh B site o st y r K):o.cX R P a w K Q:=by
 obtain⟨i,v,hi,ar,ay,rfl⟩:=H' bp
 obtain⟨us,aa,b6,af⟩:=(BQ (w:=w) (S:=S) (β:=β) (shOf P depth t) v).laid ay ah.one
 refine Ey ah aY aR (t:=t) b6 af aN bg ?_
 simp_all[execOp,Instr.alloc,zeroValue,typeInfo,newVar,newRow]
theorem Ny(ah:Rel w S B β og st a)(aY:Out w0 bh B w S)(aR:lN site st.used)(aw:o.op=.box t x)(ay:(cw P st.tm t x).laidB=true)
  (aN:y {v:=.ptr site 0,new:=some (.box false (cw P st.tm t x).cells)}=some r)(bg:Good w0 bh B site o st y r K):o.cX R P a w K Q:=by
 obtain⟨us,aa,b6,af⟩:=(iP ah.tm P t x).laid ay ah.one
 refine Ey ah aY aR (t:=t) b6 af aN bg ?_
 simp_all[execOp,Instr.box,newVar,newRow]
theorem Nz(ah:Rel w S B β og st a)(aY:Out w0 bh B w S){i:Nat}{vs:List AV}(aw:o.op=.extract x i)(ak:val st.tm x=.tup vs)(ar:vs[i]?=some v)
  (aN:y {v}=some r)(bg:Good w0 bh B site o st y r K):o.cX R P a w K Q:=by
 have h:=eV ah.tm x
 rw[ak]at h
 generalize hu:a.eval x=u at h
 cases h with
 |tup _ _ us ay hh=>
  obtain⟨u,pF,jt⟩:=VRels.at_ (cs:=vs) (vs:=us) ⟨ay,hh⟩ ar
  refine fI ah aY jt aN bg ?_
  simp_all[execOp,Instr.extract]
theorem NA(ah:Rel w S B β og st a)(aY:Out w0 bh B w S)(aw:o.op=.nilCheck x)(ak:val st.tm x=v)
  (ai:(∃id off,v=.ptr id off)\/(∃id i off,v=.eptr id i off)\/(∃cs,v=.ref cs)\/(∃s es i off,v=.hP s es i off)\/(∃f cs,v=.fn f cs))
  (aN:y {v}=some r)(bg:Good w0 bh B site o st y r K):o.cX R P a w K Q:=by
 have h:=eV ah.tm x
 rw[ak]at h
 refine fI ah aY h aN bg ?_
 have aD:(∃ad,a.eval x=.pointer (some ad))\/∃f cs,a.eval x=.func (.func f) #[] cs:=by
  generalize a.eval x=u at h;rcases ai with⟨id,off,rfl⟩|⟨id,i,off,rfl⟩|⟨cs,rfl⟩|⟨s,es,i,off,rfl⟩|⟨f,cs,rfl⟩
  .exact HA
  .exact HA
  .exact HA
  .exact HA
  .cases h;grind
 rcases aD with⟨ad,he⟩|⟨f,cs,he⟩<;>simp[execOp,aw,he]
theorem NB(ah:Rel w S B β og st a)(aY:Out w0 bh B w S){f:Nat}{first captured:Array Operand}(aw:o.op=.makeFunc (.func f) first captured)(aR:first.size=0)
  (aN:y {v:=.fn f (captured.toList.map (val st.tm))}=some r)(bg:Good w0 bh B site o st y r K):o.cX R P a w K Q:=by
 have ly:first= #[]:=L8 aR
 subst ly
 refine fI (u:=.func (.func f) #[] (captured.toList.map a.eval).toArray) ah aY (.fn _ f _ _ bb λj c u aa hu=>?_) aN bg ?_
 .simp only[k0]at aa hu;cases aP:captured.toList[j]?with
  |none=>simp[aP]at aa
  |some x=>simp[aP]at aa hu;subst aa;subst hu;exact eV ah.tm x
 .have hm:captured.map a.eval=(captured.toList.map a.eval).toArray:=ml;simp[execOp,aw,Instr.makeFunc,hm]
theorem Ia{f:Nat}{dB:Field}(h:fieldOf P t f=some dB):∃aC,P.underlying t=some (.struct aC)/\aC[f]?=some dB:=by grind[fieldOf]
def xB(h:P.cellsOf t≠0):∃i,P.info? t=some i/\i.size=P.cellsOf t:=by
 unfold Program.cellsOf at h⊢;cases hi:P.info? t with
 |none=>simp[hi]at h
 |some i=>exact⟨i,rfl,bb⟩
theorem BY(ah:Rel w S B β og st a)(aY:Out w0 bh B w S){f:Nat}{dB:Field}(aw:o.op=.fieldAddr t x f)(fU:fieldOf P t f=some dB)(bp:P.cellsOf dB.type≠0){da:AV}(ak:val st.tm x=v)
  (ai:(∃id off,v=.ptr id off/\da=.ptr id (off+dB.offset))\/(∃id i off,v=.eptr id i off/\da=.eptr id i (off+dB.offset))\/(∃cs,v=.ref cs/\da=.ref (cs.drop dB.offset))\/
   (∃s es i off,v=.hP s es i off/\da=.hP s es i (off+dB.offset)))
  (aN:y {v:=da}=some r)(bg:Good w0 bh B site o st y r K):o.cX R P a w K Q:=by
 obtain⟨aC,nC,aR⟩:=Ia fU
 obtain⟨i,hi,cx⟩:=xB bp
 have h:=eV ah.tm x
 rw[ak]at h
 have aD:∃ad,a.eval x=.pointer (some ad)/\VRel w S β da (.pointer (some (ad.add dB.offset))):=by
  generalize a.eval x=u at h;rcases ai with⟨id,off,rfl,rfl⟩|⟨id,i,off,rfl,rfl⟩|⟨cs,rfl,rfl⟩|⟨s,es,i,off,rfl,rfl⟩
  .cases h with
   |ptr _ _ _ g wd ag=>exact⟨_,rfl,by rw[hd];exact .ptr _ id _ g wd ag⟩
  .cases h with
   |eptr _ _ _ _ g n c wd o ag=>exact⟨_,rfl,by rw[hd,uf,uf];exact .eptr _ id i _ g n c wd o ag⟩
  .cases h with
   |ref _ _ ad xs iC ay af gz hh=>have aX:=(VRels.drop (cs:=cs) (vs:=xs) ⟨ay,hh⟩ dB.offset);refine⟨_,rfl,.ref _ _ _ (xs.drop dB.offset) Ms aX.1 (λu hu=>af u (jx hu)) (λj u hu=>?_) aX.2⟩;grind[add_add]
  .cases h with
   |hP _ _ _ _ _ ad xs hi an iC ay af gz hh=>refine⟨_,rfl,?_⟩;rw[add_add,uf];exact .hP _ s es i _ ad xs hi an iC ay af gz hh
 obtain⟨ad,he,ar⟩:=aD
 refine fI ah aY ar aN bg ?_
 simp_all[execOp,Instr.fieldAt,cA,Instr.sureAddr,fieldPlace,sizeOf,typeInfo]
theorem pC{d:TypeDesc}(h:P.underlying t=some d)(w:World):(isAgg t).run P w=.ok (isAggT P t) w:=by unfold isAgg isAggT;simp only[iL,cA h,jX,h];cases d<;>rfl
theorem EA(h:isAggT P t=true):∃d,P.underlying t=some d:=by grind[isAggT]
theorem zt{d:TypeDesc}(h:P.underlying t=some d):∃i,P.info? t=some i/\i.size=P.cellsOf t:=by grind[Program.underlying,Program.cellsOf]
theorem UW(w:World)(ad:Addr)(xs:List Value)(n:Nat)(aJ:n<=xs.length)(ak:∀(j:Nat)(u:Value),xs[j]?=some u->w.cell? (ad.add j)=some u):
  (loadCells ad n).run P w=.ok (xs.take n).toArray w:=by
 have ay:(xs.take n).length=n:=lu
 grind[run_loadCells_list]
theorem UX{z:AV->Option aj}(h:lJ P t cs z=some r){ad:Addr}(ar:VRels w S β cs xs)(af:∀u∈xs,u.oneCell'=true)
  (ak:∀(j:Nat)(u:Value),xs[j]?=some u->w.cell? (ad.add j)=some u):∃v u,z v=some r/\VRel w S β v u/\(loadVar t ad).run P w=.ok u w:=by
 unfold lJ at h
 split at h
 .rename_i NC;split at h
  .rename_i hle;have p8:P.cellsOf t<=cs.length:=kA hle;obtain⟨d,aX⟩:=EA NC;obtain⟨i,hi,cx⟩:=zt aX;have aQ:=ar.take (P.cellsOf t);refine⟨_,_,h,.agg _ _ _ aQ.1 (λu hu=>af u (lr hu)) aQ.2,?_⟩;simp[loadVar,pC aX,NC,sizeOf,typeInfo,hi,cx,UW w ad xs _ (by rw[ar.1];exact p8) ak]
  .cases h
 .rename_i NC;split at h
  .rename_i an;obtain⟨d,aX⟩:=mj.1 an;split at h
   .rename_i c _;obtain⟨u,xs',rfl,hu,_⟩:=ar.inv;refine⟨c,u,h,hu,?_⟩;have:=ak 0 u rfl;simp_all[Addr.add,loadVar,pC]
   .cases h
  .cases h
theorem zu(ah:Rel w S B β og st a)(aY:Out w0 bh B w S)(aw:o.op=.load t x){ad:Addr}(ak:a.eval x=.pointer (some ad))
  (ar:VRels w S β cs xs)(af:∀u∈xs,u.oneCell'=true)(aa:∀(j:Nat)(u:Value),xs[j]?=some u->w.cell? (ad.add j)=some u)
  (h:lJ P t cs (λv=>y {v})=some r)(bg:Good w0 bh B site o st y r K):o.cX R P a w K Q:=by
 obtain⟨v,u,aN,jt,bu⟩:=UX (P:=P) h ar af aa
 refine fI ah aY jt aN bg ?_
 simp_all[execOp,Instr.loadAt,Instr.sureAddr]
theorem Nh(h:fE s v=true)(ar:VRel w S β v u):VRel w S β (DX s v) u:=by
 cases s with
 |int k=>cases v<;>simp[fE]at h;subst h;exact ar
 |bool=>cases v<;>simp[fE]at h;exact ar
 |str=>cases v<;>simp[fE]at h;exact ar
 |slice s=>
  cases v<;>simp[fE]at h
  .rw[Sh.beq_eq _ _ h];exact ar
  .cases ar with
   |bf _ _ A=>exact .ab _ s [] A 0 default [] bb bb gn (λh=>absurd rfl h) vv bb bb bb
 |agg l=>grind[fE]
 |other=>cases v<;>simp[fE]at h<;>exact ar
def BR:∀(l:List Sh)(cs:List AV)(us:List Value),gg l cs=true->VRels w S β cs us->VRels w S β (Bk l cs) us
 |[],[],us,_,ar=>by rw[ar.gf];exact VRels.nil
 |[],_::_,_,h,_=>Hh
 |_::_,[],_,h,_=>Hh
 |s::l,c::cs,us,h,ar=>by simp[gg]at h;obtain⟨u,lb,rfl,hu,an⟩:=ar.inv;exact VRels.cons (Nh h.1 hu) (BR l cs lb h.2 an)
theorem Ib{ad:Addr}{i off:Nat}(an:∀e∈es,cb s e=true)(hi:i<es.length)(ar:VRels w S β (flat es) xs)(af:∀u∈xs,u.oneCell'=true)
  (ak:∀(j:Nat)(u:Value),xs[j]?=some u->w.cell? (ad.add j)=some u):∃cm:List Value,VRels w S β ((hj s (es.getD i .J)).drop off) cm/\(∀u∈cm,u.oneCell'=true)/\
   ∀(j:Nat)(u:Value),cm[j]?=some u->w.cell? ((ad.add (i*s.width+off)).add j)=some u:=by
 have he:es[i]?=some es[i]:=fC hi
 have sc:es.getD i .J=es[i]:=by simp[he]
 have dd:cb s es[i]=true:=an _ (p3 hi)
 have di:=H6 es i es[i] an he
 have fo:=(ar.drop (i*s.width)).take s.width
 rw[di]at fo
 have aH:=(BR _ _ _ (Er s _ dd) fo).drop off
 refine⟨_,by rw[sc];exact aH,λu hu=>af u (jx (lr (jx hu))),λj u hu=>?_⟩
 grind[add_add]
theorem agd{j5:Nat->Prop}{id:Nat}{dO:Option Nat}{im:Bool}{pre post:List AV}(h:eb w S j5 β id dO (.cj im s e pre cs post)):∃g dM n c,β id=some (.slice (some ⟨g,dM,none⟩) n c,s.width)/\
  (∀off,∃dL:List Value,VRels w S β (cs.drop off) dL/\(∀u∈dL,u.oneCell'=true)/\∀(j:Nat)(u:Value),dL[j]?=some u->w.cell? ((⟨g,dM+(pre.length*s.width+off),none⟩:Addr).add j)=some u)/\
  (∀i off,i<pre.length->∃dL:List Value,VRels w S β ((hj s (pre.getD i .J)).drop off) dL/\(∀u∈dL,u.oneCell'=true)/\∀(j:Nat)(u:Value),dL[j]?=some u->w.cell? ((⟨g,dM+(i*s.width+off),none⟩:Addr).add j)=some u)/\
  (∀i off,i<post.length->∃dL:List Value,VRels w S β ((hj s (post.getD i .J)).drop off) dL/\(∀u∈dL,u.oneCell'=true)/\∀(j:Nat)(u:Value),dL[j]?=some u->w.cell? ((⟨g,dM+((pre.length+1+i)*s.width+off),none⟩:Addr).add j)=some u):=by
 obtain⟨dJ,di,g,bj,sp,xs,us,cm,lM,j8,dQ,ag,af,iE,hR,jr,dy,hh,hm,_⟩:=h
 have zv:xs.length=pre.length*s.width:=iE.1.trans (lZ pre lM)
 have age:us.length=s.width:=hR.1.trans di
 have agf:∀(j:Nat)(u:Value),xs[j]?=some u->w.cell? ((⟨g,bj.length,none⟩:Addr).add j)=some u:=λj u hu=>by rw[hd,sb hh,behind];grind
 have avC:∀(j:Nat)(u:Value),us[j]?=some u->w.cell? ⟨g,bj.length+(pre.length*s.width+j),none⟩=some u:=λj u hu=>by rw[sb hh,behind,Bi al,zv,A6,GA (oN.1 hu).1];exact hu
 have agh:∀(j:Nat)(u:Value),cm[j]?=some u->w.cell? ((⟨g,bj.length+(pre.length+1)*s.width,none⟩:Addr).add j)=some u:=λj u hu=>by rw[hd,sb hh,uf,behind,kB,Bg,Bi al,zv,Bi al,age];grind
 have mono:∀{c:List AV}{v:List Value},VRels w S cq c v->VRels w S β c v:=λh=>h.mono (λ_ h=>h) (λ_ _=>rfl) (λ_ _ h=>cM)
 refine⟨g,_,_,_,ag,λoff=>⟨us.drop off,hR.drop off,λu hu=>af u bM,λj u hu=>?_⟩,λi off hi=>?_,λi off hi=>?_⟩
 .grind[hd,Nat.add_assoc]
 .obtain⟨dL,dV,z2,z3⟩:=Ib (off:=off) lM hi (mono iE) (λu hu=>af u (by simp[hu])) agf;grind[hd]
 .have eC:i<(post++sp).length:=bM;obtain⟨dL,dV,z2,z3⟩:=Ib (off:=off) j8 eC (mono jr) (λu hu=>af u (by simp[hu])) agh;grind[hd,Nat.add_assoc,Nat.add_mul,List.getD,List.getElem?_append_left]
theorem ND(ah:Rel w S B β og st a)(aY:Out w0 bh B w S)(cN:∀id x,lookup rowsV id=some x->lookup st.rows id=some x)(aw:o.op=.load t x)
  {aq:Env}(h:b7 P aq site o st.tm rowsV y=some r)(bg:Good w0 bh B site o st y r K):o.cX R P a w K Q:=by
 have ar:=eV ah.tm x
 simp only[b7,aw]at h
 split at h
 .rename_i id off ak;rw[ak]at ar;split at h
  .rename_i im cs ay;obtain⟨g,vs,v0,dQ,ag,ep,b6,_⟩:=ah.row id _ (cN _ _ ay);generalize he:a.eval x=u at ar;cases ar with
   |ptr _ _ _ fm wd cp=>rw[ag]at cp;simp only[ej,gU]at cp;obtain⟨tq,⟨b',hh⟩,af⟩:=ep.ptr cp.1;subst tq;refine zu ah aY aw he (b6.drop off) (λu hu=>af u (jx hu)) (λj u hu=>?_) h bg;rw[hd,sb (jQ.plain hh (m:=true))];simpa using hu
  .cases h
 .rename_i cs ak;rw[ak]at ar;generalize he:a.eval x=u at ar;cases ar with
  |ref _ _ ad xs iC ay af gz hh=>exact zu ah aY aw he (VRels.mono (β:=cq) (w:=w) (S:=S) ⟨ay,hh⟩ (λ_ h=>h) (λ_ _=>rfl) (λ_ _ h=>cM)) af gz h bg
 .rename_i s es i off ak;rw[ak]at ar;generalize he:a.eval x=u at ar;cases ar with
  |hP _ _ _ _ _ ad xs hi an iC ay af gz hh=>obtain⟨cm,agi,kM,aa⟩:=Ib (off:=off) an hi (VRels.mono (β:=cq) (bD:=β) (w:=w) (S:=S) ⟨ay,hh⟩ (λ_ h=>h) (λ_ _=>rfl) (λ_ _ h=>cM)) af gz;grind[zu]
 .rename_i id i off ak;rw[ak]at ar;split at h
  .rename_i im s e es dm ay;generalize ag:decide (i<es.length)=b at h;cases b with
   |false=>cases h
   |true=>
    have hi:i<es.length:=bH ag;simp only[b4]at h;obtain⟨au,dd,v,xs,ag,af,b6,e2⟩:=(ah.row id _ (cN _ _ ay)).Et;generalize he:a.eval x=u at ar;cases ar with
    |eptr _ _ _ _ g n c wd dM cp=>
     rw[ag]at cp;simp only[ej,gU]at cp;obtain⟨rfl,rfl⟩:=cp;rcases e2 with⟨pH,_⟩|⟨fm,cap,UO,cur,dQ,fo,_,hh,_,_,_,BZ,_⟩
     .subst pH;simp at hi
     .simp at fo;obtain⟨⟨rfl,rfl⟩,_,_⟩:=fo;have o0:∀(j:Nat)(u:Value),xs[j]?=some u->w.cell? ((⟨g,dM,none⟩:Addr).add j)=some u:=by grind[hd,sb]
      obtain⟨cm,agi,kM,aa⟩:=Ib (off:=off) dd hi (VRels.mono (β:=cq) (bD:=β) (w:=w) (S:=S) b6 (λ_ h=>h) (λ_ _=>rfl) (λ_ _ h=>cM)) af o0;grind[hd,zu]
  .rename_i im s e pre cs post ay;obtain⟨g,dM,n,c,ag,f1,f2,f3⟩:=agd (ah.row id _ (cN _ _ ay));generalize he:a.eval x=u at ar;cases ar with
   |eptr _ _ _ _ fm k' c' wd UO cp=>
    rw[ag]at cp;simp only[ej,gU,vn,DH]at cp;obtain⟨⟨⟨rfl,rfl,_⟩,_⟩,rfl⟩:=cp;by_cases aU:i=pre.length
    .subst aU;rw[aS rfl]at h;obtain⟨dL,dV,z2,z3⟩:=f1 off;grind[zu]
    .rw[cZ aU,cU]at h;split at h
     .cases h
     by_cases bc:i<pre.length
     .rw[aS bc]at h;obtain⟨dL,dV,z2,z3⟩:=f2 i off bc;grind[zu]
     .rw[cZ bc,cU]at h;by_cases bw:i-(pre.length+1)<post.length
      .rw[aS bw]at h;obtain⟨dL,dV,z2,z3⟩:=f3 (i-(pre.length+1)) off bw;grind[zu]
      grind
  .cases h
 .cases h
end ops
section ops
variable{R:Option Nat}{aj:Type}{P:Program}{w0 w:World}{bh S:Nat->Prop}{B:Ctx}{β:cD}{og:Nat->Option Nat}{st:bC}{a:Act}{o:Oper}{site:Nat}{y:dx->Option aj}{r:aj}
 {K:Act->World->Prop}{Q:Exit->Act->World->Prop}
theorem e7{x:Option aj}(h:(bif b then x else none)=some r):b=true/\x=some r:=by cases b<;>simp_all
theorem Ic{x:Option aj}(h:(bif b then none else x)=some r):b=false/\x=some r:=by cases b<;>simp_all
theorem toList_mk(l:List UInt8):(ByteArray.mk l.toArray).toList=l:=by rw[ByteArray.toList_eq]
theorem Nc:∀(aC:List Field)(n:Nat)(cs ds:List AV)(xs cm:Array Value)(b:Bool),s7 P aC n cs ds=some b->
  (∀(j:Nat)(c:AV),cs[j]?=some c->∃u,xs[n+j]?=some u/\VRel w S β c u)->(∀(j:Nat)(c:AV),ds[j]?=some c->∃u,cm[n+j]?=some u/\VRel w S β c u)->∀d:Nat,(Op.eqFields (d+1) xs cm aC).run P w=.ok b w
 |[],n,[],[],xs,cm,b,h,_,_,d=>by simp_all[s7,Op.eqFields]
 |[],n,_::_,_,xs,cm,b,h,_,_,d=>Hi
 |[],n,[],_::_,xs,cm,b,h,_,_,d=>Hi
 |f::aC,n,[],_,xs,cm,b,h,_,_,d=>Hi
 |f::aC,n,c::cs,[],xs,cm,b,h,_,_,d=>Hi
 |f::aC,n,c::cs,e::ds,xs,cm,b,h,ak,aN,d=>by
  obtain⟨u,hu,NF⟩:=ak 0 c rfl;obtain⟨rb,pF,NG⟩:=aN 0 e rfl;rw[lX]at hu pF;have ih:=λkE cp=>Nc aC (n+1) cs ds xs cm kE cp (λj c aa=>by have:=ak (j+1) c wY;grind)
   (λj c aa=>by have:=aN (j+1) c wY;grind) d
  simp only[s7]at h;split at h
  .rename_i sd;simp only[ba,yI,ne_eq,h0]at sd;obtain⟨aJ,avD⟩:=sd;have key:∀(vO:TypeDesc),P.underlying f.type=some vO->isAggT P f.type=false->∀eO:Bool,(Op.equalIn (d+1) f.type u rb).run P w=.ok eO w->∀eW,s7 P aC (n+1) cs ds=some eW->b=(eO&&eW)->
     (Op.eqFields (d+1) xs cm (f::aC)).run P w=.ok b w:=by simp_all[part,pC,Op.eqFields]
   split at h
   .rename_i xt k m cl mV zw;split at h
    .rename_i ai;subst ai;split at h
     .rename_i eW ao;cases h;rw[NF.eT,NG.eT]at*;grind[isAggT,run_equalIn_int]
     .cases h
    .cases h
   .rename_i m mV zw;split at h
    .rename_i eW ao;cases h;rw[NF.oP,NG.oP]at*;grind[isAggT,run_equalIn_bool']
    .cases h
   .rename_i m mV zw;split at h
    .rename_i eW ao;cases h;rw[NF.hO,NG.hO]at*;grind[run_equalIn_string,toList_mk,isAggT]
    .cases h
   .cases h
  .cases h
def VRel.mS{v:Value}(h:VRel w S β (.agg cs) v):∃vs:List Value,v=.agg vs.toArray/\VRels w S β cs vs/\∀u∈vs,u.oneCell'=true:=by
 cases h with
 |agg _ _ vs ay af hh=>exact⟨vs,rfl,⟨ay,hh⟩,af⟩
theorem UY{op:BinOp}{x z:AV}{pG:AV->Option aj}(h:evBin P op t x z pG=some r){ox oz:Operand}{rb:Value}(ak:VRel w S β x u)(bp:VRel w S β z rb):
  ∃v Ie,pG v=some r/\VRel w S β v Ie/\(do eqGuard op t ox oz u rb;binOp op t u rb).run P w=.ok Ie w:=by
 unfold evBin at h
 split at h
 .rename_i k m cl mV;rw[ak.eT,bp.eT];split at h
  .rename_i mv;unfold binShift at h;obtain⟨ag,h⟩:=Ic h;have cp:¬mV<0:=DT;exact⟨_,_,h,.int _ _ _,by simp[go_sem,Op.shift,cp]⟩
  .unfold binShift at h;obtain⟨ag,h⟩:=Ic h;have cp:¬mV<0:=DT;exact⟨_,_,h,.int _ _ _,by simp[go_sem,Op.shift,cp]⟩
  .split at h
   .rename_i ai;subst ai;unfold binInt at h;split at h
    .exact⟨_,_,h,.int _ _ _,by simp[go_sem]⟩
    .exact⟨_,_,h,.int _ _ _,by simp[go_sem]⟩
    .exact⟨_,_,h,.int _ _ _,by simp[go_sem]⟩
    .obtain⟨ag,h⟩:=Ic h;have cp:¬mV=0:=DT;exact⟨_,_,h,.int _ _ _,by simp[go_sem,cp]⟩
    .obtain⟨ag,h⟩:=Ic h;have cp:¬mV=0:=DT;exact⟨_,_,h,.int _ _ _,by simp[go_sem,cp]⟩
    .exact⟨_,_,h,.int _ _ _,by simp_all[vo,binOp_and,Op.intBits]⟩
    .exact⟨_,_,h,.int _ _ _,by simp_all[vo,binOp_or,Op.intBits]⟩
    .exact⟨_,_,h,.int _ _ _,by simp_all[vo,binOp_xor,Op.intBits]⟩
    .exact⟨_,_,h,.bool _ _,by simp_all[vo,binOp_eql]⟩
    .exact⟨_,_,h,.bool _ _,by simp_all[vo,binOp_neq]⟩
    .exact⟨_,_,h,.bool _ _,by simp_all[vo,binOp_lss]⟩
    .exact⟨_,_,h,.bool _ _,by simp_all[vo,binOp_leq]⟩
    .exact⟨_,_,h,.bool _ _,by simp_all[vo,binOp_gtr]⟩
    .exact⟨_,_,h,.bool _ _,by simp_all[vo,binOp_geq]⟩
    .cases h
   .cases h
 .rename_i m mV;rw[ak.hO,bp.hO];unfold binStr at h;split at h
  .obtain⟨ag,h⟩:=e7 h;have hle:m.length+mV.length<=9223372036854775807:=by simpa[lenB]using ag
   refine⟨_,.string ⟨(m++mV).toArray⟩,h,.str _ _,?_⟩;have aJ:¬(((ByteArray.mk m.toArray).size+(ByteArray.mk mV.toArray).size:Nat):Int)>IntKind.i64.max:=by show ¬((m.toArray.size+mV.toArray.size:Nat):Int)>IntKind.i64.max;rw[IntKind.max_i64];simp;omega
   have EB:(ByteArray.mk m.toArray)++(ByteArray.mk mV.toArray)=ByteArray.mk (m++mV).toArray:=by apply ByteArray.ext;simp
   simp_all[GJ,binOp,Op.stringOp]
  .exact TQ
  .exact Ty
  .exact Tw
  .exact Tw
  .exact TQ
  .exact Ty
  .cases h
 .rename_i m mV;rw[ak.oP,bp.oP];split at h
  .rename_i aX;have bu:(Op.equal t (.bool m) (.bool mV)).run P w=.ok (m==mV) w:=run_equalIn_bool' w 9999 t m mV aX;split at h
   .exact T5
   .exact T5
   .cases h
  .cases h
 .rename_i cs ds;obtain⟨vs,rfl,b6,_⟩:=ak.mS;obtain⟨us,rfl,e6,_⟩:=bp.mS;split at h
  .rename_i b ag;unfold T8 at ag;split at ag
   .rename_i aC nC;split at ag
    .rename_i hT;simp only[ba,jZ]at hT;have qk:P.fieldsOf t=aC:=by simp[Program.fieldsOf,nC]
     have bu:(Op.equalIn 10000 t (.agg vs.toArray) (.agg us.toArray)).run P w=.ok b w:=by rw[run_equalIn_struct w 9999 t _ _ (by rw[qk];exact nC) hT.1,qk];exact Nc aC.toList 0 cs ds _ _ b ag (λj c aa=>by obtain⟨u,hu,aD⟩:=b6.at_ aa;simp_all<;>omega) (λj c aa=>by obtain⟨u,hu,aD⟩:=e6.at_ aa;grind) 9998
     split at h
     .exact⟨_,_,h,.bool _ _,by simp_all[run_eqGuard_agg,run_eql_struct]⟩
     .exact⟨_,_,h,.bool _ _,by simp_all[run_eqGuard_agg,run_neq_struct]⟩
     .cases h
    .cases ag
   .cases ag
  .cases h
 .cases h
theorem NH(ah:Rel w S B β og st a)(aY:Out w0 bh B w S){op:BinOp}{b':TypeId}(aw:o.op=.binOp op t x z b')
  (h:evBin P op t (cw P st.tm t x) (cw P st.tm t z) (λv=>y {v})=some r)(bg:Good w0 bh B site o st y r K):o.cX R P a w K Q:=by
 obtain⟨v,Ie,aN,ar,bu⟩:=UY (ox:=x) (oz:=z) h (iP ah.tm P t x) (iP ah.tm P t z)
 refine fI ah aY ar aN bg ?_
 simp only[execOp,aw]
 rw[iL,bu]
 rfl
theorem Nn(h:vx z=true):z=.const (.slice none 0 0):=by grind[vx]
theorem B0(ah:Rel w S B β og st a)(aY:Out w0 bh B w S){op:BinOp}{b':TypeId}(aw:o.op=.binOp op t x z b')(bp:vx z=true)
  (h:s' P op t (cw P st.tm t x) (λv=>y {v})=some r)(bg:Good w0 bh B site o st y r K):o.cX R P a w K Q:=by
 have ar:=iP ah.tm P t x
 rw[Nn bp]at aw
 have aa:a.eval (.const (.slice none 0 0))=.slice none 0 0:=rfl
 unfold s' at h
 split at h
 .rename_i e s es aX ak;rw[ak]at ar;generalize hu:a.eval x=u at ar;cases ar with
  |ab _ _ _ A c ad xs an rR hm bq ay af tt hh=>
   have heq:(Op.equal t (.slice A es.length c) (.slice none 0 0)).run P w=.ok A.isNone w:=run_equal_slice_nil w t e A es.length c aX;have aB:eqGuard op t x (.const (.slice none 0 0)) (.slice A es.length c) (.slice none 0 0)=pure ():=DU;have hex:∀b,es≠[]->A.isNone=b->b=false:=λb bO ag=>bM;split at h
   .cases jA:es with
    |nil=>rw[jA]at h;refine fI ah aY (u:=.bool A.isNone) (.jC _ _) h bg ?_;simp_all[execOp,binOp]
    |cons dw l=>have ag:=hex _ Hf rfl;rw[jA]at h;refine fI ah aY (u:=.bool false) (.bool _ _) h bg ?_;simp_all[execOp,binOp]
   .cases jA:es with
    |nil=>rw[jA]at h;refine fI ah aY (u:=.bool !A.isNone) (.jC _ _) h bg ?_;simp_all[execOp,binOp]
    |cons dw l=>have ag:=hex _ Hf rfl;rw[jA]at h;refine fI ah aY (u:=.bool true) (.bool _ _) h bg ?_;simp_all[execOp,binOp]
   .cases h
 .rename_i e aX ak;rw[ak]at ar;generalize hu:a.eval x=u at ar;cases ar with
  |lF=>
   have heq:(Op.equal t (.slice none 0 0) (.slice none 0 0)).run P w=.ok true w:=run_equal_slice_nil w t e none 0 0 aX;have aB:eqGuard op t x (.const (.slice none 0 0)) (.slice none 0 0) (.slice none 0 0)=pure ():=DU;split at h
   .refine fI ah aY (u:=.bool true) (.bool _ _) h bg ?_;simp_all[execOp,binOp]
   .refine fI ah aY (u:=.bool false) (.bool _ _) h bg ?_;simp_all[execOp,binOp]
   .cases h
 .cases h
theorem NI(ah:Rel w S B β og st a)(aY:Out w0 bh B w S)(aw:o.op=.unOp .neg t x)(ak:cw P st.tm t x=.int k n)
  (aN:y {v:=.int k (k.wrap (0-n))}=some r)(bg:Good w0 bh B site o st y r K):o.cX R P a w K Q:=by
 have h:=iP ah.tm P t x
 rw[ak]at h
 exact fI ah aY (.int _ _ _) aN bg SY
theorem NJ(ah:Rel w S B β og st a)(aY:Out w0 bh B w S)(aw:o.op=.unOp .not t x)(ak:cw P st.tm t x=.bool b)
  (aN:y {v:=.bool !b}=some r)(bg:Good w0 bh B site o st y r K):o.cX R P a w K Q:=by
 have h:=iP ah.tm P t x
 rw[ak]at h
 exact fI ah aY (.bool _ _) aN bg Tc
theorem NK(ah:Rel w S B β og st a)(aY:Out w0 bh B w S){src dst:TypeId}{xt gM:IntKind}(aw:o.op=.convert src dst x)(an:P.underlying src=some (.int xt))(aX:P.underlying dst=some (.int k))(ak:cw P st.tm src x=.int gM n)
  (aN:y {v:=.int k (k.wrap n)}=some r)(bg:Good w0 bh B site o st y r K):o.cX R P a w K Q:=by
 have h:=iP ah.tm P src x
 rw[ak]at h
 exact fI ah aY (.int _ _ _) aN bg SD
theorem NL(ah:Rel w S B β og st a)(aY:Out w0 bh B w S){src dst:TypeId}{s:List UInt8}(aw:o.op=.convert src dst x)(an:P.underlying src=some .string)(aX:P.underlying dst=some .string)(ak:cw P st.tm src x=.str s)
  (aN:y {v:=.str s}=some r)(bg:Good w0 bh B site o st y r K):o.cX R P a w K Q:=by
 have h:=iP ah.tm P src x
 rw[ak]at h
 exact fI ah aY (.str _ _) aN bg SI
theorem NM(ah:Rel w S B β og st a)(aY:Out w0 bh B w S){f:Nat}(aw:o.op=.field t x f){aq:Env}(h:b7 P aq site o st.tm rowsV y=some r)(bg:Good w0 bh B site o st y r K):o.cX R P a w K Q:=by
 have ar:=iP ah.tm P t x;simp only[b7,aw]at h;split at h
 .rename_i dB fU;obtain⟨aC,nC,aR⟩:=Ia fU;split at h
  .rename_i cs ak;rw[ak]at ar;obtain⟨vs,he,b6,af⟩:=ar.mS;split at h
   .rename_i qp;split at h
    .obtain⟨d,aX⟩:=EA qp;obtain⟨i,hi,cx⟩:=zt aX;have aH:=(b6.drop dB.offset).take (P.cellsOf dB.type);refine fI ah aY (.agg _ _ _ aH.1 (λu hu=>af u (jx (lr hu))) aH.2) h bg ?_;simp_all[execOp,Instr.field,cA,asAgg,part,pC,sizeOf,typeInfo]
    .cases h
   .rename_i qp;split at h
    .rename_i v o1;obtain⟨u,hu,aD⟩:=b6.at_ o1;split at h
     .rename_i agj;obtain⟨d,aX⟩:=mj.1 agj;refine fI ah aY aD h bg ?_;simp_all[execOp,Instr.field,cA,asAgg,part,pC]
     .cases h
    .cases h
  .cases h
 .cases h
end ops
theorem Rel.freeze{a:Act}(h:Rel w S B β og st a)(ids:List Nat):
  Rel w (cr S og ids) B β og ⟨st.tm,il ids st.rows,st.used⟩ a:=by
 refine⟨h.tm.hk λb=>cr.left,h.df,λid r aD=>?_,h.inj,h.lt,h.used,h.one,λb ag=>?_,h.dZ,h.pid⟩
 .rw[yU]at aD;cases ay:lookup st.rows id with
  |none=>simp[ay]at aD
  |some bo=>
   simp only[ay,jm,ej]at aD;have a7:=h.row id bo ay;by_cases dt:ids.contains id=true
   .have se:id∈ids:=by simpa using dt
    rw[dE dt]at aD;subst aD;cases bo with
    |box bW cs=>obtain⟨g,vs,t,aw,ag,hh,ar,_,_,dy⟩:=a7;exact⟨g,vs,t,aw,ag,hh,ar.hk λb=>cr.left,(λe=>by cases e),λ_=>.inr ⟨id,se,aw⟩,dy⟩
    |arr bW s e es dm=>
     obtain⟨au,v,sp,xs,dd,gh,ag,af,ar,e2⟩:=a7;refine⟨au,v,sp,xs,dd,gh,ag,af,ar.hk λb=>cr.left,?_⟩;rcases e2 with hh|⟨g,bj,aw,fo,dy,hh,hm,_,_⟩
     .exact .inl hh
     .exact .inr ⟨g,bj,aw,fo,dy,hh,hm,(λe=>by cases e),λ_=>.inr ⟨id,se,aw⟩⟩
    |cj bW s e pre cs post=>obtain⟨au,di,g,bj,sp,xs,us,cm,af,ao,aw,ag,a1,iE,hR,jr,dy,hh,hm,_,_⟩:=a7;exact⟨au,di,g,bj,sp,xs,us,cm,af,ao,aw,ag,a1,iE.hk λb=>cr.left,hR.hk λb=>cr.left,jr.hk λb=>cr.left,dy,hh,hm,(λe=>by cases e),λ_=>.inr ⟨id,se,aw⟩⟩
   .rw[c0 dt]at aD;subst aD;have qV:id∉ids:=by simpa using dt
    refine a7.gJ (λ_ _ h=>h) (λb=>cr.left) (λg aB an=>?_) (λ_ _=>rfl) (λ_ _=>rfl);rcases an with an|⟨i,hi,hr⟩
    .exact an
    .exact absurd (h.inj id i g aB hr▸hi) qV
 .rcases ag with ag|⟨i,_,aB⟩
  .exact h.dF b ag
  .exact h.lt i b aB
theorem Out.freeze{w0:World}{bh:Nat->Prop}{a:Act}(aY:Out w0 bh B w S)(h:Rel w S B β og st a)(ids:List Nat)(dt:∀id∈ids,∃r,lookup st.rows id=some r):
  Out w0 bh B w (cr S og ids):=by
 refine⟨aY.gL,λb ag=>?_,λb ag=>.inl (aY.sub b ag)⟩
 rcases ag with ag|⟨i,hi,aB⟩
 .exact aY.sin b ag
 .obtain⟨r,aD⟩:=dt i hi;have:=h.row i r aD;cases r with
  |box bW cs=>obtain⟨g,_,_,aw,_,_,_,_,_,dy⟩:=this;grind
  |arr bW s e es dm=>obtain⟨_,_,_,_,_,_,_,e2⟩:=this.Et;grind
  |cj bW s e pre cs post=>obtain⟨_,_,g,_,_,_,_,_,_,_,aw,_,_,_,_,_,dy,_⟩:=this;grind
theorem yT(rows:List (Nat×Row)):il [] rows=rows:=by
 induction rows with
 |nil=>rfl
 |cons x rest ih=>grind[il]
theorem qa{rows:List (Nat×Row)}{f:AV->Option (AV×List Nat)}(aR:∀v p,f v=some p->∀id∈p.2,∃r,lookup rows id=some r):∀(cs:List AV)(p:List AV×List Nat),dp f cs=some p->∀id∈p.2,∃r,lookup rows id=some r
 |[],p,h,id,hid=>by grind[dp]
 |c::cs,p,h,id,hid=>by
  simp only[dp]at h;cases aa:f c with
  |none=>simp[aa]at h
  |some q=>
   cases aH:dp f cs with
   |none=>simp[aa,aH]at h
   |some mo=>
    simp[aa,aH]at h;subst h;simp at hid;rcases hid with hid|hid
    .exact aR c q aa id hid
    .exact qa aR cs mo aH id hid
theorem qU{rows:List (Nat×Row)}:∀(n:Nat)(v:AV)(p:AV×List Nat),cB rows n v=some p->∀id∈p.2,∃r,lookup rows id=some r:=by
 intro n;induction n with
 |zero=>grind[cB]
 |succ n ih=>
  intro v p h id hid;have eD:=qa (rows:=rows) (f:=cB rows n) ih;cases v<;>simp only[cB]at h
  case ptr i off=>
   cases aD:lookup rows i with
   |none=>simp[aD]at h
   |some r=>
    cases r with
    |arr _ _ _ _ _=>simp[aD]at h
    |cj _ _ _ _ _ _=>simp[aD]at h
    |box bW cs=>
     simp only[aD]at h;cases au:dp (cB rows n) cs with
     |none=>simp[au]at h
     |some q=>grind
  case eptr i j off=>grind
  case own i=>
   cases aD:lookup rows i with
   |none=>simp[aD]at h
   |some r=>
    cases r with
    |box _ _=>simp[aD]at h
    |arr _ _ _ _ _=>grind
    |cj bW s e pre cs post=>
     simp only[aD]at h;cases au:dp (cB rows n) cs with
     |none=>simp[au]at h
     |some q=>grind
  case sub i lo m=>grind
  case agg cs=>
   cases au:dp (cB rows n) cs with
   |none=>simp[au]at h
   |some q=>grind
  case tup cs=>
   cases au:dp (cB rows n) cs with
   |none=>simp[au]at h
   |some q=>grind
  case fn f cs=>
   cases au:dp (cB rows n) cs with
   |none=>simp[au]at h
   |some q=>grind
  all_goals grind
section ops
variable{R:Option Nat}{aj:Type}{P:Program}{w0 w:World}{bh S:Nat->Prop}{B:Ctx}{β:cD}{og:Nat->Option Nat}{st:bC}{a:Act}{o:Oper}{site:Nat}{y:dx->Option aj}{r:aj}
 {K:Act->World->Prop}{Q:Exit->Act->World->Prop}
def vJ{x:Option Operand}(ah:VRels w S β st.tm a.tmps.toList)(h:k4 (x.map (val st.tm))=true)(d:Int):
  (x=none/\cP (x.map (val st.tm)) d=d)\/∃z k,x=some z/\a.eval z=.int k (cP (x.map (val st.tm)) d):=by
 cases x with
 |none=>exact .inl ⟨rfl,rfl⟩
 |some z=>
  refine .inr ⟨z,?_⟩
  have ar:=eV ah z
  simp only[jm]at h⊢
  generalize val st.tm z=v at h ar⊢
  cases v<;>simp[k4]at h
  rename_i k n
  exact⟨k,bb,by rw[ar.eT];rfl⟩
theorem run_sliceBound{m:Nat}(c:BoundsCode)(a7:0<=n)(af:n<=(m:Int)):(Instr.sliceBound (.int k n) m c).run P w=.ok n.toNat w:=by simp_all[Instr.sliceBound,asIntOf]
theorem Ig(ah:VRels w S β st.tm a.tmps.toList)(ay:k4 (lo.map (val st.tm))=true)(hh:k4 (hi.map (val st.tm))=true)(sl:Bool)(len cap:Nat)(xx:len<=cap)
  (h:slb (cP (lo.map (val st.tm)) 0) (cP (hi.map (val st.tm)) len) len=true):
  (Instr.sliceBounds sl len cap (lo.map a.eval) (hi.map a.eval) none).run P w=.ok ((cP (lo.map (val st.tm)) 0).toNat,(cP (hi.map (val st.tm)) len).toNat,cap) w:=by
 simp only[slb,ba,fD]at h
 obtain⟨a7,af,ao⟩:=h
 rcases vJ ah ay 0 with⟨rfl,dw⟩|⟨z,k,rfl,dw⟩<;>rcases vJ ah hh len with⟨rfl,aU⟩|⟨pG,cl,rfl,aU⟩
 .rfl
 .generalize cP (Option.map (val st.tm) (some pG)) len=n at*;rw[dw]at af⊢;have ag:=λc=>run_sliceBound (P:=P) (w:=w) (k:=cl) (n:=n) (m:=cap) c al al;simp[Instr.sliceBounds,aU,ag]
 .simp_all[run_sliceBound,Instr.sliceBounds]
 .generalize cP (Option.map (val st.tm) (some z)) 0=n at*;generalize cP (Option.map (val st.tm) (some pG)) len=k' at*;have ag:=λc=>run_sliceBound (P:=P) (w:=w) (k:=cl) (n:=k') (m:=cap) c al al;have cp:=λc=>run_sliceBound (P:=P) (w:=w) (k:=k) (n:=n) (m:=k'.toNat) c al al;simp_all[Instr.sliceBounds]
def extract_mk(s:List UInt8)(l h:Nat):(ByteArray.mk s.toArray).extract l h=⟨((s.drop l).take (h-l)).toArray⟩:=by apply ByteArray.ext;simp
def NN(ah:Rel w S B β og st a)(aY:Out w0 bh B w S){s:List UInt8}(aw:o.op=.slice t x lo hi none)(aQ:P.underlying t=some .string)(ak:val st.tm x=.str s)
  (ay:k4 (lo.map (val st.tm))=true)(hh:k4 (hi.map (val st.tm))=true)(ag:slb (cP (lo.map (val st.tm)) 0) (cP (hi.map (val st.tm)) s.length) s.length=true)
  (aN:y {v:=.str ((s.drop (cP (lo.map (val st.tm)) 0).toNat).take ((cP (hi.map (val st.tm)) s.length).toNat-(cP (lo.map (val st.tm)) 0).toNat))}=some r)(bg:Good w0 bh B site o st y r K):o.cX R P a w K Q:=by
 have h:=eV ah.tm x
 rw[ak]at h
 refine fI ah aY (.str _ _) aN bg ?_
 have gx:=Ig (P:=P) (w:=w) ah.tm ay hh false s.length s.length (dc _) ag
 have cx:(ByteArray.mk s.toArray).size=s.length:=vq
 simp[execOp,aw,h.hO,Instr.sliceAt,cA aQ,Instr.slice,cx,gx,extract_mk]
theorem tp(h:k5 P e s=true):∃i,P.info? e=some i/\i.size=s.width:=by simp only[k5,ba,h0]at h;obtain⟨i,hi⟩:=mj.1 h.1;grind[Program.cellsOf]
theorem agk(ah:Rel w S B β og st a)(aY:Out w0 bh B w S)(cN:∀id x,lookup rowsV id=some x->lookup st.rows id=some x)
  (aw:o.op=.slice t x lo hi none)(aQ:P.underlying t=some (.slice e))(ak:cB rowsV depth (val st.tm x)=some (.ab s es,ids))(cx:k5 P e s=true)
  (ay:k4 (lo.map (val st.tm))=true)(hh:k4 (hi.map (val st.tm))=true)(ag:slb (cP (lo.map (val st.tm)) 0) (cP (hi.map (val st.tm)) es.length) es.length=true)
  (aN:y {v:=.ab s ((es.drop (cP (lo.map (val st.tm)) 0).toNat).take ((cP (hi.map (val st.tm)) es.length).toNat-(cP (lo.map (val st.tm)) 0).toNat)),bW:=ids}=some r)(bg:Good w0 bh B site o st y r K):o.cX R P a w K Q:=by
 have au:=oU (w:=w) (S:=S) (B:=B) (β:=β) (og:=og) (rows:=rowsV) (λid x ak=>ah.row id x (cN _ _ ak)) depth _ _ _ _ ak (eV ah.tm x)
 obtain⟨i,eC,fR⟩:=tp cx
 have hx:=ag
 simp only[slb,ba,fD]at hx
 obtain⟨a7,af,ao⟩:=hx
 obtain⟨A,c,he,aa,ar⟩:=Nt au β (l:=(cP (lo.map (val st.tm)) 0).toNat) (hh:=(cP (hi.map (val st.tm)) es.length).toNat) al al
 have dt:∀id∈ids,∃r,lookup st.rows id=some r:=λid hid=>GQ
 have hF:=(ah.freeze ids).put o.dst ar
 refine wp_value (u:=.slice (if c=(cP (lo.map (val st.tm)) 0).toNat then A else A.map (·.add ((cP (lo.map (val st.tm)) 0).toNat*s.width))) ((cP (hi.map (val st.tm)) es.length).toNat-(cP (lo.map (val st.tm)) 0).toNat) (c-(cP (lo.map (val st.tm)) 0).toNat)) (w':=w) ?_ (bg _ _ _ aN ⟨cr S og ids,β,og,?_,aY.freeze ah ids dt⟩)
 .have gx:=Ig (P:=P) (w:=w) ah.tm ay hh true es.length c aa ag;exact MC
 exact MJ
theorem agl(h:fE s v=true):cb s v=true:=by
 cases s with
 |agg l=>grind[fE]
 |other=>exact h
 |int k=>exact h
 |bool=>exact h
 |str=>exact h
 |slice s=>exact h
def NO{s:Sh}:∀{es:List AV},(∀e∈es,fE s e=true)->flat es=es
 |[],_=>rfl
 |e::es,h=>by have:=NO (es:=es) λx ak=>h x lv;simp only[flat,mg]at this⊢;rw[this,(ql s e (h e bb)).1];rfl
theorem NP(ah:Rel w S B β og st a)(aY:Out w0 bh B w S)(cN:∀id x,lookup rowsV id=some x->lookup st.rows id=some x){n:Nat}
  (aw:o.op=.slice t x none none none)(aQ:P.underlying t=some (.array n e))(ak:cB rowsV depth (val st.tm x)=some (.ref cs,ids))(cx:(P.info? e).isSome=true)(aJ:n<=1000000)(ay:n<=cs.length)(an:∀c∈cs.take n,fE (shOf P depth e) c=true)
  (aN:y {v:=.ab (shOf P depth e) (cs.take n),bW:=ids}=some r)(bg:Good w0 bh B site o st y r K):o.cX R P a w K Q:=by
 have au:=oU (w:=w) (S:=S) (B:=B) (β:=β) (og:=og) (rows:=rowsV) (λid x ak=>ah.row id x (cN _ _ ak)) depth _ _ _ _ ak (eV ah.tm x)
 obtain⟨i,eC⟩:=mj.1 cx
 have dt:∀id∈ids,∃r,lookup st.rows id=some r:=λid hid=>GQ
 generalize he:a.eval x=u at au
 cases au with
 |ref _ _ ad xs cu UZ af gz hh=>
  have jA:(cs.take n).length=n:=bM
  have fU:=NO an
  have ar:VRel w (cr S og ids) β (.ab (shOf P depth e) (cs.take n)) (.slice (some ad) (cs.take n).length n):=by
   refine .ab _ _ _ (some ad) n ad (xs.take n) (λc aa=>agl (an c aa)) al Ml (λ_=>⟨rfl,cu⟩) bM (λu hu=>af u (lr hu)) (λj u hu=>?_) (λj c u aa hu=>?_)
   .grind
   grind
  rw[jA]at ar
  have hF:=(ah.freeze ids).put o.dst ar
  refine wp_value (u:=.slice (some ad) n n) (w':=w) ?_ (bg _ _ _ aN ⟨cr S og ids,β,og,?_,aY.freeze ah ids dt⟩)
  .simp_all[execOp,Instr.sliceAt,Instr.sureAddr,cA,Instr.sliceBounds,sizeOf,typeInfo,Addr.add]
  exact MJ
theorem agm(ah:Rel w S B β og st a)(aY:Out w0 bh B w S)(cN:∀id x,lookup rowsV id=some x->lookup st.rows id=some x){h m:Operand}{cl:IntKind}
  (aw:o.op=.slice t x none (some h) (some m))(aQ:P.underlying t=some (.slice e))(ak:cB rowsV depth (val st.tm x)=some (.ab s es,ids))(cx:k5 P e s=true)(hh:val st.tm h=.int k n)(hm:val st.tm m=.int cl n)
  (a7:0<=n)(af:n<=es.length)(aN:y {v:=.ab s (es.take n.toNat),bW:=ids}=some r)(bg:Good w0 bh B site o st y r K):o.cX R P a w K Q:=by
 have au:=oU (w:=w) (S:=S) (B:=B) (β:=β) (og:=og) (rows:=rowsV) (λid x ak=>ah.row id x (cN _ _ ak)) depth _ _ _ _ ak (eV ah.tm x)
 obtain⟨i,eC,fR⟩:=tp cx
 obtain⟨A,c,he,aa,ar⟩:=Nt au β (l:=0) (hh:=n.toNat) al al
 obtain⟨qm,c',ad,xs,aU,an,iD,U0,bq,gz,Ed,oW⟩:=ar.Es
 have hlen:((es.drop 0).take (n.toNat-0)).length=n.toNat:=lu
 have zo:VRel w (cr S og ids) β (.ab s (es.take n.toNat)) (.slice qm n.toNat n.toNat):=by have:VRel w (cr S og ids) β (.ab s ((es.drop 0).take (n.toNat-0))) (.slice qm ((es.drop 0).take (n.toNat-0)).length n.toNat):=.ab _ s _ qm n.toNat ad xs an al (by rw[hlen]at iD;omega) bq gz.1 Ed oW gz.2;rw[hlen]at this;simpa using this
 have tu:qm=A:=by simp_all[vn,A5,Addr.add]
 have dt:∀id∈ids,∃r,lookup st.rows id=some r:=λid hid=>GQ
 have hF:=(ah.freeze ids).put o.dst zo
 have U1:=eV ah.tm h
 rw[hh]at U1
 have rj:=eV ah.tm m
 rw[hm]at rj
 refine wp_value (u:=.slice qm n.toNat n.toNat) (w':=w) ?_ (bg _ _ _ aN ⟨cr S og ids,β,og,?_,aY.freeze ah ids dt⟩)
 .have k2:=λvP=>run_sliceBound (P:=P) (w:=w) (k:=cl) (n:=n) (m:=c) vP a7 al;have hy:=λvP=>run_sliceBound (P:=P) (w:=w) (k:=k) (n:=n) (m:=n.toNat) vP a7 al;simp[execOp,aw,he,Instr.sliceAt,cA aQ,Instr.slice,Instr.sliceBounds,U1.eT,rj.eT,k2,hy,sizeOf,typeInfo,eC];grind
 grind[eI,il,yT,apply]
theorem agn(ah:Rel w S B β og st a)(aY:Out w0 bh B w S)(cN:∀id x,lookup rowsV id=some x->lookup st.rows id=some x){m:Operand}
  (aw:o.op=.slice t x lo hi (some m))(aQ:P.underlying t=some (.slice e))(ak:cB rowsV depth (val st.tm x)=some (.ab s es,ids))(cx:k5 P e s=true)(hm:val st.tm m=.int k 0)
  (ay:k4 (lo.map (val st.tm))=true)(hh:k4 (hi.map (val st.tm))=true)(l5:cP (lo.map (val st.tm)) 0=0)(xC:cP (hi.map (val st.tm)) 1=0)
  (aN:y {v:=.bf s}=some r)(bg:Good w0 bh B site o st y r K):o.cX R P a w K Q:=by
 have au:=oU (w:=w) (S:=S) (B:=B) (β:=β) (og:=og) (rows:=rowsV) (λid x ak=>ah.row id x (cN _ _ ak)) depth _ _ _ _ ak (eV ah.tm x)
 obtain⟨A,c,ad,xs,he,_,aa,_⟩:=au.Es
 obtain⟨i,eC,fR⟩:=tp cx
 have rj:=eV ah.tm m
 rw[hm]at rj
 refine fI ah aY (.bf _ s A) aN bg ?_
 rcases vJ ah.tm ay 0 with⟨rfl,dw⟩|⟨z,xt,rfl,dw⟩<;>rcases vJ ah.tm hh 1 with⟨rfl,aU⟩|⟨pG,cl,rfl,aU⟩
 .simp[cP]at xC
 .rw[xC]at aU;simp[execOp,aw,he,Instr.sliceAt,cA aQ,Instr.slice,Instr.sliceBounds,Instr.sliceBound,asIntOf,rj.eT,aU,sizeOf,typeInfo,eC]
 .simp[cP]at xC
 .rw[xC]at aU;rw[l5]at dw;simp[execOp,aw,he,Instr.sliceAt,cA aQ,Instr.slice,Instr.sliceBounds,Instr.sliceBound,asIntOf,rj.eT,dw,aU,sizeOf,typeInfo,eC]
theorem qq{m:Nat}(h:inb n m=true):0<=n/\n<m/\n.toNat<m:=by simp_all[inb]
theorem ago(ah:Rel w S B β og st a)(aY:Out w0 bh B w S)(aw:o.op=.indexAddr t x i)(aQ:P.underlying t=some (.slice e))(ak:val st.tm x=.ab s es)(hi:val st.tm i=.int k n)
  (cx:k5 P e s=true)(ag:inb n es.length=true)(aN:y {v:=.hP s es n.toNat 0}=some r)(bg:Good w0 bh B site o st y r K):o.cX R P a w K Q:=by
 have h:=eV ah.tm x
 rw[ak]at h
 have h':=eV ah.tm i
 rw[hi]at h'
 obtain⟨jB,eO,eW⟩:=qq ag
 obtain⟨A,c,ad,xs,he,an,aa,hm,bq,ar,af,gz⟩:=h.Es
 obtain⟨rfl,cu⟩:=bq (by rintro rfl;simp at eW)
 obtain⟨ii,iF,fR⟩:=tp cx
 refine fI ah aY (.hP _ s es n.toNat 0 ad xs eW an cu ar.1 af gz ar.2) aN bg ?_
 simp[execOp,aw,he,h'.eT,Instr.indexAt,asIntOf,cA aQ,jB,eO,sizeOf,typeInfo,iF,fR]
theorem NQ(ah:Rel w S B β og st a)(aY:Out w0 bh B w S){id off len:Nat}(aw:o.op=.indexAddr t x i)(aQ:P.underlying t=some (.array len e))(ak:val st.tm x=.ptr id off)(hi:val st.tm i=.int k n)
  (cx:(P.info? e).isSome=true)(ag:inb n len=true)(aN:y {v:=.ptr id (off+n.toNat*P.cellsOf e)}=some r)(bg:Good w0 bh B site o st y r K):o.cX R P a w K Q:=by
 have h:=eV ah.tm x
 rw[ak]at h
 have h':=eV ah.tm i
 rw[hi]at h'
 obtain⟨jB,eO,eW⟩:=qq ag
 obtain⟨ii,iF⟩:=mj.1 cx
 have aa:P.cellsOf e=ii.size:=by grind[Program.cellsOf]
 generalize he:a.eval x=u at h
 cases h with
 |ptr _ _ _ g wd cp=>
  refine fI ah aY (.ptr _ id (off+n.toNat*P.cellsOf e) g wd cp) aN bg ?_
  simp[execOp,aw,he,h'.eT,Instr.indexAt,Instr.sureAddr,asIntOf,cA aQ,jB,eO,sizeOf,typeInfo,iF,aa,hd]
theorem agp(ah:Rel w S B β og st a)(aY:Out w0 bh B w S){len:Nat}(aw:o.op=.indexAddr t x i)(aQ:P.underlying t=some (.array len e))(ak:val st.tm x=.ref cs)(hi:val st.tm i=.int k n)
  (cx:(P.info? e).isSome=true)(ag:inb n len=true)(aN:y {v:=.ref (cs.drop (n.toNat*P.cellsOf e))}=some r)(bg:Good w0 bh B site o st y r K):o.cX R P a w K Q:=by
 have h:=eV ah.tm x
 rw[ak]at h
 have h':=eV ah.tm i
 rw[hi]at h'
 obtain⟨jB,eO,eW⟩:=qq ag
 obtain⟨ii,iF⟩:=mj.1 cx
 have aa:P.cellsOf e=ii.size:=by grind[Program.cellsOf]
 generalize he:a.eval x=u at h
 cases h with
 |ref _ _ ad xs iC ay af gz hh=>
  have aX:=(VRels.drop (cs:=cs) (vs:=xs) ⟨ay,hh⟩ (n.toNat*P.cellsOf e))
  refine fI (u:=.pointer (some (ad.add (n.toNat*P.cellsOf e)))) ah aY (.ref _ _ _ (xs.drop (n.toNat*P.cellsOf e)) Ms aX.1 (λu hu=>af u (jx hu)) (λj u hu=>?_) aX.2) aN bg ?_
  .grind[add_add]
  .simp[execOp,aw,he,h'.eT,Instr.indexAt,Instr.sureAddr,asIntOf,cA aQ,jB,eO,sizeOf,typeInfo,iF,aa]
theorem agq(ah:Rel w S B β og st a)(aY:Out w0 bh B w S)(cN:∀id x,lookup rowsV id=some x->lookup st.rows id=some x)
  (aw:o.op=.makeInterface t x)(aQ:P.underlying t=some (.pointer e))(ak:cB rowsV depth (cw P st.tm t x)=some (.ref cs,ids))
  (aN:y {v:=.lE t cs,bW:=ids}=some r)(bg:Good w0 bh B site o st y r K):o.cX R P a w K Q:=by
 have au:=oU (w:=w) (S:=S) (B:=B) (β:=β) (og:=og) (rows:=rowsV) (λid x ak=>ah.row id x (cN _ _ ak)) depth _ _ _ _ ak (iP ah.tm P t x)
 have dt:∀id∈ids,∃r,lookup st.rows id=some r:=λid hid=>GQ
 have ar:VRel w (cr S og ids) β (.lE t cs) (.iface t (a.eval x)):=by
  generalize a.eval x=u at au⊢;cases au with
  |ref _ _ ad xs cu UZ af gz hh=>exact .lE _ _ _ _ (.ref _ _ _ _ cu UZ af gz hh)
 have hF:=(ah.freeze ids).put o.dst ar
 refine wp_value (u:=.iface t (a.eval x)) (w':=w) ?_ (bg _ _ _ aN ⟨cr S og ids,β,og,?_,aY.freeze ah ids dt⟩)
 .simp[execOp,aw,Instr.makeInterface,cA aQ]
 exact MJ
theorem agr(ah:Rel w S B β og st a)(aY:Out w0 bh B w S){e':TypeId}{id:Nat}{im:Bool}(aw:o.op=.indexAddr t x i)(aQ:P.underlying t=some (.slice e))(ak:val st.tm x=.own id)
  {dm:Option (List AV)}(ay:lookup st.rows id=some (.arr im s e' es dm))(hi:val st.tm i=.int k n)
  (cx:k5 P e s=true)(ag:inb n es.length=true)(aN:y {v:=.eptr id n.toNat 0}=some r)(bg:Good w0 bh B site o st y r K):o.cX R P a w K Q:=by
 have h:=eV ah.tm x
 rw[ak]at h
 have h':=eV ah.tm i
 rw[hi]at h'
 obtain⟨jB,eO,eW⟩:=qq ag
 obtain⟨au,dd,v,xs,bP,af,b6,e2⟩:=(ah.row id _ ay).Et
 obtain⟨ii,iF,fR⟩:=tp cx
 rcases e2 with⟨pH,_⟩|⟨g,cap,dM,cur,dQ,fo,_,hh,aa,hm,_⟩
 .subst pH;simp at eW
 .generalize he:a.eval x=u at h;cases h with
  |own _ _ da wd cp=>rw[bP]at cp;simp only[ej,gU]at cp;obtain⟨rfl,rfl⟩:=cp;subst fo;refine fI ah aY (.eptr _ id n.toNat 0 g _ _ _ _ bP) aN bg ?_;simp[execOp,aw,he,h'.eT,Instr.indexAt,asIntOf,cA aQ,jB,eO,sizeOf,typeInfo,iF,fR,hd]
theorem ags(ah:Rel w S B β og st a)(aY:Out w0 bh B w S){e':TypeId}{id:Nat}{im:Bool}{pre post:List AV}(aw:o.op=.indexAddr t x i)(aQ:P.underlying t=some (.slice e))(ak:val st.tm x=.own id)
  (ay:lookup st.rows id=some (.cj im s e' pre cs post))(hi:val st.tm i=.int k n)
  (cx:k5 P e s=true)(ag:inb n (pre.length+(post.length+1))=true)(aN:y {v:=.eptr id n.toNat 0}=some r)(bg:Good w0 bh B site o st y r K):o.cX R P a w K Q:=by
 have h:=eV ah.tm x
 rw[ak]at h
 have h':=eV ah.tm i
 rw[hi]at h'
 obtain⟨jB,eO,eW⟩:=qq ag
 obtain⟨dJ,di,g,bj,sp,xs,us,cm,_,_,_,bP,_⟩:=ah.row id _ ay
 obtain⟨ii,iF,fR⟩:=tp cx
 generalize pre.length+(post.length+1)=m at bP eO eW
 generalize he:a.eval x=u at h
 cases h with
 |own _ _ da wd cp=>
  rw[bP]at cp
  simp only[ej,gU]at cp
  obtain⟨rfl,rfl⟩:=cp
  refine fI ah aY (.eptr _ id n.toNat 0 g _ _ _ _ bP) aN bg ?_
  simp[execOp,aw,he,h'.eT,Instr.indexAt,asIntOf,cA aQ,jB,eO,sizeOf,typeInfo,iF,fR,hd]
theorem TZ(ah:Rel w S B β og st a)(aY:Out w0 bh B w S){s:List UInt8}(aw:o.op=.index t x i)(aQ:P.underlying t=some .string)(ak:cw P st.tm t x=.str s)(hi:val st.tm i=.int k n)
  (ag:inb n s.length=true)(aN:y {v:=.int .u8 ((s.getD n.toNat 0).toNat)}=some r)(bg:Good w0 bh B site o st y r K):o.cX R P a w K Q:=by
 have h:=iP ah.tm P t x
 rw[ak]at h
 have h':=eV ah.tm i
 rw[hi]at h'
 obtain⟨jB,eO,eW⟩:=qq ag
 refine fI ah aY (.int _ _ _) aN bg ?_
 have aB:(ByteArray.mk s.toArray)[n.toNat]?=some (s.getD n.toNat 0):=by
  have aL:n.toNat<(ByteArray.mk s.toArray).size:=by grind[ByteArray.size]
  have a7:=getElem?_pos (ByteArray.mk s.toArray) n.toNat aL;rw[a7];congr 1;show s.toArray[n.toNat]=_;grind
 exact TJ
theorem NR(ah:Rel w S B β og st a)(aY:Out w0 bh B w S){len:Nat}(aw:o.op=.index t x i)(aQ:P.underlying t=some (.array len e))(ak:cw P st.tm t x=.agg cs)(hi:val st.tm i=.int k n)
  (qp:isAggT P e=false)(af:P.cellsOf e=1)(aX:(P.underlying e).isSome=true)(ay:len=cs.length)(cn:cs.all (fE (shOf P depth e))=true)
  (ag:inb n len=true)(aN:y {v:=DX (shOf P depth e) (cs.getD n.toNat .J)}=some r)(bg:Good w0 bh B site o st y r K):o.cX R P a w K Q:=by
 have h:=iP ah.tm P t x
 rw[ak]at h
 have h':=eV ah.tm i
 rw[hi]at h'
 obtain⟨jB,eO,eW⟩:=qq ag
 obtain⟨vs,he,b6,_⟩:=h.mS
 obtain⟨d,aX⟩:=mj.1 aX
 obtain⟨ii,iF,fR⟩:=zt aX
 have aa:cs[n.toNat]?=some (cs[n.toNat]' al):=fC al
 obtain⟨u,hu,aD⟩:=b6.at_ aa
 have sc:cs.getD n.toNat .J=cs[n.toNat]'(al):=by simp[aa]
 have avE:fE (shOf P depth e) (cs[n.toNat]' al)=true:=bM
 refine fI ah aY (u:=u) (by grind[Nh]) aN bg ?_
 simp[execOp,aw,he,h'.eT,Instr.index,asIntOf,cA aQ,jB,eO,part,pC aX,qp,sizeOf,typeInfo,iF,fR,af,hu]
end ops
end Go.Ev
