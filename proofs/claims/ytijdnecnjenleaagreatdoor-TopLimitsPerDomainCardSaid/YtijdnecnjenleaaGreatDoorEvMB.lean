/-
  Elements that are cleared; room that is appended.
-/
import Derived.Test.YtijdnecnjenleaaGreatDoorEvH
import Derived.Deep.DeepAppendWide
import Derived.Lib.OthersKept
import Derived.Lib.ConvBytes
set_option linter.all false
namespace Go.Ev
open Go.RowKit
variable{e:TypeId}{s:Sh}{t:TypeId}{es:List AV}{rowsV:List (Nat×Row)}{x:Operand}{w:World}{u:Value}{dm:Option (List AV)}{args:Array Operand}{ae:Array TypeId}{cs:List AV}{P:Program}{z:Operand}{off:Nat}{ids:List Nat}{n:Nat}{us:List Value}{e':TypeId}{k:IntKind}{w':World}{f:FuncId}{len lo:Nat}{i:TypeInfo}{S:Nat->Prop}{pre post:List AV}{parts:Array (Nat×Operand)}
theorem zx(P:Program)(g o:Nat)(t:TypeId)(fz:Nat×Nat):∀(vs:List Value)(i:Nat)(cur:Array Value)(w:World),w.heap[g]?=some (.cells cur t fz)->(fz=(0,0)\/fz=(cur.size,cur.size+1))->o+i+vs.length<=cur.size->(∀v∈vs,v.oneCell'=true)->
  (storeCells ⟨g,o,none⟩ vs i).run P w=.ok () (w.setRow g (cur.toList.take (o+i)++vs++cur.toList.drop (o+i+vs.length)).toArray)
 |[],i,cur,w,aB,_,_,_=>by simp only[storeCells,jy,gw,lX,uh,GG];rw[setRow_self w g cur t fz aB];rfl
 |v::rest,i,cur,w,aB,gV,ay,af=>by
  have hi:o+i<cur.size:=by simp at ay;omega
  have agt:(⟨g,o,none⟩:Addr).add i=⟨g,o+i,none⟩:=by unfold Addr.add;split<;>simp_all
  have o0:w.cell? ⟨g,o+i,none⟩=some cur[o+i]:=by simp[World.cell?,aB]
  have agu:w.frozen? ⟨g,o+i,none⟩=false:=by
   obtain⟨lo,eC⟩:=fz;simp only[World.frozen?,aB,Bool.and_eq_false_iff,GN];rcases gV with h|h
   .right;cases h;simp
   .left;cases h;simp;omega
  have fx:(store ((⟨g,o,none⟩:Addr).add i) v).run P w=.ok () (w.setRow g (cur.setIfInBounds (o+i) v)):=by rw[agt,run_store P w _ v _ (af v bb),o0];simp[agu,setCell_eq_setRow w g (o+i) cur t fz v aB]
  have ih:=zx P g o t fz rest (i+1) (cur.setIfInBounds (o+i) v) (w.setRow g (cur.setIfInBounds (o+i) v)) (setRow_heap w g cur _ t _ aB) (by simpa using gV) (by simp at ay⊢;omega) (λx ak=>af x lv);simp only[storeCells,iL,fx,jX,ih,setRow_setRow];congr 3;grind[list_seg_step]
def jQ.H0{g:Nat}{cur:Array Value}{m:Bool}(h:jQ w g cur e m)(o:Nat)(vs:List Value)(i:Nat)(ay:o+i+vs.length<=cur.size)(af:∀v∈vs,v.oneCell'=true):
  (storeCells ⟨g,o,none⟩ vs i).run P w=.ok () (w.setRow g (cur.toList.take (o+i)++vs++cur.toList.drop (o+i+vs.length)).toArray):=by
 obtain⟨fz,gV,aB⟩:=h
 exact zx P g o e fz vs i cur w aB (gV.imp id And.right) ay af
def agv(w:World)(t ty e:TypeId)(i:TypeInfo)(aQ:P.underlying t=some (.slice e))(hi:P.info? e=some i)
  (g dM c8 sCap:Nat)(cur:Array Value){mk:Bool}(aB:jQ w g cur e mk)
  (a:Addr)(m c:Nat)(news:List Value)(ay:news.length=m*i.size)(zy:∀j u,news[j]?=some u->w.cell? (a.add j)=some u)(af:∀u∈news,u.oneCell'=true)
  (h2:c8+m<=sCap)(jL:dM+c8*i.size+news.length<=cur.size):
  (Builtin.append_ #[t,t] ty #[.slice (some ⟨g,dM,none⟩) c8 sCap,.slice (some a) m c]).run P w=
   .ok (.slice (some ⟨g,dM,none⟩) (c8+m) sCap) (w.setRow g (cur.toList.take (dM+c8*i.size)++news++cur.toList.drop (dM+c8*i.size+news.length)).toArray):=by
 obtain⟨fz,gV,aB⟩:=aB
 have aR:=A0 (P:=P) w i.size m a m c news ay zy
 have fx:=zx P g (dM+c8*i.size) e fz news 0 cur w aB (gV.imp id And.right) Mr af
 simp only[lX]at fx
 simp[Builtin.append_,cA aQ,sizeOf,typeInfo,hi,Builtin.lenOf,h2,aR,hd,fx]
def jQ.setRow{g:Nat}{cur cs:Array Value}{m:Bool}(h:jQ w g cur e m)(an:cs.size=cur.size):jQ (w.setRow g cs) g cs e m:=by obtain⟨fz,gV,h⟩:=h;exact⟨fz,by rw[an];exact gV,setRow_heap w g cur _ e _ h⟩
section ops
variable{R:Option Nat}{aj:Type}{P:Program}{w0 w:World}{bh S:Nat->Prop}{B:Ctx}{β:cD}{og:Nat->Option Nat}{st:bC}{a:Act}{o:Oper}{site:Nat}{y:dx->Option aj}{r:aj}
 {K:Act->World->Prop}{Q:Exit->Act->World->Prop}
def size_mk(s:List UInt8):(ByteArray.mk s.toArray).size=s.length:=vq
def tl(args:Array Operand)(us:List Value)(h:args.toList.map a.eval=us):args.map a.eval=us.toArray:=by apply wR;simpa using h
def NS{k:IntKind}:∀(rest:List AV)(us:List Value)(x n:Int),minInt k x rest=some n->VRels w S β rest us->(us.foldlM Builtin.min2 (.int k x)).run P w=.ok (.int k n) w
 |[],us,x,n,h,ar=>by simp[minInt]at h;rw[ar.gf];simp[h]
 |c::rest,us,x,n,h,ar=>by
  obtain⟨u,lb,rfl,hu,an⟩:=ar.inv;cases c<;>simp only[minInt]at h<;>try(cases h)
  rename_i cl m;split at h
  .rename_i ai;subst ai;rw[hu.eT];have ih:=NS rest lb _ n h an;simp only[List.foldlM_cons,Builtin.min2,wT];exact ih
  .cases h
def NT{k:IntKind}:∀(rest:List AV)(us:List Value)(x n:Int),maxInt k x rest=some n->VRels w S β rest us->(us.foldlM Builtin.max2 (.int k x)).run P w=.ok (.int k n) w
 |[],us,x,n,h,ar=>by simp[maxInt]at h;rw[ar.gf];simp[h]
 |c::rest,us,x,n,h,ar=>by
  obtain⟨u,lb,rfl,hu,an⟩:=ar.inv;cases c<;>simp only[maxInt]at h<;>try(cases h)
  rename_i cl m;split at h
  .rename_i ai;subst ai;rw[hu.eT];have ih:=NT rest lb _ n h an;simp only[List.foldlM_cons,Builtin.max2,wT];exact ih
  .cases h
theorem NU(ah:Rel w S B β og st a)(cN:∀id x,lookup rowsV id=some x->lookup st.rows id=some x){z:AV}(h:ta rowsV z=some (s,es))(ar:VRel w S β z u):
  ∃(A:Option Addr)(c:Nat)(ad:Addr)(xs:List Value),u=.slice A es.length c/\(∀e∈es,cb s e=true)/\(es≠[]->A=some ad)/\VRels w S cq (flat es) xs/\(∀u∈xs,u.oneCell'=true)/\
   (∀(j:Nat)(u:Value),xs[j]?=some u->w.cell? (ad.add j)=some u)/\es.length<=maxLen:=by
 cases z<;>simp only[ta]at h<;>try(cases h)
 .obtain⟨A,c,ad,xs,rfl,an,aa,hm,bq,b6,af,ak⟩:=ar.Es;exact⟨A,c,ad,xs,rfl,an,λbO=>(bq bO).1,b6,af,ak,al⟩
 .cases ar with
  |bf _ _ A=>exact⟨A,0,default,[],rfl,bb,λh=>absurd rfl h,VRels.nil,bb,bb,bb⟩
 .rename_i id;split at h
  .rename_i im fF e f' dm ay;cases h;obtain⟨au,dd,v,xs,bP,af,b6,e2⟩:=(ah.row id _ (cN _ _ ay)).Et;cases ar with
   |own _ _ da wd cp=>
    rw[bP]at cp;simp only[ej,gU]at cp;obtain⟨rfl,rfl⟩:=cp;rcases e2 with⟨pH,_,A,rfl⟩|⟨g,cap,dM,cur,dQ,rfl,_,hh,aa,hm,_,BZ,_⟩
    .subst pH;exact⟨A,0,default,xs,rfl,bb,λh=>absurd rfl h,b6,af,λj u hu=>by
      have:xs=[]:=by have:=b6.1;simpa[flat]using this
      subst this;simp at hu,bb⟩
    grind[hd,sb]
  .cases h
 .rename_i id lo n;split at h
  .rename_i im fF e f' dm ay;split at h
   .rename_i hle;cases h;obtain⟨au,dd,v,xs,bP,af,b6,e2⟩:=(ah.row id _ (cN _ _ ay)).Et;have hlen:((f'.drop lo).take n).length=n:=lu;have fU:flat ((f'.drop lo).take n)=((flat f').drop (lo*s.width)).take (n*s.width):=by rw[H7 (s:=s) _ _ (λx ak=>dd x (jx ak)),BW f' lo dd]
    have fo:=(b6.drop (lo*s.width)).take (n*s.width);rw[<-fU]at fo;have tn:∀e∈(f'.drop lo).take n,cb s e=true:=λe he=>dd e (jx (lr he));have kM:∀u∈(xs.drop (lo*s.width)).take (n*s.width),u.oneCell'=true:=λu hu=>af u (jx (lr hu));cases ar with
    |sub _ _ _ _ A m c wd cp=>
     rw[bP]at cp;simp only[ej,gU]at cp;obtain⟨rfl,rfl⟩:=cp;rcases e2 with⟨pH,_,qm,tu⟩|⟨g,cap,dM,cur,dQ,agw,_,hh,aa,hm,_,BZ,_⟩
     .subst pH;simp at hle;obtain⟨rfl,rfl⟩:=hle;refine⟨_,_,default,_,by rw[hlen],tn,λh=>absurd bb h,fo,kM,λj u hu=>?_,bb⟩;simp at hu
     .cases agw;refine⟨_,_,⟨g,dM+lo*s.width,none⟩,_,by rw[hlen],tn,λbO=>?_,fo,kM,λj u hu=>?_,by rw[hlen];omega⟩
      .have aJ:n≠0:=by rintro rfl;simp at bO
       rw[c0 al];simp[hd]
      grind[hd,sb]
   .cases h
  .cases h
theorem EC(ah:Rel w S B β og st a)(aY:Out w0 bh B w S)(cN:∀id x,lookup rowsV id=some x->lookup st.rows id=some x){cE:List TypeId}{x:AV}
  (aw:o.op=.call {callee:=.builtin .len,args:=args,argTypes:=ae})(h1:ae.toList=t::cE)(ak:hz P st.tm ae.toList args.toList=[x])
  (h:tc P rowsV t x y=some r)(bg:Good w0 bh B site o st y r K):o.cX R P a w K Q:=by
 have ar:=qi ah.tm P ae.toList args.toList
 rw[ak]at ar
 obtain⟨u,us,he,hu,aJ⟩:=ar.inv
 rw[aJ.gf]at he
 have hm:=tl args _ he
 have xd:ae[0]?=some t:=by rw[<-yB,h1];rfl
 unfold tc at h
 split at h
 .rename_i aQ;split at h
  .refine fI ah aY (.int _ _ _) h bg ?_;simp[execOp,aw,resolve,invoke,builtin,hm,Builtin.len_,xd,cA aQ,hu.hO,goInt,size_mk]
  .cases h
 .rename_i e aQ;split at h
  .rename_i n fU;cases x with
   |own id=>
    simp only[y']at fU;cases ay:lookup rowsV id with
    |none=>rw[ay]at fU;cases fU
    |some bo=>
     cases bo with
     |box _ _=>rw[ay]at fU;cases fU
     |arr _ _ _ _ _=>rw[ay]at fU;cases fU
     |cj im s e' pre cs post=>
      simp only[ay,ej]at fU;subst fU;obtain⟨dJ,di,g,bj,sp,xs,lb,cm,_,_,_,bP,_⟩:=ah.row id _ (cN _ _ ay);generalize pre.length+(post.length+1)=m at bP h;cases hu with
      |own _ _ da wd cp=>rw[bP]at cp;simp only[ej,gU]at cp;obtain⟨rfl,rfl⟩:=cp;refine fI ah aY (.int _ _ _) h bg ?_;simp[execOp,aw,resolve,invoke,builtin,hm,Builtin.len_,xd,cA aQ,goInt]
   |_=>simp[y']at fU
  split at h
  .rename_i s es gp;obtain⟨A,c,ad,xs,rfl,_⟩:=NU ah cN gp hu;refine fI ah aY (.int _ _ _) h bg ?_;exact TG
  .cases h
 .cases h
theorem NV(ah:Rel w S B β og st a)(aY:Out w0 bh B w S){x n:Int}{rest:List AV}
  (aw:o.op=.call {callee:=.builtin .min,args:=args,argTypes:=ae})(ak:hz P st.tm ae.toList args.toList=.int k x::rest)(aJ:minInt k x rest=some n)
  (aN:y {v:=.int k n}=some r)(bg:Good w0 bh B site o st y r K):o.cX R P a w K Q:=by
 have ar:=qi ah.tm P ae.toList args.toList
 rw[ak]at ar
 obtain⟨u,us,he,hu,an⟩:=ar.inv
 have hm:=tl args _ he
 refine fI ah aY (.int _ _ _) aN bg ?_
 have:=NS (P:=P) rest us x n aJ an
 simp[execOp,aw,resolve,invoke,builtin,hm,Builtin.min_,hu.eT,this]
theorem NW(ah:Rel w S B β og st a)(aY:Out w0 bh B w S){x n:Int}{rest:List AV}
  (aw:o.op=.call {callee:=.builtin .max,args:=args,argTypes:=ae})(ak:hz P st.tm ae.toList args.toList=.int k x::rest)(aJ:maxInt k x rest=some n)
  (aN:y {v:=.int k n}=some r)(bg:Good w0 bh B site o st y r K):o.cX R P a w K Q:=by
 have ar:=qi ah.tm P ae.toList args.toList
 rw[ak]at ar
 obtain⟨u,us,he,hu,an⟩:=ar.inv
 have hm:=tl args _ he
 refine fI ah aY (.int _ _ _) aN bg ?_
 have:=NT (P:=P) rest us x n aJ an
 simp[execOp,aw,resolve,invoke,builtin,hm,Builtin.max_,hu.eT,this]
theorem xw(h:l2 P e=true):∃i z,P.info? e=some i/\i.zero=some z/\i.size=(shOf P depth e).width/\0<i.size/\z.cells.size=i.size/\i.bytes=P.bytesOf e/\
  ∃hS,q3 P e=some hS/\gg (shOf P depth e).cells hS=true:=by
 unfold l2 at h
 cases hi:P.info? e with
 |none=>simp[hi]at h
 |some i=>
  simp only[hi,ba,h0]at h
  obtain⟨af,ao,a1,ca⟩:=h
  cases bp:i.zero with
  |none=>simp[bp]at a1
  |some z=>
   simp only[bp,h0]at a1
   grind[Nat.blt_eq,Program.bytesOf]
theorem Ih{α:Type}(dL:List α)(d:α)(n:Nat)(aJ:dL.length=n)(dJ:0<n):∀len:Nat,(List.range (len*n)).map (λj=>dL.getD (j%n) d)=(List.replicate len dL).flatten
 |0=>bb
 |len+1=>by
  have ih:=Ih dL d n aJ dJ len;rw[kB,Bg,Bh,List.range_add,yK,yC,yD];congr 1
  .apply yE;grind[Nat.mod_eq_of_lt]
  .rw[<-ih,p4];apply p5;intro j _;simp
def VRels.rep{cs:List AV}{vs:List Value}(h:VRels w S β cs vs):∀len:Nat,VRels w S β (List.replicate len cs).flatten (List.replicate len vs).flatten
 |0=>by simpa using VRels.nil
 |len+1=>by rw[yC,yC,yD,yD];exact h.append (VRels.rep h len)
theorem U2(s:Sh)(v:Value):(p' s v).cells=[p' s v]:=S2
theorem U3:∀(l:List Sh)(vs:List Value),∀c∈xf l vs,c.cells=[c]
 |_,[],c,aa=>by simp[xf]at aa
 |l,v::vs,c,aa=>by
  simp only[xf,gv]at aa;rcases aa with rfl|aa
  .exact U2 _ _
  .exact U3 _ vs c aa
theorem agx(s:Sh)(v:Value):∀c∈(oS s v).cells,c.cells=[c]:=by intro c aa;unfold oS at aa;grind[U3,AV.cells,U2]
def agy{z:List AV}(ay:z.length=s.width)(af:∀c∈z,c.cells=[c]):(dU s z).cells=z:=by
 cases s with
 |agg l=>rfl
 |_=>
  match z,ay with
  |[c],_=>exact af c bb
def Ii{aA:List AV}(h:gg s.cells aA=true):(dU s aA).cells=aA/\cb s (dU s aA)=true:=by
 have one:∀s:Sh,s.cells=[s]->(∀c,cb s c=fE s c)->(dU s aA=aA.headD .J)->gg s.cells aA=true->(dU s aA).cells=aA/\cb s (dU s aA)=true:=by
  intro s aU bc bw h;rw[aU]at h;cases aA with
  |nil=>simp[gg]at h
  |cons c cs=>
   cases cs with
   |cons=>simp[gg]at h
   |nil=>simp only[gg,oL]at h;rw[bw,bc];exact⟨(ql s c h).1,h⟩
 cases s with
 |agg l=>exact⟨rfl,h⟩
 |int k=>exact one (.int k) rfl (λ_=>rfl) rfl h
 |bool=>exact one .bool rfl (λ_=>rfl) rfl h
 |str=>exact one .str rfl (λ_=>rfl) rfl h
 |slice s=>exact one (.slice s) rfl (λ_=>rfl) rfl h
 |other=>exact one .other rfl (λ_=>rfl) rfl h
theorem HZ{dz:Value}{hS:List AV}(hi:P.info? e=some i)(fJ:i.zero=some dz)(hq:dz.cells.size=i.size)(dJ:0<i.size)(jO:q3 P e=some hS)(hh:gg (shOf P depth e).cells hS=true)(w:World)(S:Nat->Prop)(β:cD)(k:Nat):
  cb (shOf P depth e) (lI P e)=true/\VRels w S β (flat (List.replicate k (lI P e))) (Builtin.zeroCells dz.cells k).toList/\∀u∈(Builtin.zeroCells dz.cells k).toList,u.oneCell'=true:=by
 obtain⟨fG,v,eC,ar,ay,nG⟩:=H' jO
 rw[hi]at eC
 cases eC
 rw[fJ]at ar
 cases ar
 obtain⟨dL,ED,zz,mT⟩:=(BQ (w:=w) (S:=S) (β:=cq) (shOf P depth e) dz).laid ay (λ_ _ h=>cM)
 obtain⟨m1,m2⟩:=Ii hh
 have j':dL.length=i.size:=by rw[<-hq,ED];simp
 have Ij:(Builtin.zeroCells dz.cells k).toList=(List.replicate k dL).flatten:=by
  have aD:=Ih dL (default:Value) i.size j' dJ k;rw[<-aD];unfold Builtin.zeroCells;rw[ED];simp only[A3,j',LP,LQ];apply p5;intro j _;have aL:j%i.size<dL.length:=by rw[j'];exact Nat.mod_lt _ dJ
  simp[List.getD,fC aL,getElem!_pos dL.toArray (j%i.size) DQ]
 have fU:flat (List.replicate k (lI P e))=(List.replicate k hS).flatten:=by simp[flat,List.flatMap_replicate,lI,jO,m1]
 refine⟨by simpa[lI,jO]using m2,?_,?_⟩
 .rw[fU,Ij,nG];exact(zz.mono (λ_ h=>h) (λ_ _=>rfl) (λ_ _ h=>cM)).rep k
 simp_all
theorem EE(B1:∀b,S b->b<w.heap.size)(agz:∀b,B b->b<w.heap.size){dz:Value}{hS:List AV}(hi:P.info? e=some i)(fJ:i.zero=some dz)(hq:dz.cells.size=i.size)(dJ:0<i.size)(fR:i.size=(shOf P depth e).width)
  (jO:q3 P e=some hS)(hh:gg (shOf P depth e).cells hS=true)(kC:s=shOf P depth e){xs:List Value}(dd:∀x∈es,cb s x=true)(b6:VRels w S cq (flat es) xs)(af:∀u∈xs,u.oneCell'=true){cap:Nat}(aa:es.length<=cap)(hm:cap<=maxLen)
  {w1:World}(zA:w1.heap=w.heap){bD:cD}{id:Nat}(gK:bD id=some (.slice (some ⟨w.heap.size,0,none⟩) es.length cap,s.width)):
  eb (w1.alloc (.cells (xs.toArray++Builtin.zeroCells dz.cells (cap-es.length)) e)) S B bD id (some w.heap.size) (.arr false s e es none):=by
 have ag:=r9 w1 (.cells (xs.toArray++Builtin.zeroCells dz.cells (cap-es.length)) e)
 rw[zA]at ag
 obtain⟨dV,z2,z3⟩:=HZ (P:=P) hi fJ hq dJ jO hh (w1.alloc (.cells (xs.toArray++Builtin.zeroCells dz.cells (cap-es.length)) e)) S cq (cap-es.length)
 have ak:(xs.toArray++Builtin.zeroCells dz.cells (cap-es.length))=(xs++(Builtin.zeroCells dz.cells (cap-es.length)).toList).toArray:=ml
 refine⟨by rw[kC,<-fR];exact dJ,_,List.replicate (cap-es.length) (lI P e),xs++(Builtin.zeroCells dz.cells (cap-es.length)).toList,?_,(λc h=>cM),gK,?_,?_,.inr ⟨w.heap.size,[],rfl,?_,λh=>mK _ (agz _ h),?_,?_,λ_ an=>absurd (B1 _ an) (mK _),(λh=>cM)⟩⟩
 .intro x ak;rcases gD.1 ak with h|h
  .exact dd x h
  .rw[(DB.1 h).2,kC];exact dV
 .intro u hu;rcases gD.1 hu with h|h
  .exact af u h
  .exact z3 u h
 .rw[vM];exact(b6.mono (λ_ h=>h) (λb an=>by rw[ag.block b (B1 b an),zA]) (λ_ _ h=>h)).append z2
 .simp only[yL];show Value.slice (some ⟨_,0,_⟩) _ _=_;congr 1;omega
 .grind[heap_alloc_new,jQ.plain]
 .simp only[yL];omega
def zB{b:Nat}(h:roomB n b=true):n*b<=150000000000000/\n<=4611686018427387904:=by simp only[roomB,ba,nr,fD]at h;refine⟨?_,h.2⟩;rcases h.1 with h|⟨rfl,h⟩<;>omega
def Ik{b ld:Nat}(h:roomB n b=true)(aL:ld<n):Builtin.nextslicecap n ld*b<=281474976710656:=by
 simp only[roomB,ba,nr,fD]at h;rcases h.1 with h|⟨rfl,h⟩
 .exact growslice_fits aL h
 .have:=nextslicecap_le_wide (need:=n) aL;omega
def agA(t ty e:TypeId)(i:TypeInfo)(z:Value)(aQ:P.underlying t=some (.slice e))(hi:P.info? e=some i)(bp:i.zero=some z)(A:Option Addr)
  (ad:Addr)(n c:Nat)(news:List Value)(ay:news.length=n*i.size)(zy:∀(j:Nat)(v:Value),news[j]?=some v->w.cell? (ad.add j)=some v)
  (a7:0<n)(qs:(n:Int)<=9223372036854775807)(EF:n*i.bytes<=150000000000000):
  (Builtin.append_ #[t,t] ty #[.slice A 0 0,.slice (some ad) n c]).run P w=
   .ok (.slice (some ⟨w.heap.size,0,none⟩) n (grownCap w n 0 e)) (w.drew.alloc (.cells (news.toArray++Builtin.zeroCells z.cells (grownCap w n 0 e-n)) e)):=by
 cases A with
 |none=>exact run_append_nil w t ty e i z aQ hi bp ad n c news ay zy a7 qs al
 |some b=>
  have:=run_append_grow (P:=P) w t ty e i z aQ hi bp b 0 0 [] bb bb ad n c news ay zy al (by simpa using qs) (by rw[sX,nextslicecap_zero a7];omega)
  simpa using this
def EG(w:World)(x:Obj):Below w.heap.size w (w.drew.alloc x):=((Below.refl _ _).drew).alloc (dc _) x
def agB(t ty e:TypeId)(i:TypeInfo)(aQ:P.underlying t=some (.slice e))(hi:P.info? e=some i)(g dM n cap:Nat)(qt:Option Addr)(bX:Nat)(aa:n<=cap):
  (Builtin.append_ #[t,t] ty #[.slice (some ⟨g,dM,none⟩) n cap,.slice qt 0 bX]).run P w=.ok (.slice (some ⟨g,dM,none⟩) n cap) w:=by
 cases qt<;>simp[Builtin.append_,cA aQ,sizeOf,typeInfo,hi,Builtin.lenOf,Builtin.firstCells,loadCells,loadCellsFrom,storeCells,aa]
structure agC(P:Program)(w:World)(t b' e:TypeId)(i:TypeInfo)(z:Value)(u:Value)(n:Nat)(xs:List Value):Prop where
 Nq:n=0->∀(A:Option Addr)(ty:TypeId),(Builtin.append_ #[t,b'] ty #[.slice A 0 0,u]).run P w=.ok (.slice A 0 0) w
 zero:n=0->∀(g dM m cap:Nat)(ty:TypeId),m<=cap->(Builtin.append_ #[t,b'] ty #[.slice (some ⟨g,dM,none⟩) m cap,u]).run P w=.ok (.slice (some ⟨g,dM,none⟩) m cap) w
 U4:0<n->∀(A:Option Addr)(ty:TypeId),(n:Int)<=9223372036854775807->n*i.bytes<=150000000000000->(Builtin.append_ #[t,b'] ty #[.slice A 0 0,u]).run P w=
  .ok (.slice (some ⟨w.heap.size,0,none⟩) n (grownCap w n 0 e)) (w.drew.alloc (.cells (xs.toArray++Builtin.zeroCells z.cells (grownCap w n 0 e-n)) e))
 room:0<n->∀(g dM c8 sCap:Nat)(cur:Array Value)(mk:Bool)(ty:TypeId),jQ w g cur e mk->c8+n<=sCap->dM+c8*i.size+xs.length<=cur.size->(Builtin.append_ #[t,b'] ty #[.slice (some ⟨g,dM,none⟩) c8 sCap,u]).run P w=
  .ok (.slice (some ⟨g,dM,none⟩) (c8+n) sCap) (w.setRow g (cur.toList.take (dM+c8*i.size)++xs++cur.toList.drop (dM+c8*i.size+xs.length)).toArray)
 grow:0<n->∀(b:Addr)(c8 sCap:Nat)(kN:List Value)(ty:TypeId),kN.length=c8*i.size->(∀(j:Nat)(v:Value),kN[j]?=some v->w.cell? (b.add j)=some v)->sCap<c8+n->((c8+n:Nat):Int)<=9223372036854775807->Builtin.nextslicecap (c8+n) sCap*i.bytes<=281474976710656->
  (Builtin.append_ #[t,b'] ty #[.slice (some b) c8 sCap,u]).run P w=
  .ok (.slice (some ⟨w.heap.size,0,none⟩) (c8+n) (grownCap w (c8+n) sCap e)) (w.drew.alloc (.cells (kN.toArray++xs.toArray++Builtin.zeroCells z.cells (grownCap w (c8+n) sCap e-(c8+n))) e))
def xD(b:List UInt8):(iA b).length=b.length:=by unfold iA;simp
def U5(w:World)(S:Nat->Prop):∀b:List UInt8,VRels w S cq (flat (iA b)) (Lib.strCells ⟨b.toArray⟩)
 |[]=>VRels.nil
 |_::b=>VRels.cons (.int _ _ _) (U5 w S b)
theorem Np(ah:Rel w S B β og st a)(cN:∀id x,lookup rowsV id=some x->lookup st.rows id=some x){z:AV}{b':TypeId}{dz:Value}(h:q5 P t b' rowsV z=some (s,es))(ar:VRel w S β z u)
  (aQ:P.underlying t=some (.slice e))(hi:P.info? e=some i)(fJ:i.zero=some dz)(fR:i.size=s.width)(je:es.length<=maxLen):
  ∃xs:List Value,(∀e∈es,cb s e=true)/\VRels w S cq (flat es) xs/\(∀u∈xs,u.oneCell'=true)/\es.length<=maxLen/\xs.length=es.length*i.size/\agC P w t b' e i dz u es.length xs:=by
 unfold q5 at h
 split at h
 .rename_i mm;have agD:b'=t:=by simpa using mm
  subst agD;obtain⟨qt,bX,ad,xs,rfl,dd,Il,b6,af,o0,r'⟩:=NU ah cN h ar;have hlen:xs.length=es.length*i.size:=by rw[b6.1,lZ es dd,fR]
  have bO:0<es.length->qt=some ad:=λa7=>Il (λe=>by rw[e]at a7;exact mK _ a7);refine⟨xs,dd,b6,af,r',hlen,⟨λa7 A ty=>?_,λa7 g dM m cap ty hm=>?_,λa7 A ty qs EF=>?_,λa7 g dM c8 sCap cur mk ty ay aD aR=>?_,λa7 b c8 sCap kN ty l8 aw aB qs jL=>?_⟩⟩
  .rw[a7];cases A<;>cases qt<;>simp[Builtin.append_,cA aQ,sizeOf,typeInfo,hi,Builtin.lenOf,Builtin.firstCells,loadCells,loadCellsFrom,storeCells]
  .rw[a7];exact agB (P:=P) (w:=w) _ ty e i aQ hi g dM m cap qt bX hm
  .rw[bO a7];exact agA (P:=P) (w:=w) _ ty e i dz aQ hi fJ A ad es.length bX xs hlen o0 a7 qs EF
  .rw[bO a7];exact agv (P:=P) w _ ty e i aQ hi g dM c8 sCap cur ay ad es.length bX xs hlen o0 af aD aR
  .rw[bO a7];exact run_append_grow (P:=P) w _ ty e i dz aQ hi fJ b c8 sCap kN l8 aw ad es.length bX xs hlen o0 aB qs jL
 .split at h
  .rename_i hu;split at h
   .rename_i b;simp only[ej,gU]at h;obtain⟨rfl,rfl⟩:=h;rw[ar.hO];have cx:(ByteArray.mk b.toArray).size=b.length:=vq;have zA:i.size=1:=fR;have mU:(Lib.strCells ⟨b.toArray⟩).length=b.length:=by rw[Lib.strCells_length,cx]
    refine⟨Lib.strCells ⟨b.toArray⟩,λe he=>?_,U5 w S b,DC _,je,by rw[mU,zA,xD,yF],?_⟩
    .obtain⟨x,_,rfl⟩:=uj.1 he;rfl
    .rw[xD];refine⟨λa7 A ty=>?_,λa7 g dM m cap ty hm=>?_,λa7 A ty qs EF=>?_,λa7 g dM c8 sCap cur mk ty ay aD aR=>?_,λa7 eW c8 sCap kN ty l8 aw aB qs jL=>?_⟩
     .have ag:b=[]:=pn a7;subst ag;have nH:ByteArray.size {data:= #[]}=0:=rfl;cases A<;>simp[Builtin.append_,cA aQ,cA hu,sizeOf,typeInfo,hi,Builtin.lenOf,Builtin.firstCells,storeCells,nH]
     .have ag:b=[]:=pn a7;subst ag;have nH:ByteArray.size {data:= #[]}=0:=rfl;simp[Builtin.append_,cA aQ,cA hu,sizeOf,typeInfo,hi,Builtin.lenOf,Builtin.firstCells,storeCells,hm,nH]
     .have k2:Builtin.nextslicecap b.length 0*i.bytes<=281474976710656:=by rw[nextslicecap_zero a7];omega
      cases A with
      |none=>grind[run_append_nil_string,Lib.strCells]
      |some eW=>simp_all[Lib.run_append_grow_string]
     .obtain⟨fz,gV,agE⟩:=ay;have pI:=LV (P:=P) w 1 ⟨b.toArray⟩;have fx:=zx P g (dM+c8) e fz (Lib.strCells ⟨b.toArray⟩) 0 cur w agE (gV.imp id And.right) (by rw[zA]at aR;omega) (DC _);simp only[lX]at fx;rw[cx]at pI;rw[zA,yF];simp[Builtin.append_,cA aQ,cA hu,sizeOf,typeInfo,hi,zA,Builtin.lenOf,cx,aD,pI,hd,fx]
     grind[Lib.run_append_grow_string]
   .cases h
  .cases h
def agF(ah:Rel w S B β og st a)(aY:Out w0 bh B w S)(cN:∀id x,lookup rowsV id=some x->lookup st.rows id=some x)(aR:lN site st.used){b':TypeId}{z:AV}{eB:List AV}
  (aw:o.op=.call {callee:=.builtin .append,args:=args,argTypes:=ae})(h1:ae.toList=[t,b'])(ak:hz P st.tm ae.toList args.toList=[.bf s,z])(aQ:P.underlying t=some (.slice e))(bp:q5 P t b' rowsV z=some (s,eB))
  (kC:s=shOf P depth e)(gp:l2 P e=true)(h2:roomB eB.length (P.bytesOf e)=true)
  (aN:y {v:=.own site,new:=some (.arr false s e eB none)}=some r)(bg:Good w0 bh B site o st y r K):o.cX R P a w K Q:=by
 have ar:=qi ah.tm P ae.toList args.toList
 rw[ak]at ar
 obtain⟨u,us,he,hu,hI⟩:=ar.inv
 obtain⟨c2,No,rfl,BT,aJ⟩:=hI.inv
 rw[aJ.gf]at he
 have hm:=tl args _ he
 have mm:ae= #[t,b']:=Md
 obtain⟨i,dz,hi,fJ,fR,dJ,hq,nF,hS,jO,qn⟩:=xw gp
 obtain⟨k2,hy⟩:=zB h2
 obtain⟨xs,dd,b6,af,r',hlen,kL⟩:=Np ah cN bp BT aQ hi fJ (fR.trans (by rw[kC])) G2
 cases hu with
 |bf _ _ A=>
  rcases eB with _|⟨dw,tv⟩
  .have bu:=kL.Nq rfl A o.type;refine wp_value (u:=.slice A 0 0) (w':=w) S7 (bg _ _ _ aN ⟨S,_,_,ah.new site aR o.dst (Below.refl _ _) (λ_ h=>h) (λ_ _ h=>h) ah.dF
    (x:=.slice A 0 0) (wd:=s.width) (o:=none) rfl (λg aB=>w6) ⟨by rw[kC,<-fR];exact dJ,.slice A 0 0,[],[],bb,(λc h=>cM),cV _ _ _,bb,VRels.nil,.inl ⟨rfl,rfl,rfl,A,rfl⟩⟩ (.own _ site _ _ (cV _ _ _)),aY⟩)
  .have bu:=kL.U4 bb A o.type al (by rw[nF];exact k2);have ag:=EG w (.cells (xs.toArray++Builtin.zeroCells dz.cells (grownCap w (dw::tv).length 0 e-(dw::tv).length)) e);refine wp_value (u:=.slice (some ⟨w.heap.size,0,none⟩) (dw::tv).length (grownCap w (dw::tv).length 0 e)) L' (bg _ _ _ aN ⟨S,_,_,ah.new site aR o.dst ag (λ_ h=>h) (λ_ _ h=>h)
     (λb an=>DL) (x:=.slice (some ⟨w.heap.size,0,none⟩) (dw::tv).length (grownCap w (dw::tv).length 0 e)) (wd:=s.width) (o:=some w.heap.size) rfl (λg aB=>w2) ?_ (.own _ site _ _ (cV _ _ _)),aY.grow ah.dZ ag⟩)
   exact EE (w:=w) ah.dF ah.dZ hi fJ hq dJ fR jO qn kC dd b6 af (yG _ _ _ _) (yH _ _ _ _ r') (w1:=w.drew) rfl (cV _ _ _)
theorem Rel.qo(h:Rel w S B β og st a){id:Nat}(aR:lN site st.used)(dst:Option Tmp){r1:Row}{v:AV}{x:Value}{wd:Nat}{o':Option Nat}
  (aB:w.grownBy w' (og id))(hH:∀g,og id=some g->¬S g)(ak:x.oneCell'=true)(aw:∀g,o'=some g->(og id=some g\/w.heap.size<=g)/\g<w'.heap.size)
  (eN:eb w' S B (fK β site (some (x,wd))) site o' r1)(ar:VRel w' S (fK β site (some (x,wd))) v u):
  Rel w' S B (fK β site (some (x,wd))) (fK (fK og id none) site o') ⟨hl st.tm dst v,setRow (mn st.rows id) site r1,site::st.used⟩ (a.put dst u):=by
 have gK:∀id y,β id=some y->fK β site (some (x,wd)) id=some y:=λid y aN=>by have bO:id≠site:=λe=>aR.1 (by rw[<-e];exact h.used id y aN);rw[fl _ _ _ _ bO];exact aN
 have hw:∀b,S b->w'.heap[b]?=w.heap[b]?:=λb an=>aB.block b (h.dF b an) (λe=>hH b e.symm an)
 refine⟨HO (h.tm.mono (λ_ h=>h) hw gK) dst ar,Mf,λi y aN=>?_,λi fG g hr vQ=>?_,λi g hr=>?_,λi y aN=>?_,λi y aN=>?_,λb an=>jK (h.dF b an) aB.size,λb ag=>jK (h.dZ b ag) aB.size,H9 h.pid aR.2⟩
 .rw[px]at aN;by_cases e:i=site
  .subst e;simp only[dE]at aN;cases aN;rw[cV];exact eN
  .rw[c0 e,y7]at aN;by_cases e':i=id
   .rw[dE e']at aN;cases aN
   .rw[c0 e']at aN;rw[fl _ _ _ _ e,fl _ _ _ _ e'];refine(h.row i y aN).gJ gK (λ_ h=>h) (λ_ _ h=>h) hw (λg hr=>aB.block g (h.lt i g hr) (λbc=>e' (h.inj i id g hr bc.symm)))
 .have aux:∀i,i≠site->fK (fK og id none) site o' i=some g->og i=some g/\i≠id:=λi hi hr=>by grind[fl,cV]
  have fin:∀i,i≠site->fK (fK og id none) site o' i=some g->o'=some g->False:=λi hi hr hb=>by
   obtain⟨af,ao⟩:=aux i hi hr;rcases(aw g hb).1 with a1|a1
   .exact ao (h.inj i id g af a1)
   .have:=h.lt i g af;omega
  by_cases e:i=site<;>by_cases e':fG=site
  .rw[e,e']
  .subst e;rw[cV]at hr;exact(fin fG e' vQ hr).elim
  .subst e';rw[cV]at vQ;exact(fin i e hr vQ).elim
  .exact h.inj i fG g (aux i e hr).1 (aux fG e' vQ).1
 .by_cases e:i=site
  .subst e;rw[cV]at hr;exact(aw g hr).2
  .rw[fl _ _ _ _ e]at hr;by_cases e':i=id
   .rw[e',cV]at hr;cases hr
   .rw[fl _ _ _ _ e']at hr;exact jK (h.lt i g hr) aB.size
 .by_cases e:i=site
  .subst e;simp
  .exact TS
 .by_cases e:i=site
  .subst e;rw[cV]at aN;cases aN;exact ak
  .rw[fl _ _ _ _ e]at aN;exact h.one i y aN
end ops
section ops
variable{R:Option Nat}{aj:Type}{P:Program}{w0 w:World}{bh S:Nat->Prop}{B:Ctx}{β:cD}{og:Nat->Option Nat}{st:bC}{a:Act}{o:Oper}{site:Nat}{y:dx->Option aj}{r:aj}
 {K:Act->World->Prop}{Q:Exit->Act->World->Prop}
def Out.grownBy(aY:Out w0 bh B w S){row:Option Nat}(dy:∀b,B b->b<w.heap.size)(aB:w.grownBy w' row)(aD:∀k,row=some k->¬B k):Out w0 bh B w' S:=⟨aY.gL.trans (Kept.H4 aB dy aD),aY.sin,aY.sub⟩
def uF(w:World)(g:Nat)(cs:Array Value):w.grownBy (w.setRow g cs) (some g):=⟨rfl,rfl,rfl,bb,λk _ ai=>setRow_other w g k cs (λe=>ai w7)⟩
theorem agG(ah:Rel w S B β og st a)(aY:Out w0 bh B w S)(cN:∀id x,lookup rowsV id=some x->lookup st.rows id=some x)(aR:lN site st.used){b':TypeId}{z:AV}{eB:List AV}{id:Nat}
  (aw:o.op=.call {callee:=.builtin .append,args:=args,argTypes:=ae})(h1:ae.toList=[t,b'])(ak:hz P st.tm ae.toList args.toList=[.own id,z])(aQ:P.underlying t=some (.slice e))(bp:q5 P t b' rowsV z=some (s,eB))
  (ay:lookup rowsV id=some (.arr false s e es dm))(kC:s=shOf P depth e)(gp:l2 P e=true)(h2:roomB (es.length+eB.length) (P.bytesOf e)=true)
  (aN:y {v:=.own site,new:=some (.arr false s e (es++eB) none),del:=some id}=some r)(bg:Good w0 bh B site o st y r K):o.cX R P a w K Q:=by
 have ar:=qi ah.tm P ae.toList args.toList
 rw[ak]at ar
 obtain⟨u,us,he,hu,hI⟩:=ar.inv
 obtain⟨c2,No,rfl,BT,aJ⟩:=hI.inv
 rw[aJ.gf]at he
 have hm:=tl args _ he
 have mm:ae= #[t,b']:=bM
 obtain⟨i,dz,hi,fJ,fR,dJ,hq,nF,hS,jO,qn⟩:=xw gp
 obtain⟨k2,hy⟩:=zB h2
 obtain⟨lO,HX,xu,zr,r',BU,kL⟩:=Np ah cN bp BT aQ hi fJ (fR.trans (by rw[kC])) DS
 obtain⟨au,v,sp,xs,lA,gh,bP,af,b6,e2⟩:=ah.row id _ (cN _ _ ay)
 have dd:∀x∈es,cb s x=true:=λx ak=>lA x (wV _ ak)
 have hlen:xs.length=(es.length+sp.length)*i.size:=by rw[b6.1,lZ _ lA,fR,kC,fu]
 have BX:∀x∈es++eB,cb s x=true:=λx ak=>bM
 have kp:(xs.take (es.length*i.size)).length=es.length*i.size:=bM
 have agH:VRels w S cq (flat es) (xs.take (es.length*i.size)):=by have:=b6.take (es.length*i.size);rw[vM,wU SW,nn SW]at this;exact this
 have Eu:∀u∈xs.take (es.length*i.size)++lO,u.oneCell'=true:=λx ak=>bM
 have U6:VRels w S cq (flat (es++eB)) (xs.take (es.length*i.size)++lO):=by rw[vM];exact agH.append xu
 cases hu with
 |own _ _ da wd cp=>
  rw[bP]at cp
  simp only[ej,gU]at cp
  obtain⟨rfl,rfl⟩:=cp
  have lB:∀(x:Value)(w':World),(Builtin.append_ #[t,b'] o.type #[v,c2]).run P w=.ok x w'->(execOp a.eval o).run P w=.ok (.value x) w':=λx w' bu=>S7
  rcases e2 with⟨pH,zC,EH,A,rfl⟩|⟨g,bj,dQ,rfl,fj,hh,je,zD,_⟩
  .subst pH;subst zC;rcases eB with _|⟨dw,tv⟩
   .have bu:=kL.Nq rfl A o.type;refine wp_value (lB _ _ bu) (bg _ _ _ aN ⟨S,_,_,ah.qo (id:=id) aR o.dst (rQ w _) (λg aB=>bM) (x:=.slice A 0 0) (wd:=s.width) (o':=none) rfl (λg aB=>w6)
     ⟨au,.slice A 0 0,[],[],bb,(λc h=>cM),cV _ _ _,bb,VRels.nil,.inl ⟨rfl,rfl,rfl,A,rfl⟩⟩ (.own _ site _ _ (cV _ _ _)),aY⟩)
   .have bu:=kL.U4 bb A o.type (by simp at hy⊢;omega) bM;have ag:=EG w (.cells (lO.toArray++Builtin.zeroCells dz.cells (grownCap w (dw::tv).length 0 e-(dw::tv).length)) e);have aB:w.grownBy _ (og id):=⟨ag.os,ag.tape,ag.output,ag.size,λk ai _=>ag.block k ai⟩;refine wp_value (lB _ _ bu) (bg _ _ _ aN ⟨S,_,_,ah.qo (id:=id) aR o.dst aB (λg aB=>bM) (x:=.slice (some ⟨w.heap.size,0,none⟩) (dw::tv).length (grownCap w (dw::tv).length 0 e)) (wd:=s.width) (o':=some w.heap.size) rfl (λg aB=>w2) ?_ (.own _ site _ _ (cV _ _ _)),aY.grow ah.dZ ag⟩);exact EE (w:=w) ah.dF ah.dZ hi fJ hq dJ fR jO qn kC HX xu zr (yG _ _ _ _) (yH _ _ _ _ r') (w1:=w.drew) rfl (cV _ _ _)
  .have hH:∀fm,og id=some fm->¬S fm:=λfm dK=>bM;have agI:eB.length=0->eB=[]:=pn;by_cases a7:eB=[]
   .subst a7;have bu:=kL.zero rfl g bj.length es.length (es.length+sp.length) o.type al;refine wp_value (lB _ _ bu) (bg _ _ _ aN ⟨S,_,_,ah.qo (id:=id) aR o.dst (rQ w _) hH (x:=.slice (some ⟨g,bj.length,none⟩) es.length (es.length+sp.length)) (wd:=s.width) (o':=some g) rfl
      (λx ak=>GS) ?_ (.own _ site _ _ (cV _ _ _)),aY⟩)
    rw[jy];exact⟨au,_,sp,xs,lA,(λc h=>cM),cV _ _ _,af,b6,.inr ⟨g,bj,rfl,rfl,fj,hh,je,zD,(λh=>cM)⟩⟩
   .have U7:0<eB.length:=Nat.pos_of_ne_zero (λe=>a7 (agI e));by_cases agJ:es.length+eB.length<=es.length+sp.length
    .have jL:es.length*i.size+lO.length<=xs.toArray.size:=by simp_all[A3,kB,sW]
     have agK:bj.length+es.length*i.size+lO.length<=(bj++xs).toArray.size:=bM;have bu:=kL.room U7 g bj.length es.length (es.length+sp.length) (bj++xs).toArray _ o.type hh agJ agK;have agL:((bj++xs).toArray.toList.take (bj.length+es.length*i.size)++lO++(bj++xs).toArray.toList.drop (bj.length+es.length*i.size+lO.length)).toArray=(bj++(xs.toArray.toList.take (es.length*i.size)++lO++xs.toArray.toList.drop (es.length*i.size+lO.length))).toArray:=by simp_all[uf,Gz,St,nm]
     rw[agL]at bu;have hE:=uF w g (bj++(xs.toArray.toList.take (es.length*i.size)++lO++xs.toArray.toList.drop (es.length*i.size+lO.length))).toArray;have hw:∀b,S b->(w.setRow g (bj++(xs.toArray.toList.take (es.length*i.size)++lO++xs.toArray.toList.drop (es.length*i.size+lO.length))).toArray).heap[b]?=w.heap[b]?:=λb an=>hE.block b (ah.dF b an) (λe=>bM);refine wp_value (lB _ _ bu) (bg _ _ _ aN ⟨S,_,_,ah.qo (id:=id) aR o.dst vr hH (x:=.slice (some ⟨g,bj.length,none⟩) (es.length+eB.length) (es.length+sp.length)) (wd:=s.width) (o':=some g) rfl
      (λx ak=>SL) ?_ (.own _ site _ _ (cV _ _ _)),aY.grownBy ah.dZ hE (λk ai=>DP)⟩)
     have agM:∀x∈(es++eB)++sp.drop eB.length,cb s x=true:=λx ak=>bM;have agN:flat (sp.drop eB.length)=(flat (es++sp)).drop (es.length*i.size+lO.length):=by
      have hle:(flat es).length<=es.length*i.size+lO.length:=by rw[lZ es dd,fR,kC];omega
      rw[BW sp _ (λx ak=>lA x (List.mem_append_right _ ak)),vM,List.drop_append,GH hle,pj];congr 1;rw[lZ es dd,BU,fR,kC];omega
     refine⟨au,_,sp.drop eB.length,_,agM,(λc h=>cM),cV _ _ _,?_,?_,.inr ⟨g,bj,rfl,?_,fj,hh.setRow bM,?_,zD,(λh=>cM)⟩⟩
     .grind
     .refine VRels.mono (w:=w) (S:=S) (β:=cq) ?_ (λ_ h=>h) hw (λ_ _ h=>h);rw[vM,agN];exact U6.append (b6.drop _)
     .grind
     grind
    .have holds:∀(j:Nat)(u:Value),(xs.take (es.length*i.size))[j]?=some u->w.cell? ((⟨g,bj.length,none⟩:Addr).add j)=some u:=by
       intro j u hu;rw[hd,sb hh,behind];rw[AX]at hu;split at hu
       .exact hu
       .cases hu
     have avF:es.length+eB.length<=maxLen:=DS;have bu:=kL.grow U7 ⟨g,bj.length,none⟩ es.length (es.length+sp.length) _ o.type kp holds al al (by simp_all[Ik]);rw[show(xs.take (es.length*i.size)).toArray++lO.toArray=(xs.take (es.length*i.size)++lO).toArray by simp]at bu;have ag:=EG w (.cells ((xs.take (es.length*i.size)++lO).toArray++Builtin.zeroCells dz.cells (grownCap w (es.length+eB.length) (es.length+sp.length) e-(es.length+eB.length))) e);have aB:w.grownBy _ (og id):=⟨ag.os,ag.tape,ag.output,ag.size,λk ai _=>ag.block k ai⟩;refine wp_value (lB _ _ bu) (bg _ _ _ aN ⟨S,_,_,ah.qo (id:=id) aR o.dst aB hH (x:=.slice (some ⟨w.heap.size,0,none⟩) (es.length+eB.length) (grownCap w (es.length+eB.length) (es.length+sp.length) e)) (wd:=s.width) (o':=some w.heap.size) rfl (λg aB=>w2) ?_ (.own _ site _ _ (cV _ _ _)),aY.grow ah.dZ ag⟩);rw[<-fu];exact EE (w:=w) ah.dF ah.dZ hi fJ hq dJ fR jO qn kC BX U6 Eu (yG _ _ _ _) (yH _ _ _ _ bM) (w1:=w.drew) rfl (cV _ _ _)
def Rel.congr(h:Rel w S B β og st a){rows':List (Nat×Row)}(he:∀i,lookup rows' i=lookup st.rows i):Rel w S B β og ⟨st.tm,rows',st.used⟩ a:=⟨h.tm,h.df,λid r aD=>h.row id r ((he id).symm.trans aD),h.inj,h.lt,h.used,h.one,h.dF,h.dZ,h.pid⟩
theorem Rel.modify(h:Rel w S B β og st a){id:Nat}{r1:Row}(aB:w.grownBy w' (og id))(cx:w'.heap.size=w.heap.size)(hH:∀g,og id=some g->¬S g)(eN:eb w' S B β id (og id) r1):
  Rel w' S B β og ⟨st.tm,setRow st.rows id r1,st.used⟩ a:=by
 have hw:∀b,S b->w'.heap[b]?=w.heap[b]?:=λb an=>aB.block b (h.dF b an) (λe=>hH b e.symm an)
 refine⟨h.tm.mono (λ_ h=>h) hw (λ_ _ h=>h),h.df,λi y aN=>?_,h.inj,λi g hr=>by rw[cx];exact h.lt i g hr,h.used,h.one,λb an=>by rw[cx];exact h.dF b an,λb an=>by rw[cx];exact h.dZ b an,h.pid⟩
 rw[px]at aN
 by_cases e:i=id
 .grind
 .rw[c0 e]at aN;exact(h.row i y aN).gJ (λ_ _ h=>h) (λ_ h=>h) (λ_ _ h=>h) hw (λg hr=>aB.block g (h.lt i g hr) (λbc=>e (h.inj i id g hr bc.symm)))
theorem VRels.eM{ds:List AV}{vs:List Value}(h:VRels w S β cs vs)(h':VRels w S β ds us)(off:Nat):VRels w S β (eM cs off ds) (vs.take off++us++vs.drop (off+us.length)):=by unfold Go.Ev.eM;rw[h'.1];exact((h.take off).append h').append (h.drop _)
theorem agO(ah:Rel w S B β og st a)(aY:Out w0 bh B w S){id:Nat}(aw:o.op=.store t x z)(pJ:(cw P st.tm t z).laidB=true)(aJ:(cw P st.tm t z).cells.length=P.cellsOf t)(hU:P.cellsOf t≠0)
  (ak:val st.tm x=.ptr id off)(ay:lookup st.rows id=some (.box false cs))(hle:off+(cw P st.tm t z).cells.length<=cs.length)
  (aN:y {v:=.undef,mod:=some (id,.box false (eM cs off (cw P st.tm t z).cells))}=some r)(bg:Good w0 bh B site o st y r K):o.cX R P a w K Q:=by
 obtain⟨us,o2,e6,lf⟩:=(iP ah.tm P t z).laid pJ ah.one
 have au:=eV ah.tm x
 rw[ak]at au
 obtain⟨g,vs,v0,dQ,bP,ep,b6,lL,_,fj⟩:=ah.row id _ ay
 obtain⟨i,hi,EI⟩:=xB hU
 generalize he:a.eval x=u at au
 cases au with
 |ptr _ _ _ fm wd cp=>
  rw[bP]at cp
  simp only[ej,gU]at cp
  obtain⟨dw,hy⟩:=cp
  obtain⟨tq,⟨kb,hh⟩,af⟩:=ep.ptr dw
  subst tq
  subst dw
  have jP:us.length=P.cellsOf t:=Bo
  have fx:=run_storeCells_at P g off kb us 0 vs.toArray w hh (by simp;rw[b6.1,e6.1];exact hle) lf
  simp only[lX]at fx
  have hH:∀fm,og id=some fm->¬S fm:=λfm dK=>bM
  have hE:=uF w g (vs.take off++us++vs.drop (off+us.length)).toArray
  have hw:∀b,S b->(w.setRow g (vs.take off++us++vs.drop (off+us.length)).toArray).heap[b]?=w.heap[b]?:=λb an=>hE.block b (ah.dF b an) (λe=>bM)
  have eN:eb (w.setRow g (vs.take off++us++vs.drop (off+us.length)).toArray) S B β id (og id) (.box false (eM cs off (cw P st.tm t z).cells)):=by
   refine⟨g,_,_,dQ,bP,.inl ⟨⟨kb,setRow_heap w g _ _ kb _ hh⟩,rfl,?_⟩,(b6.eM e6 off).mono (λ_ h=>h) hw (λ_ _ h=>h),λ_=>lL rfl,(λh=>cM),fj⟩;intro u hu;simp only[gD]at hu;rcases hu with(hu|hu)|hu
   .grind
   .exact lf u hu
   grind
  refine wp_skip' (w':=w.setRow g (vs.take off++us++vs.drop (off+us.length)).toArray) ?_ (bg _ _ _ aN ⟨S,β,og,(ah.modify (id:=id) vr bb hH eN).put o.dst (.undef _),aY.grownBy ah.dZ hE (λk ai=>DP)⟩)
  exact Hs
theorem Ej{c d:AV}{v:Value}(h:VRel w S β (.tup [c,d]) (.tuple #[u,v])):VRel w S β c u/\VRel w S β d v:=by
 generalize aH:(Value.tuple #[u,v])=q at h;cases h with
 |tup _ _ us ay hh=>have e6:us=[u,v]:=bM;subst e6;exact⟨hh 0 _ _ rfl rfl,hh 1 _ _ rfl rfl⟩
end ops
section ops
variable{R:Option Nat}{aj:Type}{P:Program}{w0 w:World}{bh S:Nat->Prop}{B:Ctx}{β:cD}{og:Nat->Option Nat}{st:bC}{a:Act}{o:Oper}{site:Nat}{y:dx->Option aj}{r:aj}
 {K:Act->World->Prop}{Q:Exit->Act->World->Prop}
def U8(h:cb s (dU s cs)=true)(ay:cs.length=s.width):(dU s cs).cells=cs:=by
 cases s with
 |agg l=>rfl
 |other=>
  have af:fE .other (dU .other cs)=true:=h;obtain⟨aU,_⟩:=ql _ _ af;rw[aU]
  match cs,ay with
  |[c],_=>rfl
 |int k=>
  have af:fE (.int k) (dU (.int k) cs)=true:=h;obtain⟨aU,_⟩:=ql _ _ af;rw[aU]
  match cs,ay with
  |[c],_=>rfl
 |bool=>
  have af:fE .bool (dU .bool cs)=true:=h;obtain⟨aU,_⟩:=ql _ _ af;rw[aU]
  match cs,ay with
  |[c],_=>rfl
 |str=>
  have af:fE .str (dU .str cs)=true:=h;obtain⟨aU,_⟩:=ql _ _ af;rw[aU]
  match cs,ay with
  |[c],_=>rfl
 |slice s=>
  have af:fE (.slice s) (dU (.slice s) cs)=true:=h;obtain⟨aU,_⟩:=ql _ _ af;rw[aU]
  match cs,ay with
  |[c],_=>rfl
theorem NX{s:Sh}:∀(es:List AV)(i:Nat)(x:AV),(∀e∈es,cb s e=true)->cb s x=true->i<es.length->flat (es.set i x)=(flat es).take (i*s.width)++x.cells++(flat es).drop (i*s.width+s.width)
 |[],i,x,_,_,h=>k1
 |e::es,0,x,an,ak,_=>by grind[vK,flat]
 |e::es,i+1,x,an,ak,h=>by
  have hw:=vK s e (an e bb);have ih:=NX es i x (λy aN=>an y y1) ak qT;simp only[List.set_cons_succ];simp only[flat,mg]at ih⊢;have aU:(i+1)*s.width=e.cells.length+i*s.width:=by rw[hw,kB,Bg,Bh]
  have bc:e.cells.length+i*s.width+s.width=e.cells.length+(i*s.width+s.width):=al;exact TT
def NY:∀(l:List Sh)(cs:List AV),(Bk l cs).length=l.length
 |[],_=>rfl
 |s::l,cs=>by simp[Bk,NY l]
theorem U9{α:Type}(xs cm:List α)(p q n:Nat)(aH:q+cm.length<=n)(aJ:p+n<=xs.length):
  xs.take p++(((xs.drop p).take n).take q++cm++((xs.drop p).take n).drop (q+cm.length))++xs.drop (p+n)=xs.take (p+q)++cm++xs.drop (p+q+cm.length):=by
 have ay:n<=(xs.drop p).length:=lu
 have aU:((xs.drop p).take n).take q=(xs.drop p).take q:=by rw[List.take_take];congr 1;omega
 have bc:((xs.drop p).take n).drop (q+cm.length)++xs.drop (p+n)=xs.drop (p+q+cm.length):=by
  have:xs.drop (p+q+cm.length)=(xs.drop p).drop (q+cm.length):=by rw[AY];congr 1;omega
  rw[this];have ao:xs.drop (p+n)=(xs.drop p).drop n:=by rw[AY]
  rw[ao];generalize xs.drop p=dL at ay;conv=>rhs;rw[<-uh n dL]
  rw[List.drop_append_of_le_length lu]
 grind
theorem xE{α:Type}(A B u:List α)(k n:Nat):(A++B).take (A.length+k)++u++(A++B).drop (A.length+k+n)=A++(B.take k++u++B.drop (k+n)):=by grind[List.take_length_add_append,List.drop_length_add_append]
theorem agP(ah:Rel w S B β og st a)(aY:Out w0 bh B w S)(cN:∀id x,lookup rowsV id=some x->lookup st.rows id=some x){id i:Nat}{da:AV}(aw:o.op=.store t x z)
  (ak:val st.tm x=.eptr id i off)(uk:cB rowsV depth (cw P st.tm t z)=some (da,ids))(ay:lookup rowsV id=some (.arr false s e es dm))(Hc:ids.contains id=false)(pJ:da.laidB=true)(aJ:da.cells.length=P.cellsOf t)(hU:P.cellsOf t≠0)
  (hle:off+P.cellsOf t<=s.width)(mq:cb s (dU s (eM (hj s (es.getD i .J)) off da.cells))=true)(hi:i<es.length)
  (aN:y {v:=.undef,mod:=some (id,.arr false s e (es.set i (dU s (eM (hj s (es.getD i .J)) off da.cells))) dm),bW:=ids}=some r)(bg:Good w0 bh B site o st y r K):o.cX R P a w K Q:=by
 have dt:∀id∈ids,∃r,lookup st.rows id=some r:=λid hid=>GP
 have rh:=oU (w:=w) (S:=S) (B:=B) (β:=β) (og:=og) (rows:=rowsV) (λid x ak=>ah.row id x (cN _ _ ak)) depth _ _ _ _ uk (iP ah.tm P t z)
 obtain⟨us,o2,e6,lf⟩:=rh.laid pJ (λ_ _ h=>cM)
 have hF:=ah.freeze ids
 have mr:=aY.freeze ah ids dt
 have qV:id∉ids:=Hb
 have Em:lookup (il ids st.rows) id=some (.arr false s e es dm):=S8
 obtain⟨au,v,sp,xs,lA,gh,bP,af,b6,e2⟩:=hF.row id _ Em
 have dd:∀x∈es,cb s x=true:=λx ak=>lA x (wV _ ak)
 have pK:=eV ah.tm x
 rw[ak]at pK
 obtain⟨ii,iF,EI⟩:=xB hU
 have jP:us.length=P.cellsOf t:=Bo
 generalize he:a.eval x=u at pK
 cases pK with
 |eptr _ _ _ _ g n c wd dM cp=>
  rw[bP]at cp
  simp only[ej,gU]at cp
  obtain⟨rfl,rfl⟩:=cp
  rcases e2 with⟨pH,_⟩|⟨fm,bj,dQ,fo,fj,hh,je,lL,_⟩
  .subst pH;simp at hi
  .simp at fo;obtain⟨⟨rfl,rfl⟩,rfl,rfl⟩:=fo;have hw:s.width<=s.width*es.length-s.width*i:=by have:s.width*(i+1)<=s.width*es.length:=Nat.mul_le_mul_left _ hi;rw[Nat.mul_add,yF]at this;omega
   have hbound:i*s.width+s.width<=es.length*s.width:=bM;have kp:xs.length=es.length*s.width+sp.length*s.width:=by rw[b6.1,lZ _ lA,fu,kB]
   have agQ:i<(es++sp).length:=Mj;have fx:=hh.H0 (P:=P) (bj.length+(i*s.width+off)) us 0 lu lf;simp only[lX,xE]at fx;have hH:∀fm,og id=some fm->¬cr S og ids fm:=λfm dK=>bM;have hE:=uF w g (bj++(xs.take (i*s.width+off)++us++xs.drop (i*s.width+off+us.length))).toArray;have o3:∀b,cr S og ids b->(w.setRow g (bj++(xs.take (i*s.width+off)++us++xs.drop (i*s.width+off+us.length))).toArray).heap[b]?=w.heap[b]?:=λb an=>hE.block b (hF.dF b an) (λe=>bM);have sc:es[i]?=some es[i]:=fC hi;have NZ:es.getD i .J=es[i]:=by simp[sc]
   have Im:cb s es[i]=true:=dd _ (p3 hi);have gp:VRels w (cr S og ids) cq (hj s (es.getD i .J)) ((xs.drop (i*s.width)).take s.width):=by have fo:=(b6.drop (i*s.width)).take s.width;rw[H6 (es++sp) i es[i] lA bM]at fo;rw[NZ];exact BR _ _ _ (Er s _ Im) fo
   have U':(hj s (es.getD i .J)).length=s.width:=NY _ _;have N0:(eM (hj s (es.getD i .J)) off da.cells).length=s.width:=by grind[eM,List.length_append,List.length_take,List.length_drop]
   have vR:=U8 mq N0;have eN:eb (w.setRow g (bj++(xs.take (i*s.width+off)++us++xs.drop (i*s.width+off+us.length))).toArray) (cr S og ids) B β id (og id) (.arr false s e (es.set i (dU s (eM (hj s (es.getD i .J)) off da.cells))) dm):=by
    have tw:es.set i (dU s (eM (hj s (es.getD i .J)) off da.cells))++sp=(es++sp).set i (dU s (eM (hj s (es.getD i .J)) off da.cells)):=by rw[List.set_append_left _ _ hi]
    refine⟨au,_,sp,xs.take (i*s.width+off)++us++xs.drop (i*s.width+off+us.length),λy aN=>?_,gh,bP,λu hu=>?_,?_,.inr ⟨g,bj,dQ,by rw[oJ],fj,hh.setRow bM,bM,λ_=>lL rfl,(λh=>cM)⟩⟩
    .grind
    .grind
    .refine VRels.mono (w:=w) (S:=cr S og ids) (β:=cq) ?_ (λ_ h=>h) o3 (λ_ _ h=>h);rw[tw,NX (es++sp) i _ lA mq agQ,vR,<-U9 xs us (i*s.width) off s.width al al];exact Tz
   have dI:=hF.modify (id:=id) vr bb hH eN;have zq:=dI.congr (rows':=eI site {v:=.undef,mod:=some (id,.arr false s e (es.set i (dU s (eM (hj s (es.getD i .J)) off da.cells))) dm),bW:=ids} st.rows) (λk=>Mb);refine wp_skip' (w':=w.setRow g (bj++(xs.take (i*s.width+off)++us++xs.drop (i*s.width+off+us.length))).toArray) ?_ (bg _ _ _ aN ⟨_,β,og,zq.put o.dst (.undef _),mr.grownBy hF.dZ hE (λk ai=>DP)⟩);exact Hs
def Va{α:Type}(A B u:List α)(k n:Nat)(h:k+n<=A.length):(A++B).take k++u++(A++B).drop (k+n)=(A.take k++u++A.drop (k+n))++B:=bM
def Io{vs:List Value}{m:Nat}(af:∀u∈vs,u.oneCell'=true)(ao:∀u∈us,u.oneCell'=true):∀u∈vs.take m++us++vs.drop n,u.oneCell'=true:=λu hu=>bM
def Vb{xs:List Value}{i:Nat}{eY:List AV}(dd:∀x∈es,cb s x=true)(b6:VRels w S cq (flat es) xs)(e6:VRels w S cq eY us)(hi:i<es.length)
  (hle:off+us.length<=s.width)(mq:cb s (dU s (eM (hj s (es.getD i .J)) off eY))=true):
  VRels w S cq (flat (es.set i (dU s (eM (hj s (es.getD i .J)) off eY)))) (xs.take (i*s.width+off)++us++xs.drop (i*s.width+off+us.length)):=by
 have sc:es[i]?=some es[i]:=fC hi
 have NZ:es.getD i .J=es[i]:=by simp[sc]
 have Im:cb s es[i]=true:=dd _ (p3 hi)
 have hbound:i*s.width+s.width<=es.length*s.width:=SK
 have kp:xs.length=es.length*s.width:=by rw[b6.1,lZ _ dd]
 have gp:VRels w S cq (hj s (es.getD i .J)) ((xs.drop (i*s.width)).take s.width):=by have fo:=(b6.drop (i*s.width)).take s.width;rw[H6 es i es[i] dd sc]at fo;rw[NZ];exact BR _ _ _ (Er s _ Im) fo
 have U':(hj s (es.getD i .J)).length=s.width:=NY _ _
 have N0:(eM (hj s (es.getD i .J)) off eY).length=s.width:=by have:=e6.1;simp only[eM,fu,wQ,mJ,U'];omega
 rw[NX es i _ dd mq hi,U8 mq N0,<-U9 xs us (i*s.width) off s.width al al]
 exact Tz
def N1(ah:Rel w S B β og st a)(aY:Out w0 bh B w S)(dt:∀id∈ids,∃r,lookup st.rows id=some r){id g k:Nat}{L:List Value}{m:Bool}{bo r1:Row}(aw:o.op=.store t x z)
  (he:a.eval x=.pointer (some ⟨g,k,none⟩))(ay:lookup st.rows id=some bo)(qV:id∉ids)(dQ:og id=some g)(lL:¬cr S og ids g)(fj:¬B g)(hh:jQ w g L.toArray e m)(o2:(a.eval z).cells=us.toArray)(lf:∀u∈us,u.oneCell'=true)
  (jP:us.length=P.cellsOf t)(hU:P.cellsOf t≠0)(ag:k+us.length<=L.length)
  (eN:(∀b,cr S og ids b->(w.setRow g (L.take k++us++L.drop (k+us.length)).toArray).heap[b]?=w.heap[b]?)->jQ (w.setRow g (L.take k++us++L.drop (k+us.length)).toArray) g (L.take k++us++L.drop (k+us.length)).toArray e m->
   eb (w.setRow g (L.take k++us++L.drop (k+us.length)).toArray) (cr S og ids) B β id (og id) r1)
  (aN:y {v:=.undef,mod:=some (id,r1),bW:=ids}=some r)(bg:Good w0 bh B site o st y r K):o.cX R P a w K Q:=by
 have hF:=ah.freeze ids
 have mr:=aY.freeze ah ids dt
 obtain⟨ii,iF,EI⟩:=xB hU
 have fx:=hh.H0 (P:=P) k us 0 DT lf
 simp only[lX]at fx
 have hH:∀fm,og id=some fm->¬cr S og ids fm:=λfm dK=>bM
 have hE:=uF w g (L.take k++us++L.drop (k+us.length)).toArray
 have o3:∀b,cr S og ids b->(w.setRow g (L.take k++us++L.drop (k+us.length)).toArray).heap[b]?=w.heap[b]?:=λb an=>hE.block b (hF.dF b an) (λe=>by cases e;exact lL an)
 have rV:=eN o3 (hh.setRow bM)
 have dI:=hF.modify (id:=id) vr bb hH rV
 have zq:=dI.congr (rows':=eI site {v:=.undef,mod:=some (id,r1),bW:=ids} st.rows) (λk=>Mb)
 refine wp_skip' (w':=w.setRow g (L.take k++us++L.drop (k+us.length)).toArray) ?_ (bg _ _ _ aN ⟨_,β,og,zq.put o.dst (.undef _),mr.grownBy hF.dZ hE (λk ai=>DP)⟩)
 exact Hs
theorem agR{rows:List (Nat×Row)}{id:Nat}{x:Sh×TypeId×List AV×List AV×List AV}(h:BB rows id=some x):lookup rows id=some (.cj false x.1 x.2.1 x.2.2.1 x.2.2.2.1 x.2.2.2.2):=by grind[BB]
theorem agS(ah:Rel w S B β og st a)(aY:Out w0 bh B w S){id:Nat}(aw:o.op=.store t x z)
  (ak:val st.tm x=.eptr id pre.length off)(ay:lookup st.rows id=some (.cj false s e pre cs post))(pJ:(cw P st.tm t z).laidB=true)(aJ:(cw P st.tm t z).cells.length=P.cellsOf t)(hU:P.cellsOf t≠0)
  (hle:off+(cw P st.tm t z).cells.length<=cs.length)
  (aN:y {v:=.undef,mod:=some (id,.cj false s e pre (eM cs off (cw P st.tm t z).cells) post)}=some r)(bg:Good w0 bh B site o st y r K):o.cX R P a w K Q:=by
 obtain⟨us,o2,e6,lf⟩:=(iP ah.tm P t z).laid pJ ah.one
 have pK:=eV ah.tm x
 rw[ak]at pK
 obtain⟨dJ,di,g,bj,sp,xs,vs,cm,lM,j8,dQ,bP,af,iE,hR,jr,fj,hh,hm,hi,_⟩:=ah.row id _ ay
 have zv:xs.length=pre.length*s.width:=iE.1.trans (lZ pre lM)
 have jP:us.length=P.cellsOf t:=Bo
 generalize he:a.eval x=u at pK
 cases pK with
 |eptr _ _ _ _ fm n c wd dM cp=>
  rw[bP]at cp
  simp only[ej,gU,vn,DH]at cp
  obtain⟨⟨⟨rfl,rfl,_⟩,_⟩,rfl⟩:=cp
  have Vc:vs.length=cs.length:=hR.1
  have ag:bj.length+(xs.length+off)+us.length<=(bj++(xs++(vs++cm))).length:=bM
  have eD:(bj++(xs++(vs++cm))).take (bj.length+(xs.length+off))++us++(bj++(xs++(vs++cm))).drop (bj.length+(xs.length+off)+us.length)=bj++(xs++((vs.take off++us++vs.drop (off+us.length))++cm)):=by rw[xE,xE,Va vs cm us off us.length (by have:=e6.1;omega)]
  refine N1 ah aY (ids:=[]) (λ_ h=>cM) aw (k:=bj.length+(xs.length+off)) (by rw[he,zv]) ay bb dQ (λh=>?_) fj hh o2 lf jP hU ag (λo3 xF=>?_) aN bg
  .rcases h with h|⟨i,eC,_⟩
   .exact hi rfl h
   .cases eC
  .rw[eD]at o3 xF⊢;have vS:∀{bD:cD}{c:List AV}{v:List Value},VRels w S bD c v->VRels (w.setRow g (bj++(xs++((vs.take off++us++vs.drop (off+us.length))++cm))).toArray) (cr S og []) bD c v:=λh=>(h.hk (S':=cr S og []) λb=>cr.left).mono (λ_ h=>h) o3 (λ_ _ h=>h);refine⟨dJ,?_,g,bj,sp,xs,vs.take off++us++vs.drop (off+us.length),cm,lM,j8,dQ,bP,λu hu=>?_,vS iE,vS (hR.eM e6 off),vS jr,fj,xF,hm,λ_ h=>?_,(λh=>cM)⟩
   .have:=e6.1;simp only[eM,fu,wQ,mJ];omega
   .grind
   .rcases h with h|⟨i,eC,_⟩
    .exact hi rfl h
    .cases eC
theorem agT(ah:Rel w S B β og st a)(aY:Out w0 bh B w S)(cN:∀id x,lookup rowsV id=some x->lookup st.rows id=some x){id i:Nat}{da:AV}(aw:o.op=.store t x z)
  (ak:val st.tm x=.eptr id i off)(uk:cB rowsV depth (cw P st.tm t z)=some (da,ids))(ay:lookup rowsV id=some (.cj false s e pre cs post))(Hc:ids.contains id=false)(pJ:da.laidB=true)(aJ:da.cells.length=P.cellsOf t)(hU:P.cellsOf t≠0)
  (hle:off+P.cellsOf t<=s.width)(mq:cb s (dU s (eM (hj s (pre.getD i .J)) off da.cells))=true)(hi:i<pre.length)
  (aN:y {v:=.undef,mod:=some (id,.cj false s e (pre.set i (dU s (eM (hj s (pre.getD i .J)) off da.cells))) cs post),bW:=ids}=some r)(bg:Good w0 bh B site o st y r K):o.cX R P a w K Q:=by
 have dt:∀id∈ids,∃r,lookup st.rows id=some r:=λid hid=>GP
 have rh:=oU (w:=w) (S:=S) (B:=B) (β:=β) (og:=og) (rows:=rowsV) (λid x ak=>ah.row id x (cN _ _ ak)) depth _ _ _ _ uk (iP ah.tm P t z)
 obtain⟨us,o2,e6,lf⟩:=rh.laid pJ (λ_ _ h=>cM)
 have qV:id∉ids:=Hb
 have pK:=eV ah.tm x
 rw[ak]at pK
 obtain⟨dJ,di,g,bj,sp,xs,vs,cm,lM,j8,dQ,bP,af,iE,hR,jr,fj,hh,hm,lL,_⟩:=ah.row id _ (cN _ _ ay)
 have zv:xs.length=pre.length*s.width:=iE.1.trans (lZ pre lM)
 have jP:us.length=P.cellsOf t:=Bo
 generalize he:a.eval x=u at pK
 cases pK with
 |eptr _ _ _ _ fm n c wd dM cp=>
  rw[bP]at cp
  simp only[ej,gU,vn,DH]at cp
  obtain⟨⟨⟨rfl,rfl,_⟩,_⟩,rfl⟩:=cp
  have hbound:i*s.width+s.width<=pre.length*s.width:=by have:(i+1)*s.width<=pre.length*s.width:=sW _ hi;grind
  have hH:¬cr S og ids g:=λh=>by
   rcases h with h|⟨fG,eC,dK⟩
   .exact lL rfl h
   .exact qV (ah.inj id fG g dQ dK▸eC)
  have eD:(bj++(xs++(vs++cm))).take (bj.length+(i*s.width+off))++us++(bj++(xs++(vs++cm))).drop (bj.length+(i*s.width+off)+us.length)=bj++((xs.take (i*s.width+off)++us++xs.drop (i*s.width+off+us.length))++(vs++cm)):=by rw[xE,Va _ _ _ _ _ al]
  refine N1 ah aY dt aw (k:=bj.length+(i*s.width+off)) he (cN _ _ ay) qV dQ hH fj hh o2 lf jP hU bM (λo3 xF=>?_) aN bg
  rw[eD]at o3 xF⊢
  have vS:∀{bD:cD}{c:List AV}{v:List Value},VRels w S bD c v->VRels (w.setRow g (bj++((xs.take (i*s.width+off)++us++xs.drop (i*s.width+off+us.length))++(vs++cm))).toArray) (cr S og ids) bD c v:=λh=>(h.hk (S':=cr S og ids) λb=>cr.left).mono (λ_ h=>h) o3 (λ_ _ h=>h)
  have tw:=(Vb lM (iE.hk (S':=cr S og ids) λb=>cr.left) e6 hi al mq).mono (λ_ h=>h) o3 (λ_ _ h=>h) (bD:=cq)
  refine⟨dJ,di,g,bj,sp,_,vs,cm,λy aN=>?_,j8,dQ,bM,λu hu=>?_,tw,vS hR,vS jr,fj,xF,bM,λ_=>hH,(λh=>cM)⟩
  .grind
  grind
theorem agU(ah:Rel w S B β og st a)(aY:Out w0 bh B w S)(cN:∀id x,lookup rowsV id=some x->lookup st.rows id=some x){id i:Nat}{da:AV}(aw:o.op=.store t x z)
  (ak:val st.tm x=.eptr id (pre.length+1+i) off)(uk:cB rowsV depth (cw P st.tm t z)=some (da,ids))(ay:lookup rowsV id=some (.cj false s e pre cs post))(Hc:ids.contains id=false)(pJ:da.laidB=true)(aJ:da.cells.length=P.cellsOf t)(hU:P.cellsOf t≠0)
  (hle:off+P.cellsOf t<=s.width)(mq:cb s (dU s (eM (hj s (post.getD i .J)) off da.cells))=true)(hi:i<post.length)
  (aN:y {v:=.undef,mod:=some (id,.cj false s e pre cs (post.set i (dU s (eM (hj s (post.getD i .J)) off da.cells)))),bW:=ids}=some r)(bg:Good w0 bh B site o st y r K):o.cX R P a w K Q:=by
 have dt:∀id∈ids,∃r,lookup st.rows id=some r:=λid hid=>GP
 have rh:=oU (w:=w) (S:=S) (B:=B) (β:=β) (og:=og) (rows:=rowsV) (λid x ak=>ah.row id x (cN _ _ ak)) depth _ _ _ _ uk (iP ah.tm P t z)
 obtain⟨us,o2,e6,lf⟩:=rh.laid pJ (λ_ _ h=>cM)
 have qV:id∉ids:=Hb
 have pK:=eV ah.tm x
 rw[ak]at pK
 obtain⟨dJ,di,g,bj,sp,xs,vs,cm,lM,j8,dQ,bP,af,iE,hR,jr,fj,hh,hm,lL,_⟩:=ah.row id _ (cN _ _ ay)
 have zv:xs.length=pre.length*s.width:=iE.1.trans (lZ pre lM)
 have Vc:vs.length=s.width:=hR.1.trans di
 have avG:cm.length=(post++sp).length*s.width:=jr.1.trans (lZ _ j8)
 have jP:us.length=P.cellsOf t:=Bo
 generalize he:a.eval x=u at pK
 cases pK with
 |eptr _ _ _ _ fm n c wd dM cp=>
  rw[bP]at cp
  simp only[ej,gU,vn,DH]at cp
  obtain⟨⟨⟨rfl,rfl,_⟩,_⟩,rfl⟩:=cp
  have eC:i<(post++sp).length:=Mj
  have sc:(post++sp).getD i .J=post.getD i .J:=bM
  have hbound:i*s.width+s.width<=(post++sp).length*s.width:=by have:(i+1)*s.width<=(post++sp).length*s.width:=sW _ eC;grind
  have hH:¬cr S og ids g:=λh=>by
   rcases h with h|⟨fG,eC,dK⟩
   .exact lL rfl h
   .exact qV (ah.inj id fG g dQ dK▸eC)
  have ai:(pre.length+1+i)*s.width+off=xs.length+(vs.length+(i*s.width+off)):=by rw[kB,kB,zv,Vc];omega
  have eD:(bj++(xs++(vs++cm))).take (bj.length+(xs.length+(vs.length+(i*s.width+off))))++us++(bj++(xs++(vs++cm))).drop (bj.length+(xs.length+(vs.length+(i*s.width+off)))+us.length)=bj++(xs++(vs++(cm.take (i*s.width+off)++us++cm.drop (i*s.width+off+us.length)))):=by rw[xE,xE,xE]
  have vT:bj.length+(xs.length+(vs.length+(i*s.width+off)))+us.length<=(bj++(xs++(vs++cm))).length:=bM
  refine N1 ah aY dt aw (L:=bj++(xs++(vs++cm))) (k:=bj.length+(xs.length+(vs.length+(i*s.width+off)))) (by rw[he,ai]) (cN _ _ ay) qV dQ hH fj hh o2 lf jP hU vT (λo3 xF=>?_) aN bg
  rw[eD]at o3 xF⊢
  have vS:∀{bD:cD}{c:List AV}{v:List Value},VRels w S bD c v->VRels (w.setRow g (bj++(xs++(vs++(cm.take (i*s.width+off)++us++cm.drop (i*s.width+off+us.length))))).toArray) (cr S og ids) bD c v:=λh=>(h.hk (S':=cr S og ids) λb=>cr.left).mono (λ_ h=>h) o3 (λ_ _ h=>h)
  have tw:=(Vb (off:=off) j8 (jr.hk (S':=cr S og ids) λb=>cr.left) e6 eC al (by rw[sc];exact mq)).mono (λ_ h=>h) o3 (λ_ _ h=>h) (bD:=cq)
  rw[sc,List.set_append_left _ _ hi]at tw
  refine⟨dJ,di,g,bj,sp,xs,vs,_,lM,λy aN=>?_,dQ,p7,λu hu=>?_,vS iE,vS hR,tw,fj,xF,bM,λ_=>hH,(λh=>cM)⟩
  .grind
  grind
end ops
section ops
variable{R:Option Nat}{aj:Type}{P:Program}{w0 w:World}{bh S:Nat->Prop}{B:Ctx}{β:cD}{og:Nat->Option Nat}{st:bC}{a:Act}{o:Oper}{site:Nat}{y:dx->Option aj}{r:aj}
 {K:Act->World->Prop}{Q:Exit->Act->World->Prop}
theorem Ip(off:Nat):∀(us:List Value)(k:Nat)(arr:Array Value),off+k+us.length<=arr.size->
  (us.zipIdx k).foldl (λcs p=>cs.setIfInBounds (off+p.2) p.1) arr=(arr.toList.take (off+k)++us++arr.toList.drop (off+k+us.length)).toArray
 |[],k,arr,_=>p7
 |u::us,k,arr,h=>by simp only[e5]at h;simp only[List.zipIdx_cons,jw];rw[Ip off us (k+1) (arr.setIfInBounds (off+k) u) lu];congr 1;grind[Array.toList_setIfInBounds,List.take_add_one,List.getElem?_set_self,List.take_set_of_le,List.drop_set_of_lt]
theorem xG{place place':Nat->Option (Nat×Nat)}(B2:∀i p,place i=some p->place' i=some p):
  ∀(parts:List (Nat×AV))(nI:List (Nat×Value))(cs ea:List AV)(vs:List Value),Bx place cs parts=some ea->parts.map (·.1)=nI.map (·.1)->VRels w S β (parts.map (·.2)) (nI.map (·.2))->
   (∀id x,β id=some x->x.1.oneCell'=true)->VRels w S β cs vs->(∀u∈vs,u.oneCell'=true)->∃fr,Instr.fill place' vs.toArray nI=some fr.toArray/\VRels w S β ea fr/\∀u∈fr,u.oneCell'=true
 |[],[],cs,ea,vs,h,_,_,_,ar,af=>by simp[Bx]at h;subst h;exact⟨vs,rfl,ar,af⟩
 |[],_::_,_,_,_,_,hm,_,_,_,_=>Bq
 |_::_,[],_,_,_,_,hm,_,_,_,_=>Bq
 |(i,v)::parts,(fG,u)::nI,cs,ea,vs,h,hm,au,Vd,ar,af=>by
  simp only[iZ,jY]at hm;obtain⟨iF,nJ⟩:=hm;subst iF;simp only[iZ]at au;obtain⟨rb,lb,he,jt,zE⟩:=au.inv;simp only[jY]at he;obtain⟨rfl,rfl⟩:=he;simp only[Bx]at h;cases zF:place i with
  |none=>simp[zF]at h
  |some p=>
   simp only[zF]at h;split at h
   .rename_i aa;simp only[ba,h0]at aa;obtain⟨pJ,hlen,hle⟩:=aa;have p8:p.1+v.cells.length<=cs.length:=kA hle;obtain⟨us,o2,e6,lf⟩:=jt.laid pJ Vd;have jP:us.length=p.2:=by rw[e6.1];exact hlen
    have gA:=ar.eM e6 p.1;have kM:∀x∈vs.take p.1++us++vs.drop (p.1+us.length),x.oneCell'=true:=by
     intro x ak;simp only[gD]at ak;rcases ak with(ak|ak)|ak
     .exact af x (lr ak)
     .exact lf x ak
     .exact af x (jx ak)
    obtain⟨fr,aR,jN,Iq⟩:=xG B2 parts nI _ ea _ h nJ zE Vd gA kM;refine⟨fr,?_,jN,Iq⟩;have N2:=Ip p.1 us 0 vs.toArray G0;simp only[lX]at N2;obtain⟨cF,d'⟩:=p;simp only[Instr.fill,B2 i _ zF,o2];have cx:us.toArray.size=d':=by simpa using jP
    have agV:¬(cF+us.toArray.size>vs.toArray.size):=G0;grind
   .cases h
theorem Ve(aC:List Field)(h:aC.all (λf=>(P.info? f.type).isSome)=true):aC.mapM (λf=>(P.info? f.type).map λi=>(f.offset,i.size))=some (aC.map λf=>(f.offset,P.cellsOf f.type)):=by
 induction aC with
 |nil=>rfl
 |cons f aC ih=>simp only[lq,ba]at h;obtain⟨i,hi⟩:=mj.1 h.1;simp_all[Program.cellsOf]
theorem N3(ah:Rel w S B β og st a)(aY:Out w0 bh B w S){ea:List AV}(aw:o.op=.build t parts)(bp:q3 P t=some cs)(ai:partsKnown P t=true)
  (aR:Bx (placeOf P t) cs (parts.toList.map λp=>(p.1,cw P st.tm (D0 P t p.1) p.2))=some ea)(aN:y {v:=.agg ea}=some r)(bg:Good w0 bh B site o st y r K):o.cX R P a w K Q:=by
 obtain⟨i,v,hi,ar,ay,rfl⟩:=H' bp
 obtain⟨us,aa,b6,af⟩:=(BQ (w:=w) (S:=S) (β:=β) (shOf P depth t) v).laid ay ah.one
 have EJ:VRels w S β ((parts.toList.map λp=>(p.1,cw P st.tm (D0 P t p.1) p.2)).map (·.2)) ((parts.toList.map λp=>(p.1,a.eval p.2)).map (·.2)):=by
  refine⟨bb,λj c u aa hu=>?_⟩;simp only[p4,k0]at aa hu;cases aP:parts.toList[j]?with
  |none=>simp[aP]at aa
  |some p=>simp[aP]at aa hu;subst aa;subst hu;exact iP ah.tm P _ _
 have pw:(parts.map λp=>(p.1,a.eval p.2))=(parts.toList.map λp=>(p.1,a.eval p.2)).toArray:=ml
 unfold partsKnown at ai
 split at ai
 .rename_i aC nC;obtain⟨fr,vU,kc,kM⟩:=xG (place:=placeOf P t) (place':=λx=>Option.map (λf=>(f.offset,P.cellsOf f.type)) aC[x]?) (λi p au=>by grind[placeOf]) _ _ _ ea us aR bb EJ ah.one b6 af;refine fI ah aY (.agg _ _ _ kc.1 kM kc.2) aN bg ?_;simp_all[run_places,Ve,execOp,Instr.build,zeroValue,typeInfo,cA,LU]
 .rename_i n e nC;obtain⟨Vf,avH⟩:=mj.1 ai;obtain⟨fr,vU,kc,kM⟩:=xG (place:=placeOf P t) (place':=λi=>some (i*Vf.size,Vf.size)) (λi p au=>by grind[placeOf,Program.cellsOf]) _ _ _ ea us aR bb EJ ah.one b6 af;refine fI ah aY (.agg _ _ _ kc.1 kM kc.2) aN bg ?_;simp_all[execOp,Instr.build,zeroValue,typeInfo,cA,sizeOf]
 .cases ai
theorem agW{β:cD}{v:AV}(h:VRel w S β v u):VRel w S β v.MK u:=by
 have eD:∀(cs:List AV)(j:Nat)(c:AV),(AV.lG cs)[j]?=some c->∃c',cs[j]?=some c'/\c=c'.MK:=by
  intro cs;induction cs with
  |nil=>grind[AV.lG]
  |cons x cs ih=>grind[AV.lG]
 have hlen:∀cs:List AV,(AV.lG cs).length=cs.length:=by
  intro cs;induction cs with
  |nil=>rfl
  |cons x cs ih=>simp[AV.lG,ih]
 induction h with
 |agg β cs vs ay af _ ih=>refine .agg _ _ vs DN af λj c u aa hu=>?_;grind
 |tup β cs vs ay _ ih=>refine .tup _ _ vs DN λj c u aa hu=>?_;grind
 |bf β s A=>exact .ab _ s [] A 0 default [] bb bb gn (λh=>absurd rfl h) vv bb bb bb
 |J β v=>exact .J _ v
 |undef=>exact .undef _
 |int β k n=>exact .int _ k n
 |bool β b=>exact .bool _ b
 |jC β b=>exact .jC _ b
 |nl β v h=>exact .nl _ v h
 |str β s=>exact .str _ s
 |ab β s es A c a xs an aa hm bq ay af ak hh _=>exact .ab _ s es A c a xs an aa hm bq ay af ak hh
 |hP β s es i off a xs hi an iC ay af ak hh _=>exact .hP _ s es i off a xs hi an iC ay af ak hh
 |ref β cs a xs iC ay af ak hh _=>exact .ref _ cs a xs iC ay af ak hh
 |lE β t cs v hh _=>exact .lE _ t cs v hh
 |lF=>exact .lF _
 |ct β es vs ay hh _=>exact .ct _ es vs ay hh
 |ptr β id off g wd bP=>exact .ptr _ id off g wd bP
 |eptr β id i off g n c wd o bP=>exact .eptr _ id i off g n c wd o bP
 |own β id v wd bP=>exact .own _ id v wd bP
 |sub β id lo len A n c wd bP=>exact .sub _ id lo len A n c wd bP
 |fn β f cs vs ay hh _=>exact .fn _ f cs vs ay hh
def Ee{w:World}{S:Nat->Prop}{β:cD}:∀{cs:List AV}{vs:List Value},VRels w S β cs vs->VRels w S β (AV.lG cs) vs
 |[],vs,h=>G1
 |c::cs,vs,h=>by obtain⟨u,us,rfl,hu,an⟩:=h.inv;exact VRels.cons (agW hu) (Ee an)
def Goes(P:Program)(f:FuncId)(args:Array Value)(w:World)(R:Ending->World->Prop):Prop:=(hasBody P f=true/\Calls P f args w R)\/(hasBody P f=false/\∃u w',(callFunc f args).run P w=.ok (.value u) w'/\R (.returned u) w')
def Goes.calls{args:Array Value}{R:Ending->World->Prop}(h:Goes P f args w R)(ag:hasBody P f=true):Calls P f args w R:=by
 rcases h with h|h
 .exact h.2
 .rw[ag]at h;cases h.1
def Goes.of{fn:Func}{c:Code}{args:Array Value}{R:Ending->World->Prop}(dW:P.funcs[f]?=some fn)(ag:fn.body=some c)(h:Calls P f args w R):Goes P f args w R:=.inl ⟨by simp[hasBody,dW,ag],h⟩
def CallsIn.at{R0:Option Nat}{args:Array Value}{R:Ending->World->Prop}(h:CallsIn Fence.wide n P f args w R):CallsIn (l7 R0) n P f args w R:=h
theorem Goes.wp{R0:Option Nat}{a:Act}{o:Oper}{K:Act->World->Prop}{Q:Exit->Act->World->Prop}{args:Array Value}{R:Ending->World->Prop}(gE:entersB P f=true)(h:Goes P f args w R)
  (he:∀s,(callFunc f args).run P w=s->(execOp a.eval o).run P w=s)(ah:∀e w',R e w'->∃u,e=.returned u/\K (a.put o.dst u) w'):o.cX R0 P a w K Q:=by
 refine⟨λ_ _=>trivial,?_⟩
 rcases h with⟨ag,h⟩|⟨ag,u,w',bu,aH⟩
 .unfold hasBody at ag;unfold entersB at gE;cases dW:P.funcs[f]?with
  |none=>rw[dW]at ag;cases ag
  |some fn=>
   simp only[dW,jZ]at gE ag;have Hz:fn.body.isNone=false:=by cases vT:fn.body<;>simp_all
   rw[semAt_of (he (.ok (.enter f args) w) (by simp only[callFunc,iL,vk,jX,dW];simp[gE,Hz])) (λ_ _ h=>cM) (λ_ _ h=>cM),Oper.uponIn_enter];refine⟨λh=>cM,CallsIn.mono (CallsIn.at (yM.2 h)) λe w' aH=>?_⟩;obtain⟨u,rfl,ai⟩:=ah e w' aH;exact ai
 .rw[semAt_of (he _ bu) (λ_ _ h=>cM) (λ_ _ h=>cM),Oper.uponIn_value];grind
def SumOK(P:Program)(f:FuncId)(F:Summ):Prop:=
 ∀(aj:Type)(w:World)(S:Nat->Prop)(aA:List AV)(args:List Value)(k:AV->Option aj)(r:aj),(∀b,S b->b<w.heap.size)/\Glb (λb=>b<w.heap.size) w->VRels w S cq aA args->F aj aA k=some r->
  Goes P f args.toArray w λe w'=>∃u v S',e=.returned u/\k v=some r/\Below w.heap.size w w'/\(∀b,S' b->S b\/w.heap.size<=b)/\(∀b,S' b->b<w'.heap.size)/\VRel w' S' cq v u
def b5(F:Summ):Prop:=∀(aj:Type)(aA:List AV)(k:AV->Option aj),F aj aA k=(F AV aA some).bind k
theorem Vg{S':Nat->Prop}{β bD:cD}{v:AV}(h:VRel w S β v u):v.flat=true->VRel w' S' bD v u:=by
 induction h with
 |J=>grind[AV.flat]
 |undef=>intro _;exact .undef _
 |int _ k n=>intro _;exact .int _ k n
 |bool _ b=>intro _;exact .bool _ b
 |jC=>grind[AV.flat]
 |nl _ v h=>intro _;exact .nl _ v h
 |str _ s=>intro _;exact .str _ s
 |agg _ cs vs ay af _ ih=>
  intro h;have aR:∀(l:List AV),AV.xe l=true->∀c∈l,c.flat=true:=by
   intro l;induction l with
   |nil=>simp
   |cons c l ih=>grind[AV.xe]
  have fU:AV.xe cs=true:=h;exact .agg _ cs vs ay af λj c u aa hu=>ih j c u aa hu (aR cs fU c (pk aa))
 |tup _ cs vs ay _ ih=>
  intro h;have aR:∀(l:List AV),AV.xe l=true->∀c∈l,c.flat=true:=by
   intro l;induction l with
   |nil=>simp
   |cons c l ih=>grind[AV.xe]
  have fU:AV.xe cs=true:=h;exact .tup _ cs vs ay λj c u aa hu=>ih j c u aa hu (aR cs fU c (pk aa))
 |ab=>grind[AV.flat]
 |bf=>grind[AV.flat]
 |hP=>grind[AV.flat]
 |ref=>grind[AV.flat]
 |lE=>grind[AV.flat]
 |ct=>grind[AV.flat]
 |lF=>grind[AV.flat]
 |ptr=>grind[AV.flat]
 |eptr=>grind[AV.flat]
 |own=>grind[AV.flat]
 |sub=>grind[AV.flat]
 |fn=>grind[AV.flat]
theorem agX(ah:Rel w S B β og st a)(aY:Out w0 bh B w S)(cN:∀id x,lookup rowsV id=some x->lookup st.rows id=some x){f:Operand}{g:Nat}{gF Ir:List AV}{F:Summ}
  (aw:o.op=.call {callee:=.value f,args:=args,argTypes:=ae})(aR:val st.tm f=.fn g gF)(au:dp (cB rowsV depth) (hz P st.tm ae.toList args.toList++gF)=some (Ir,ids))(hF:SumOK P g F)(gE:entersB P g=true)
  (aN:F aj (AV.lG Ir) (λv=>y {v,bW:=if v.flat then[]else ids})=some r)(bg:Good w0 bh B site o st y r K):o.cX R P a w K Q:=by
 have eN:∀id x,lookup rowsV id=some x->eb w S B β id (og id) x:=λid x ak=>ah.row id x (cN _ _ ak)
 have gY:=eV ah.tm f
 rw[aR]at gY
 generalize ly:a.eval f=vE at gY
 cases gY with
 |fn _ _ _ hn di ir=>
  have jE:=(qi ah.tm P ae.toList args.toList).append (VRels.mono (w':=w) (S':=S) (bD:=β) ⟨di,ir⟩ (λ_ h=>h) (λ_ _=>rfl) (λ_ _ h=>h))
  have Eb:=zn (w:=w) (S:=S) (β:=β) (og:=og) (f:=cB rowsV depth) (oU eN depth) _ _ _ au jE
  have dt:∀id∈ids,∃r,lookup st.rows id=some r:=λid hid=>by obtain⟨r,aD⟩:=qa (rows:=rowsV) (qU depth) _ _ au id hid;grind
  have j7:=ah.freeze ids
  have mr:=aY.freeze ah ids dt
  have e8:=hF aj w (cr S og ids) (AV.lG Ir) _ _ r ⟨j7.dF,aY.gL.here.mono ah.dZ⟩ (Ee Eb) aN
  have pw:(args.map a.eval)++hn.toArray=(args.toList.map a.eval++hn).toArray:=ml
  have bu:∀s,(callFunc g (args.toList.map a.eval++hn).toArray).run P w=s->(execOp a.eval o).run P w=s:=λs yS=>DJ
  refine e8.wp gE bu λe w' j8=>?_
  obtain⟨v,h3,S',rfl,aN,oX,Nb,aL,ar⟩:=j8
  refine⟨v,rfl,?_⟩
  .by_cases N4:h3.flat=true
   .have iG:=ah.grow oX (S':=S) (λ_ h=>h) (λ_ _ h=>h) (λb an=>jK (ah.dF b an) oX.size);simp only[N4,kn]at aN;exact bg _ _ _ aN ⟨S,β,og,iG.put o.dst (Vg ar N4),aY.grow ah.dZ oX⟩
   .simp only[N4]at aN;have iG:=j7.grow oX (S':=λb=>cr S og ids b\/S' b) (λ_ h=>.inl h) (λb ag h=>h.elim id λh=>(Nb b h).elim id λh=>absurd ag al) (λb an=>an.elim (λh=>jK (j7.dF b h) oX.size) (aL b));have Vh:=iG.put o.dst (v:=h3) (u:=v) (ar.mono (λ_ h=>.inr h) (λ_ _=>rfl) (λ_ _ h=>cM));have EB:apply site o.dst {v:=h3,bW:=ids} st=⟨hl st.tm o.dst h3,il ids st.rows,st.used⟩:=by
      simp only[apply,eI,LO,Dw,pj];cases ids with
      |nil=>rw[yT]
      |cons i is=>rfl
    refine bg _ _ _ aN ⟨_,β,og,by simp_all<;>omega,?_⟩;have Is:=mr.grow ah.dZ oX;exact⟨Is.gL,λb ag=>ag.elim (Is.sin b) λh=>(Nb b h).elim (Is.sin b) λh=>.inr (λdy=>mK _ (jK (ah.dZ b dy) h)),λb ag=>.inl (Is.sub b ag)⟩
end ops
section ops
variable{R:Option Nat}{aj:Type}{P:Program}{w0 w:World}{bh S:Nat->Prop}{B:Ctx}{β:cD}{og:Nat->Option Nat}{st:bC}{a:Act}{o:Oper}{site:Nat}{y:dx->Option aj}{r:aj}
 {K:Act->World->Prop}{Q:Exit->Act->World->Prop}
theorem Vi{n:Nat}:∀(es:List AV)(i:Nat)(x:AV),(∀e∈es,e.cells.length=n)->x.cells.length=n->i<es.length->flat (es.set i x)=(flat es).take (i*n)++x.cells++(flat es).drop (i*n+n)
 |[],i,x,_,_,h=>k1
 |e::es,0,x,an,ak,_=>by simp_all[flat]
 |e::es,i+1,x,an,ak,h=>by have hw:=an e bb;have ih:=Vi es i x (λy aN=>an y y1) ak qT;simp only[List.set_cons_succ];simp only[flat,mg]at ih⊢;have aU:(i+1)*n=e.cells.length+i*n:=bM;have bc:e.cells.length+i*n+n=e.cells.length+(i*n+n):=al;exact TT
theorem Vj{n:Nat}:∀(es:List AV),(∀e∈es,e.cells.length=n)->(flat es).length=es.length*n
 |[],_=>vv
 |e::es,h=>by have af:=h e bb;have ao:=Vj (n:=n) es (λx ak=>h x lv);simp_all[flat,kB,Bh]
def agY{v:AV}(h:cb s v=true):v.laidB=true:=by cases s<;>cases v<;>simp[cb,fE]at h<;>rfl
theorem Vk{s:Sh}:∀(parts:List (Nat×AV))(nI:List (Nat×Value))(es f':List AV)(vs:List Value),By s es parts=some f'->parts.map (·.1)=nI.map (·.1)->VRels w S cq (parts.map (·.2)) (nI.map (·.2))->
  (∀e∈es,e.cells.length=s.width)->VRels w S cq (flat es) vs->(∀u∈vs,u.oneCell'=true)->
  ∃fr,Instr.fill (λi=>some (i*s.width,s.width)) vs.toArray nI=some fr.toArray/\VRels w S cq (flat f') fr/\(∀u∈fr,u.oneCell'=true)/\f'.length=es.length
 |[],[],es,f',vs,h,_,_,_,ar,af=>by simp[By]at h;subst h;exact⟨vs,rfl,ar,af,rfl⟩
 |[],_::_,_,_,_,_,hm,_,_,_,_=>Bq
 |_::_,[],_,_,_,_,hm,_,_,_,_=>Bq
 |(i,v)::parts,(fG,u)::nI,es,f',vs,h,hm,au,hw,ar,af=>by
  simp only[iZ,jY]at hm;obtain⟨iF,nJ⟩:=hm;subst iF;simp only[iZ]at au;obtain⟨rb,lb,he,jt,zE⟩:=au.inv;simp only[jY]at he;obtain⟨rfl,rfl⟩:=he;simp only[By]at h;split at h
  .rename_i aa;simp only[ba]at aa;obtain⟨dd,aL⟩:=aa;have hi:i<es.length:=p7;have Vl:=vK s v dd;obtain⟨us,o2,e6,lf⟩:=jt.laid (agY dd) (λ_ _ h=>cM);have jP:us.length=s.width:=by rw[e6.1];exact Vl
   have fU:=Vj es hw;have ag:i*s.width+s.width<=es.length*s.width:=SK;have agZ:vs.length=es.length*s.width:=by rw[ar.1,fU]
   have tw:VRels w S cq (flat (es.set i v)) (vs.take (i*s.width)++us++vs.drop (i*s.width+us.length)):=by rw[Vi es i v hw Vl hi,jP];exact((ar.take _).append e6).append (ar.drop _)
   have kM:∀x∈vs.take (i*s.width)++us++vs.drop (i*s.width+us.length),x.oneCell'=true:=bM;obtain⟨fr,aR,jN,Iq,kr⟩:=Vk parts nI _ f' _ h nJ zE (λe he=>bM) tw kM;simp_all[Ip,lX,Instr.fill,ne_eq,not_true_eq_false,decide_false,qS,fD,c0,Array.foldl_toList,Array.toList_zipIdx]
  .cases h
theorem N5(ah:Rel w S B β og st a)(aY:Out w0 bh B w S)(cN:∀id x,lookup rowsV id=some x->lookup st.rows id=some x)(aR:lN site st.used){z vH:List AV}(aw:o.op=.buildSlice t len parts)(aQ:P.underlying t=some (.slice e))
  (gp:l2 P e=true)(hlen:len<=1000)(B3:P.cellsOf e<=1000)(dJ:len≠0)(bp:q3 P e=some z)(aH:dp (cB rowsV depth) (parts.toList.map λp=>cw P st.tm e p.2)=some (vH,ids))
  (vU:By (shOf P depth e) (List.replicate len (dU (shOf P depth e) z)) ((parts.toList.map λp=>p.1).zip vH)=some es)(cn:es.all (cb (shOf P depth e))=true)
  (aN:y {v:=.own site,new:=some (.arr false (shOf P depth e) e es none),bW:=ids}=some r)(bg:Good w0 bh B site o st y r K):o.cX R P a w K Q:=by
 obtain⟨i,zG,hi,ag0,fR,ag1,hq,nF,_⟩:=xw gp
 obtain⟨fG,v,eC,ar,ay,rfl⟩:=H' bp
 rw[hi]at eC
 cases eC
 rw[ag0]at ar
 cases ar
 have cx:P.cellsOf e=i.size:=by simp[Program.cellsOf,hi]
 have eN:∀id x,lookup rowsV id=some x->eb w S B β id (og id) x:=λid x ak=>ah.row id x (cN _ _ ak)
 have rh:VRels w S β (parts.toList.map λp=>cw P st.tm e p.2) (parts.toList.map λp=>a.eval p.2):=by
  refine⟨bb,λj c u aa hu=>?_⟩;simp only[k0]at aa hu;cases aP:parts.toList[j]?with
  |none=>simp[aP]at aa
  |some p=>simp[aP]at aa hu;subst aa;subst hu;exact iP ah.tm P _ _
 have It:=zn (w:=w) (S:=S) (β:=β) (og:=og) (f:=cB rowsV depth) (oU eN depth) _ _ _ aH rh
 have dt:∀id∈ids,∃r,lookup st.rows id=some r:=λid hid=>by obtain⟨r,aD⟩:=qa (rows:=rowsV) (qU depth) _ _ aH id hid;grind
 have j7:=ah.freeze ids
 have mr:=aY.freeze ah ids dt
 obtain⟨dL,nG,zz,mT⟩:=(BQ (w:=w) (S:=cr S og ids) (β:=cq) (shOf P depth e) zG).laid ay (λ_ _ h=>cM)
 have j':dL.length=i.size:=by rw[<-hq,nG];simp
 have ag2:(oS (shOf P depth e) zG).cells.length=(shOf P depth e).width:=by rw[<-zz.1,j',fR]
 have xH:=agy ag2 (agx _ _)
 have ag3:flat (List.replicate len (dU (shOf P depth e) (oS (shOf P depth e) zG).cells))=(List.replicate len (oS (shOf P depth e) zG).cells).flatten:=by grind[flat,List.flatMap_replicate]
 have Na:VRels w (cr S og ids) cq (flat (List.replicate len (dU (shOf P depth e) (oS (shOf P depth e) zG).cells))) (List.replicate len dL).flatten:=by rw[ag3];exact zz.rep len
 have pL:vH.length=parts.toList.length:=by rw[<-It.1];simp
 obtain⟨fr,fU,kc,kM,Vm⟩:=Vk (s:=shOf P depth e) _ (parts.toList.map λp=>(p.1,a.eval p.2)) _ es (List.replicate len dL).flatten vU
  (by simp_all[List.map_fst_zip])
  (by rw[p4,List.map_snd_zip (by simp[pL])];exact It)
  (λx ak=>bM) Na (λu hu=>p7)
 have Vn:es.length=len:=by rw[Vm];simp
 have dd:∀x∈es,cb (shOf P depth e) x=true:=by simpa using cn
 have agZ:fr.length=len*(shOf P depth e).width:=by rw[kc.1,lZ es dd,Vn]
 have ag:=r9 w (.cells fr.toArray e)
 have aL:∀b,cr S og ids b->b<(w.alloc (.cells fr.toArray e)).heap.size:=λb an=>by have:=j7.dF b an;simp;omega
 have cG:=j7.new site aR o.dst ag (S':=cr S og ids) (λ_ h=>h) (λ_ _ h=>h) aL (x:=.slice (some ⟨w.heap.size,0,none⟩) len len) (wd:=(shOf P depth e).width) (o:=some w.heap.size) rfl (λg aB=>w2)
  (r:=.arr false (shOf P depth e) e es none) (v:=.own site) (u:=.slice (some ⟨w.heap.size,0,none⟩) len len)
  ⟨al,_,[],fr,by simpa using dd,(λc h=>cM),cV _ _ _,kM,by rw[jy];exact kc.mono (λ_ h=>h) (λb an=>ag.block b (j7.dF b an)) (λ_ _ h=>h),.inr ⟨w.heap.size,[],rfl,by rw[Vn];rfl,λh=>mK _ (ah.dZ _ h),jQ.plain (LR w _),by grind[maxLen,List.length_nil],λ_ an=>absurd (j7.dF _ an) (mK _),(λh=>cM)⟩⟩ (.own _ site _ _ (cV _ _ _))
 have EB:apply site o.dst {v:=AV.own site,new:=some (.arr false (shOf P depth e) e es none),bW:=ids} st=⟨hl st.tm o.dst (.own site),setRow (il ids st.rows) site (.arr false (shOf P depth e) e es none),site::st.used⟩:=by grind[apply,eI,yT]
 refine wp_value (u:=.slice (some ⟨w.heap.size,0,none⟩) len len) (w':=w.alloc (.cells fr.toArray e)) ?_ (bg _ _ _ aN ⟨_,_,_,by rw[EB];exact cG,mr.grow j7.dZ ag⟩)
 have pw:(parts.map λp=>(p.1,a.eval p.2))=(parts.toList.map λp=>(p.1,a.eval p.2)).toArray:=ml
 have ag4:¬(len*i.size>2^24):=by have:len*i.size<=1000*1000:=Nat.mul_le_mul hlen (by rw[<-cx];exact B3);omega
 have hU:¬(len*i.size=0):=by
  intro h;rcases Nat.mul_eq_zero.1 h with h|h
  .exact dJ h
  .omega
 have avI:(Array.range (len*i.size)).map (λj=>zG.cells[j%zG.cells.size]!)=((List.replicate len dL).flatten).toArray:=by
  apply wR;have aD:=Ih dL (default:Value) i.size j' ag1 len;rw[<-aD,nG];have:dL.toArray.size=i.size:=by simpa using j'
  simp only[LP,LQ,this];apply p5;intro j _;simp
 exact TI
theorem ag5(ah:Rel w S B β og st a)(aY:Out w0 bh B w S)(aw:o.op=.buildSlice t 0 parts)(aQ:P.underlying t=some (.slice e))(hi:(P.info? e).isSome=true)(au:parts.size=0)
  (aN:y {v:=.bf s}=some r)(bg:Good w0 bh B site o st y r K):o.cX R P a w K Q:=by
 obtain⟨i,hi⟩:=mj.1 hi
 have ag6:parts= #[]:=L8 au
 subst ag6
 have ag:=r9 w (.cells #[] e)
 have iG:=ah.grow ag (S':=S) (λ_ h=>h) (λ_ _ h=>h) (λb an=>DL)
 refine wp_value (u:=.slice (some ⟨w.heap.size,0,none⟩) 0 0) (w':=w.alloc (.cells #[] e)) ?_ (bg _ _ _ aN ⟨S,β,og,iG.put o.dst (.bf _ s _),aY.grow ah.dZ ag⟩)
 simp[execOp,aw,Instr.buildSlice,cA aQ,sizeOf,typeInfo,hi,Instr.fill,newRow]
 grind
end ops
section ops
variable{R:Option Nat}{aj:Type}{P:Program}{w0 w:World}{bh S:Nat->Prop}{B:Ctx}{β:cD}{og:Nat->Option Nat}{st:bC}{a:Act}{o:Oper}{site:Nat}{y:dx->Option aj}{r:aj}
 {K:Act->World->Prop}{Q:Exit->Act->World->Prop}
theorem zs{B:Nat->Prop}{id:Nat}{o:Option Nat}{im:Bool}(h:eb w S B β id o (.arr im s e es dm)):
  ∃A c,β id=some (.slice A es.length c,s.width)/\es.length<=c/\(∀l,dm=some l->c=es.length+l.length)/\(0<c->∃g dM,A=some ⟨g,dM,none⟩/\o=some g):=by
 obtain⟨au,v,sp,xs,lA,gh,bP,af,b6,e2⟩:=h
 rcases e2 with⟨rfl,rfl,_,A,rfl⟩|⟨g,bj,aw,rfl,_⟩
 .grind
 .exact⟨_,_,bP,al,λl ay=>by rw[gh l ay],λ_=>⟨g,bj.length,rfl,aw⟩⟩
theorem H2{id:Nat}{v:Value}{wd:Nat}(ag:β id=some (v,wd))(h:VRel w S β (.own id) u):u=v:=by
 cases h with
 |own _ _ _ EK cp=>grind
def Ep{id c wd:Nat}{A:Option Addr}(ag:β id=some (.slice A len c,wd))(h:VRel w S β (.sub id lo n) u):u=.slice (if c=lo then A else A.map (·.add (lo*wd))) n (c-lo):=by
 cases h with
 |sub _ _ _ _ qm k' c' EK cp=>rw[ag]at cp;simp only[ej,gU,vn]at cp;obtain⟨⟨rfl,rfl,rfl⟩,rfl⟩:=cp;rfl
def ag7(ah:Rel w S B β og st a)(aY:Out w0 bh B w S){lo hi:Option Operand}{id:Nat}{im:Bool}(aw:o.op=.slice t x lo hi none)(aQ:P.underlying t=some (.slice e))(ak:val st.tm x=.own id)
  (ay:lookup st.rows id=some (.arr im s e' es dm))(cx:k5 P e s=true)(l8:k4 (lo.map (val st.tm))=true)(hh:k4 (hi.map (val st.tm))=true)(ag:slb (cP (lo.map (val st.tm)) 0) (cP (hi.map (val st.tm)) es.length) es.length=true)
  (aN:y {v:=.sub id (cP (lo.map (val st.tm)) 0).toNat ((cP (hi.map (val st.tm)) es.length).toNat-(cP (lo.map (val st.tm)) 0).toNat)}=some r)(bg:Good w0 bh B site o st y r K):o.cX R P a w K Q:=by
 have h:=eV ah.tm x
 rw[ak]at h
 obtain⟨A,c,bP,aa,_,_⟩:=zs (ah.row id _ ay)
 have he:=H2 bP h
 obtain⟨i,eC,fR⟩:=tp cx
 refine fI ah aY (.sub _ id _ _ A es.length c s.width bP) aN bg ?_
 have gx:=Ig (P:=P) (w:=w) ah.tm l8 hh true es.length c aa ag
 exact MC
theorem ag8(ah:Rel w S B β og st a)(aY:Out w0 bh B w S)(aR:lN site st.used){hi:Option Operand}{id:Nat}{l:List AV}(aw:o.op=.slice t x none hi none)(aQ:P.underlying t=some (.slice e))(ak:val st.tm x=.own id)
  (ay:lookup st.rows id=some (.arr false s e' es (some l)))(cx:k5 P e s=true)(hh:k4 (hi.map (val st.tm))=true)(af:(es.length:Int)<=cP (hi.map (val st.tm)) es.length)(ao:cP (hi.map (val st.tm)) es.length<=(es.length:Int)+l.length)
  (aN:y {v:=.own site,new:=some (.arr false s e' (es++l.take ((cP (hi.map (val st.tm)) es.length).toNat-es.length)) (some (l.drop ((cP (hi.map (val st.tm)) es.length).toNat-es.length)))),del:=some id}=some r)(bg:Good w0 bh B site o st y r K):o.cX R P a w K Q:=by
 have h:=eV ah.tm x
 rw[ak]at h
 obtain⟨au,v,sp,xs,lA,gh,bP,N6,b6,e2⟩:=ah.row id _ ay
 have ag9:l=sp:=gh l rfl
 subst ag9
 have he:=H2 bP h
 obtain⟨i,eC,fR⟩:=tp cx
 generalize aJ:cP (hi.map (val st.tm)) es.length=n at*
 have uE:(es++l.take (n.toNat-es.length))++l.drop (n.toNat-es.length)=es++l:=p7
 have hlen:(es++l.take (n.toNat-es.length)).length=n.toNat:=lu
 have BU:(l.drop (n.toNat-es.length)).length=es.length+l.length-n.toNat:=lu
 have avJ:∀(A:Option Addr),(Instr.sliceBounds true es.length (es.length+l.length) none (hi.map a.eval) none).run P w=.ok (0,n.toNat,es.length+l.length) w:=by
  intro A;rcases vJ ah.tm hh es.length with⟨rfl,aU⟩|⟨z,k,rfl,aU⟩
  .rw[aJ]at aU;subst aU;simp[Instr.sliceBounds]
  .rw[aJ]at aU;have ag:=λc=>run_sliceBound (P:=P) (w:=w) (k:=k) (n:=n) (m:=es.length+l.length) c al al;simp[Instr.sliceBounds,aU,ag]
 rcases e2 with⟨pH,zC,EH,A,rfl⟩|⟨g,bj,dQ,rfl,fj,Vo,je,zD,_⟩
 .subst pH;subst zC;have hU:n=0:=by simp at af ao;omega
  subst hU;refine wp_value (u:=.slice A 0 0) (w':=w) ?_ (bg _ _ _ aN ⟨S,_,_,ah.qo (id:=id) aR o.dst (rQ w _) (λg aB=>by rw[EH]at aB;cases aB) (x:=.slice A 0 0) (wd:=s.width) (o':=none) rfl (λg aB=>w6)
   ⟨au,.slice A 0 0,[],[],bb,(λc h=>by simp at h;exact h),cV _ _ _,bb,VRels.nil,.inl ⟨rfl,rfl,rfl,A,rfl⟩⟩ (.own _ site _ _ (cV _ _ _)),aY⟩)
  exact MC
 .refine wp_value (u:=.slice (some ⟨g,bj.length,none⟩) n.toNat (es.length+l.length)) (w':=w) ?_ (bg _ _ _ aN ⟨S,_,_,ah.qo (id:=id) aR o.dst (rQ w _) (λfm dK=>bM) (x:=.slice (some ⟨g,bj.length,none⟩) n.toNat (es.length+l.length)) (wd:=s.width) (o':=some g) rfl
    (λx ak=>GS) ?_ (.own _ site _ _ (cV _ _ _)),aY⟩)
  .simp_all[Addr.add,execOp,Instr.sliceAt,cA,Instr.slice,sizeOf,typeInfo]
  .refine⟨au,_,l.drop (n.toNat-es.length),xs,by rw[uE];exact lA,(λc h=>by simp at h;exact h.symm),cV _ _ _,N6,by rw[uE];exact b6,.inr ⟨g,bj,rfl,?_,fj,Vo,?_,zD,(λh=>cM)⟩⟩
   .grind
   .rw[hlen,BU];omega
theorem aha(ah:Rel w S B β og st a)(aY:Out w0 bh B w S)(aR:lN site st.used){lo:Option Operand}{id:Nat}(aw:o.op=.slice t x lo none none)(aQ:P.underlying t=some (.slice e))(ak:val st.tm x=.own id)
  (ay:lookup st.rows id=some (.arr false s e' es dm))(cx:k5 P e s=true)(l8:k4 (lo.map (val st.tm))=true)(a7:0<=cP (lo.map (val st.tm)) 0)(af:cP (lo.map (val st.tm)) 0<=(es.length:Int))
  (aN:y {v:=.own site,new:=some (.arr false s e' (es.drop (cP (lo.map (val st.tm)) 0).toNat) dm),del:=some id}=some r)(bg:Good w0 bh B site o st y r K):o.cX R P a w K Q:=by
 have h:=eV ah.tm x
 rw[ak]at h
 obtain⟨au,v,sp,xs,lA,gh,bP,N6,b6,e2⟩:=ah.row id _ ay
 have he:=H2 bP h
 obtain⟨i,eC,fR⟩:=tp cx
 have ag:slb (cP (lo.map (val st.tm)) 0) (cP ((none:Option Operand).map (val st.tm)) es.length) es.length=true:=by show slb _ (es.length:Int) _=true;simp only[slb,ba,fD];omega
 generalize N7:cP (lo.map (val st.tm)) 0=Vp at*
 obtain⟨l,rfl⟩:∃l:Nat,Vp=l:=⟨Vp.toNat,al⟩
 have mU:l<=es.length:=al
 simp only[bK]at aN
 have dd:∀x∈es,cb s x=true:=λx ak=>lA x (wV _ ak)
 have ahb:∀x∈es.drop l++sp,cb s x=true:=λx ak=>bM
 have ahc:(es.drop l).length=es.length-l:=bb
 have lB:∀(A:Option Addr)(c:Nat),v=.slice A es.length c->es.length<=c->(execOp a.eval o).run P w=.ok (.value (.slice (if c=l then A else A.map (·.add (l*s.width))) (es.length-l) (c-l))) w:=λA c ar aa=>by have gx:=Ig (P:=P) (w:=w) ah.tm l8 (hi:=none) rfl true es.length c aa (by rw[N7];exact ag);simp_all[cP,execOp,Instr.sliceAt,cA,Instr.slice,sizeOf,typeInfo]
 rcases e2 with⟨pH,zC,EH,A,rfl⟩|⟨g,bj,dQ,rfl,fj,Vo,je,zD,_⟩
 .subst pH;subst zC;have l5:l=0:=by simpa using mU
  subst l5;refine wp_value (u:=.slice A 0 0) (w':=w) bM (bg _ _ _ aN ⟨S,_,_,ah.qo (id:=id) aR o.dst (rQ w _) (λg aB=>bM) (x:=.slice A 0 0) (wd:=s.width) (o':=none) rfl (λg aB=>w6)
   ⟨au,.slice A 0 0,[],[],bb,gh,cV _ _ _,bb,VRels.nil,.inl ⟨rfl,rfl,rfl,A,rfl⟩⟩ (.own _ site _ _ (cV _ _ _)),aY⟩)
 .have hH:∀fm,og id=some fm->¬S fm:=λfm dK=>bM;have bu:=lB _ _ rfl (Nat.le_add_right _ sp.length);by_cases di:es.length+sp.length=l
  .have zC:sp=[]:=pn al;have Iu:es.drop l=[]:=List.drop_eq_nil_of_le al;subst zC;rw[dE di,show es.length-l=0 by omega,show es.length+([]:List AV).length-l=0 by omega]at bu;rw[Iu]at aN;refine wp_value bu (bg _ _ _ aN ⟨S,_,_,ah.qo (id:=id) aR o.dst (rQ w _) hH (x:=.slice (some ⟨g,bj.length,none⟩) 0 0) (wd:=s.width) (o':=none) rfl (λg aB=>w6)
    ⟨au,_,[],[],bb,gh,cV _ _ _,bb,VRels.nil,.inl ⟨rfl,rfl,rfl,_,rfl⟩⟩ (.own _ site _ _ (cV _ _ _)),aY⟩)
  .rw[c0 di]at bu;simp only[jm,hd]at bu;have kp:xs.length=(es.length+sp.length)*s.width:=S0;have EL:l*s.width<=xs.length:=by rw[kp];exact sW _ al
   have B2:(bj++xs.take (l*s.width)).length=bj.length+l*s.width:=bM;refine wp_value bu (bg _ _ _ aN ⟨S,_,_,ah.qo (id:=id) aR o.dst (rQ w _) hH (x:=.slice (some ⟨g,bj.length+l*s.width,none⟩) (es.length-l) (es.length+sp.length-l)) (wd:=s.width) (o':=some g) rfl
    (λx ak=>GS) ?_ (.own _ site _ _ (cV _ _ _)),aY⟩)
   refine⟨au,_,sp,xs.drop (l*s.width),ahb,gh,cV _ _ _,λu hu=>N6 u (jx hu),?_,.inr ⟨g,bj++xs.take (l*s.width),rfl,?_,fj,p7,?_,zD,(λh=>cM)⟩⟩
   .have:=b6.drop (l*s.width);grind[vM,lZ,Nat.mul_le_mul_right,BW]
   .grind
   .rw[ahc];omega
theorem ahd(ah:Rel w S B β og st a)(aY:Out w0 bh B w S){i:Operand}{id:Nat}{im:Bool}{n:Int}(aw:o.op=.indexAddr t x i)(aQ:P.underlying t=some (.slice e))(ak:val st.tm x=.sub id lo len)
  (ay:lookup st.rows id=some (.arr im s e' es dm))(hi:val st.tm i=.int k n)
  (cx:k5 P e s=true)(ag:inb n len=true)(hle:lo+len<=es.length)(aN:y {v:=.eptr id (lo+n.toNat) 0}=some r)(bg:Good w0 bh B site o st y r K):o.cX R P a w K Q:=by
 have h:=eV ah.tm x
 rw[ak]at h
 have h':=eV ah.tm i
 rw[hi]at h'
 obtain⟨jB,eO,eW⟩:=qq ag
 obtain⟨A,c,bP,aa,_,bq⟩:=zs (ah.row id _ ay)
 obtain⟨g,dM,rfl,_⟩:=bq al
 have he:=Ep bP h
 rw[c0 al]at he
 obtain⟨ii,iF,fR⟩:=tp cx
 refine fI (u:=.pointer (some ⟨g,dM+((lo+n.toNat)*s.width+0),none⟩)) ah aY (.eptr _ id (lo+n.toNat) 0 g _ _ _ _ bP) aN bg ?_
 simp[execOp,aw,he,h'.eT,Instr.indexAt,asIntOf,cA aQ,jB,eO,sizeOf,typeInfo,iF,fR,hd,kB]
theorem Nr{B:Nat->Prop}{id:Nat}{o:Option Nat}{ds:List AV}(B1:∀b,S b->b<w.heap.size)(h:eb w S B β id o (.arr false s e es dm))(ahe:∀x∈ds,cb s x=true)(e6:VRels w S cq (flat ds) us)
  (avK:∀u∈us,u.oneCell'=true)(hle:lo+ds.length<=es.length)(bO:ds≠[]):
  ∃g dM xs c,o=some g/\¬S g/\¬B g/\β id=some (.slice (some ⟨g,dM,none⟩) es.length c,s.width)/\es.length<=c/\jQ w g (List.toArray xs) e (H5 s)/\dM+lo*s.width+us.length<=xs.length/\us.length=ds.length*s.width/\
   eb (w.setRow g (xs.take (dM+lo*s.width)++us++xs.drop (dM+lo*s.width+us.length)).toArray) S B β id o (.arr false s e (es.take lo++(ds++es.drop (lo+ds.length))) dm):=by
 obtain⟨au,v,sp,xs,lA,gh,bP,af,b6,e2⟩:=h
 have dJ:0<ds.length:=Be.2 bO
 rcases e2 with⟨rfl,_⟩|⟨g,bj,aw,rfl,fj,hh,je,lL,_⟩
 .grind
 .have jP:us.length=ds.length*s.width:=by rw[e6.1,lZ ds ahe]
  have kp:xs.length=(es.length+sp.length)*s.width:=S0;have jL:lo*s.width+us.length<=xs.length:=by rw[jP,kp,<-kB];exact sW _ al
  have hE:=uF w g (bj++(xs.take (lo*s.width)++us++xs.drop (lo*s.width+us.length))).toArray;have o3:∀b,S b->(w.setRow g (bj++(xs.take (lo*s.width)++us++xs.drop (lo*s.width+us.length))).toArray).heap[b]?=w.heap[b]?:=λb an=>hE.block b (B1 b an) (λe=>bM);have hlen:(es.take lo++(ds++es.drop (lo+ds.length))).length=es.length:=lu;refine⟨g,bj.length,bj++xs,_,aw,lL rfl,fj,bP,al,hh,bM,jP,?_⟩;rw[xE];refine⟨au,_,sp,xs.take (lo*s.width)++us++xs.drop (lo*s.width+us.length),λy aN=>?_,gh,bP,λu hu=>?_,?_,.inr ⟨g,bj,aw,by rw[hlen],fj,hh.setRow bM,by rw[hlen];exact je,λ_=>lL rfl,(λh=>cM)⟩⟩
  .grind
  .grind
  .refine VRels.mono (w:=w) (S:=S) (β:=cq) ?_ (λ_ h=>h) o3 (λ_ _ h=>h);have aU:flat ((es.take lo++(ds++es.drop (lo+ds.length)))++sp)=(flat (es++sp)).take (lo*s.width)++flat ds++(flat (es++sp)).drop (lo*s.width+us.length):=by
     have avL:∀x∈es,cb s x=true:=λx ak=>lA x (wV _ ak);have f1:(flat (es++sp)).take (lo*s.width)=flat (es.take lo):=by rw[<-H7 (s:=s) _ _ lA,wU al]
     have f2:(flat (es++sp)).drop (lo*s.width+us.length)=flat (es.drop (lo+ds.length)++sp):=by rw[jP,<-kB,<-BW (s:=s) _ _ lA,List.drop_append_of_le_length al]
     rw[f1,f2];simp[flat]
   rw[aU];exact((b6.take _).append e6).append (b6.drop _)
def ahf(es:List AV)(lo:Nat):es.take lo++(([]:List AV)++es.drop (lo+0))=es:=bb
end ops
section ops
variable{R:Option Nat}{aj:Type}{P:Program}{w0 w:World}{bh S:Nat->Prop}{B:Ctx}{β:cD}{og:Nat->Option Nat}{st:bC}{a:Act}{o:Oper}{site:Nat}{y:dx->Option aj}{r:aj}
 {K:Act->World->Prop}{Q:Exit->Act->World->Prop}
theorem N8(ah:Rel w S B β og st a)(aY:Out w0 bh B w S)(cN:∀id x,lookup rowsV id=some x->lookup st.rows id=some x){id:Nat}
  (aw:o.op=.call {callee:=.builtin .clear,args:=args,argTypes:=ae})(h1:ae.toList=[t])(ak:hz P st.tm ae.toList args.toList=[.sub id lo len])(aQ:P.underlying t=some (.slice e))(ay:lookup rowsV id=some (.arr false s e' es dm))(kC:s=shOf P depth e)(gp:l2 P e=true)(hle:lo+len<=es.length)
  (aN:y {v:=.undef,mod:=some (id,.arr false s e' (es.take lo++(List.replicate len (lI P e)++es.drop (lo+len))) dm)}=some r)(bg:Good w0 bh B site o st y r K):o.cX R P a w K Q:=by
 have ar:=qi ah.tm P ae.toList args.toList
 rw[ak]at ar
 obtain⟨u,us,he,hu,aJ⟩:=ar.inv
 rw[aJ.gf]at he
 have hm:=tl args _ he
 have mm:ae= #[t]:=bM
 obtain⟨i,dz,hi,fJ,fR,dJ,hq,nF,hS,jO,qn⟩:=xw gp
 have eN:=ah.row id _ (cN _ _ ay)
 obtain⟨A,c,bP,aa,_,bq⟩:=zs eN
 have pF:=Ep bP hu
 have lB:∀(x:Value)(w':World),(Builtin.clear_ #[t] o.type #[u]).run P w=.ok x w'->(execOp a.eval o).run P w=.ok (.value x) w':=λx w' bu=>L'
 by_cases a7:len=0
 .subst a7;simp only[List.replicate_zero]at aN;rw[ahf]at aN;have bu:(Builtin.clear_ #[t] o.type #[u]).run P w=.ok undef w:=by rw[pF];generalize(if c=lo then A else A.map (·.add (lo*s.width)))=qm;cases qm<;>simp[Builtin.clear_,cA aQ]<;>rfl
  have dI:=ah.modify (id:=id) (w':=w) (rQ w _) rfl (λg aB=>by obtain⟨_,_,_,_,_,_,_,_,_,e2⟩:=eN;grind) eN;exact TB
 .obtain⟨dV,z2,z3⟩:=HZ hi fJ hq dJ jO qn w S cq len;rw[<-kC]at dV;have bO:List.replicate len (lI P e)≠[]:=p7;obtain⟨g,dM,xs,c',dQ,HY,fj,j1,iD,hh,jL,jP,rV⟩:=Nr ah.dF eN (lo:=lo) (ds:=List.replicate len (lI P e)) (λx ak=>Ta) z2 z3 (by simpa using hle) bO;rw[bP]at j1;simp only[ej,gU,vn,po,true_and]at j1;obtain⟨rfl,rfl⟩:=j1;rw[yL]at rV;have hE:=uF w g (xs.take (dM+lo*s.width)++(Builtin.zeroCells dz.cells len).toList++xs.drop (dM+lo*s.width+(Builtin.zeroCells dz.cells len).toList.length)).toArray;have dI:=ah.modify (id:=id) vr (by simp[World.setRow]) (λfm dK=>by rw[dQ]at dK;cases dK;exact HY) rV;have fx:=hh.H0 (P:=P) (dM+lo*s.width) (Builtin.zeroCells dz.cells len).toList 0 SS z3;simp only[lX]at fx;have bu:(Builtin.clear_ #[t] o.type #[u]).run P w=.ok undef (w.setRow g (xs.take (dM+lo*s.width)++(Builtin.zeroCells dz.cells len).toList++xs.drop (dM+lo*s.width+(Builtin.zeroCells dz.cells len).toList.length)).toArray):=by rw[pF,c0 al];simp only[jm,hd];obtain⟨len,rfl⟩:=LX a7;simp only[Builtin.clear_,LY,sY,iL,cA aQ,jX,zeroValue,typeInfo,vk,hi,fJ,lW,fx];rfl
  exact Tn
def ahg(n:Nat)(h:n<=4611686018427387904):IntKind.i64.wrap (n:Int)=n:=IntWalk.i64_in _ al
theorem N9(ah:Rel w S B β og st a)(aY:Out w0 bh B w S)(aR:lN site st.used){l c:Operand}{cl:IntKind}{n:Int}(aw:o.op=.makeSlice t l c)(aQ:P.underlying t=some (.slice e))(ay:val st.tm l=.int k n)(aa:val st.tm c=.int cl n)(gp:l2 P e=true)(aJ:0<=n)(h2:roomB n.toNat (P.bytesOf e)=true)
  (aN:y {v:=.own site,new:=some (.arr false (shOf P depth e) e (List.replicate n.toNat (lI P e)) none)}=some r)(bg:Good w0 bh B site o st y r K):o.cX R P a w K Q:=by
 have zH:=eV ah.tm l
 rw[ay]at zH
 have o1:=eV ah.tm c
 rw[aa]at o1
 have hle:=zH.eT
 have B3:=o1.eT
 obtain⟨ii,dz,hi,fJ,fR,dJ,hq,nF,hS,jO,qn⟩:=xw gp
 obtain⟨k2,hy⟩:=zB h2
 obtain⟨dV,z2,z3⟩:=HZ hi fJ hq dJ jO qn w S cq n.toNat
 have vT:(ii.bytes:Int)*n<=281474976710656:=bM
 have N':Go.madeCells dz.cells (n.toNat*ii.size)=Builtin.zeroCells dz.cells n.toNat:=by grind[Go.madeCells,Builtin.zeroCells]
 have bu:=run_make (P:=P) w t e ii dz aQ hi fJ k cl n n aJ (ui _) vT al
 rw[N']at bu
 have lB:∀(x:Value)(w':World),(Instr.makeSlice t (.int k n) (.int cl n)).run P w=.ok x w'->(execOp a.eval o).run P w=.ok (.value x) w':=λx w' bu=>by grind[execOp,Sem.run_bind,Sem.run_pure,Result.andThen_ok]
 have ak:Builtin.zeroCells dz.cells n.toNat=(Builtin.zeroCells dz.cells n.toNat).toList.toArray++Builtin.zeroCells dz.cells (n.toNat-(List.replicate n.toNat (lI P e)).length):=by rw[yL,DF];apply wR;simp[Builtin.zeroCells]
 have ag:=r9 w (.cells (Builtin.zeroCells dz.cells n.toNat) e)
 have cG:=ah.new site aR o.dst ag (S':=S) (λ_ h=>h) (λ_ _ h=>h) (λb an=>jK (ah.dF b an) ag.size) (x:=.slice (some ⟨w.heap.size,0,none⟩) n.toNat n.toNat) (wd:=(shOf P depth e).width) (o:=some w.heap.size) rfl (λg aB=>w2)
  (r:=.arr false (shOf P depth e) e (List.replicate n.toNat (lI P e)) none) (v:=.own site) (u:=.slice (some ⟨w.heap.size,0,none⟩) n.toNat n.toNat) ?_ (.own _ site _ _ (cV _ _ _))
 .exact wp_value (lB _ _ bu) (bg _ _ _ aN ⟨S,_,_,cG,aY.grow ah.dZ ag⟩)
 .have:=EE (w:=w) (bD:=fK β site (some (.slice (some ⟨w.heap.size,0,none⟩) n.toNat n.toNat,(shOf P depth e).width))) (id:=site) ah.dF ah.dZ hi fJ hq dJ fR jO qn rfl (es:=List.replicate n.toNat (lI P e)) (λx ak=>bM) z2 z3 (cap:=n.toNat) bb DS (w1:=w) rfl (by grind[cV]);grind
theorem Iv(h:td P e=true):P.underlying e=some (.int .u8):=by grind[td]
theorem ahh(w:World)(e:TypeId)(s:ByteArray):Below w.heap.size w (Lib.bytesWorld w e s):=⟨by rfl,by rfl,by rfl,by grind[Lib.bytesWorld_size],λj aP=>Lib.bytesWorld_at_old w e s j aP⟩
def Iw(k:IntKind):∀l:List Int,flat (l.map (AV.int k))=l.map (AV.int k)
 |[]=>rfl
 |n::l=>by show AV.cells (AV.int k n)++flat (l.map (AV.int k))=_;rw[Iw k l];rfl
theorem Oa:∀(eY:List Int)(s:List UInt8),eY.foldl (λr n=>ByteArray.push r (UInt8.ofNat n.toNat)) ⟨s.toArray⟩=⟨(s++eY.map λn=>UInt8.ofNat n.toNat).toArray⟩
 |[],s=>bb
 |n::eY,s=>by
  rw[jw];have:ByteArray.push ⟨s.toArray⟩ (UInt8.ofNat n.toNat)=⟨(s++[UInt8.ofNat n.toNat]).toArray⟩:=by grind[ByteArray.push]
  rw[this,Oa eY];simp
theorem Ix(ah:Rel w S B β og st a)(aY:Out w0 bh B w S)(cN:∀id x,lookup rowsV id=some x->lookup st.rows id=some x){src dst:TypeId}(aw:o.op=.convert src dst x)(an:P.underlying src=some (.slice e))(aX:P.underlying dst=some .string)(ak:ta rowsV (cw P st.tm src x)=some (s,es))(ag:td P e=true)(dd:Sh.beq s (.int .u8)=true)
  (aN:y {v:=.str (kF es)}=some r)(bg:Good w0 bh B site o st y r K):o.cX R P a w K Q:=by
 have ar:=iP ah.tm P src x
 obtain⟨A,c,ad,xs,he,kC,bq,b6,af,ahi,r'⟩:=NU ah cN ak ar
 have B4:=Iv ag
 obtain rfl:=Sh.beq_eq _ _ dd
 obtain⟨eY,Iy⟩:∃eY:List Int,es=eY.map (AV.int .u8):=by
  refine⟨es.map AV.toInt,?_⟩;rw[p4]
  symm
  conv=>rhs;rw[<-A' es]
  refine p5 λv ar=>?_;have:=kC v ar;cases v<;>simp[cb,fE]at this;subst this;rfl
 subst Iy
 rw[Iw]at b6
 have gz:xs=eY.map (Value.int .u8):=by
  refine yE λj=>?_;rw[k0];cases aP:eY[j]?with
  |none=>
   have:xs.length=eY.length:=by rw[b6.1,g']
   grind
  |some n=>obtain⟨u,hu,aD⟩:=b6.at_ (j:=j) (c:=.int .u8 n) bM;rw[hu,aD.eT];rfl
 have ahj:kF (eY.map (AV.int .u8))=eY.map λn=>UInt8.ofNat n.toNat:=by unfold kF;rw[p4];rfl
 have bu:(Conv.bytesToString (.slice A (eY.map (AV.int .u8)).length c)).run P w=.ok (.string ⟨(kF (eY.map (AV.int .u8))).toArray⟩) w:=by
  rw[ahj];cases eY with
  |nil=>
   cases A with
   |none=>rfl
   |some b=>rfl
  |cons n eY=>rw[bq bb];have ay:=Ss (P:=P) w ad xs ahi;rw[gz]at ay;have:=run_bytesToString (P:=P) w ad (n::eY).length c (n::eY) Ha;rw[g',this];have au:=Oa (n::eY) [];rw[pj]at au;exact dh (λz=>Result.ok (Value.string z) w) au
 have lB:(execOp a.eval o).run P w=.ok (.value (.string ⟨(kF (eY.map (AV.int .u8))).toArray⟩)) w:=by simp_all[convert,kF,iL,cA,jX,execOp,lW]
 exact wp_value lB (bg _ _ _ aN ⟨S,β,og,ah.put o.dst (.str _ _),aY⟩)
end ops
end Go.Ev
