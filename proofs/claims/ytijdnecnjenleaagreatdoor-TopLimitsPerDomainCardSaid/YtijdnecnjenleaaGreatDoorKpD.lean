/-
  Names of fields; fields are divided into lines.
-/
import Derived.Test.YtijdnecnjenleaaGreatDoorEvX
import Derived.Lib.AppendIntMem
import Derived.BigQuiet
set_option linter.all false
namespace Go.Proofs.YtijdnecnjenleaaGreatDoor
open Go.Ev
open Tryz
variable{aq:Env}{f:Nat}{fn:Func}{F:Summ}{K:List (Nat×Ev.Loop)}{H:List (Nat×Nat×TypeId)}
def sy:prog.follows .mixedOrders=true:=aG
def inl(bR:aM prog aq)(dW:prog.funcs[f]?=some fn)(ay:fn.body.map c7=some [])(uO:aq.fork=false:=by rfl)(jF:aq.j4=[]:=by rfl):SumOK prog f (jc prog aq [] fn)/\b5 (jc prog aq [] fn):=by have bg:∀c,fn.body=some c->ch prog aq [] c:=λc aa=>ch.nil wX;exact⟨ai8 bR (so bR sy) dW bg jF,ai7 bR.dX uO bg⟩
def PC(bR:aM prog aq)(dW:prog.funcs[f]?=some fn)(ay:fn.body.map c7=some [])(hF:∀aj aA k r,F aj aA k=some r->jc prog aq [] fn aj aA k=some r)(jF:aq.j4=[]:=by rfl):SumOK prog f F:=E1 bR (so bR sy) dW (λaj aA k r h=>⟨[],λc aa=>ch.nil wX,hF aj aA k r h⟩) jF
def aM.br(bR:aM prog aq)(h:SumOK prog f F/\b5 F):aM prog {aq with pure:=(f,F)::aq.pure}:=bR.cons h.1 h.2
def aM.iS{F:jD}(bR:aM prog aq)(h:fH prog f F/\hA F):aM prog {aq with opens:=(f,F)::aq.opens}:=bR.ai9 h.1 h.2
def akS(bR:aM prog aq)(dW:prog.funcs[f]?=some fn){b:Code}{l:Ev.Loop}(ay:fn.body.map c7=some [b])(aR:lH K (mP b)=some l)(eD:dj prog aq K b l)
  (hF:∀aj aA k r,F aj aA k=some r->jc prog aq K fn aj aA k=some r)(jF:aq.j4=[]:=by rfl):SumOK prog f F:=
 E1 bR (so bR sy) dW (λaj aA k r h=>⟨K,λc aa=>ch.one wX aR eD,hF aj aA k r h⟩) jF
def XP(bR:aM prog aq)(dW:prog.funcs[f]?=some fn){bs:List Code}(ay:fn.body.map c7=some bs)(eD:∀b∈bs,∃l,lH K (mP b)=some l/\dj prog aq K b l)
  (hF:∀aj aA k r,F aj aA k=some r->jc prog aq K fn aj aA k=some r)(jF:aq.j4=[]:=by rfl):SumOK prog f F:=
 E1 bR (so bR sy) dW (λaj aA k r h=>⟨K,λc aa=>ch.all wX eD,hF aj aA k r h⟩) jF
def akT(bR:aM prog aq)(dW:prog.funcs[f]?=some fn){bs:List Code}(ay:fn.body.map c7=some bs)(eD:∀b∈bs,∃l,lH K (mP b)=some l/\dj prog aq K b l)
  {F:jD}(hF:∀aj aA rows k r,F aj aA rows k=some r->rows.length<=1000000/\∀rows',uJ rows rows'->th prog aq K H fn aj aA rows' k=some r)(jF:aq.j4=[]:=by rfl):fH prog f F:=
 IH bR (so bR sy) dW (λaj aA rows k r h=>⟨(hF aj aA rows k r h).1,λrows' an=>⟨K,H,λc aa=>ch.all wX eD,(hF aj aA rows k r h).2 rows' an⟩⟩) jF
def PD(bR:aM prog aq)(dW:prog.funcs[f]?=some fn){b:Code}{l:Ev.Loop}(ay:fn.body.map c7=some [b])(aR:lH K (mP b)=some l)(eD:dj prog aq K b l)
  {F:jD}(hF:∀aj aA rows k r,F aj aA rows k=some r->rows.length<=1000000/\∀rows',uJ rows rows'->th prog aq K H fn aj aA rows' k=some r)(jF:aq.j4=[]:=by rfl):fH prog f F:=
 IH bR (so bR sy) dW (λaj aA rows k r h=>⟨(hF aj aA rows k r h).1,λrows' an=>⟨K,H,λc aa=>ch.one wX aR eD,(hF aj aA rows k r h).2 rows' an⟩⟩) jF
def Jp(bR:aM prog aq)(dW:prog.funcs[f]?=some fn)(ay:fn.body.map c7=some [])
  {F:jD}(hF:∀aj aA rows k r,F aj aA rows k=some r->rows.length<=1000000/\∀rows',uJ rows rows'->th prog aq [] H fn aj aA rows' k=some r)(jF:aq.j4=[]:=by rfl):fH prog f F:=
 IH bR (so bR sy) dW (λaj aA rows k r h=>⟨(hF aj aA rows k r h).1,λrows' an=>⟨[],H,λc aa=>ch.nil wX,(hF aj aA rows k r h).2 rows' an⟩⟩) jF
end Go.Proofs.YtijdnecnjenleaaGreatDoor
namespace Go.Ev
variable{α:Type}{n:Nat}{b:Bool}{aj:Type}{p:Nat->Bool}
def xY:Option Nat->Int
 |some j=>j
 |none=> -1
def mL(n:Int)(h: -9223372036854775808<=n)(h':n<=9223372036854775807):IntKind.i64.wrap n=n:=IntWalk.i64_in n ⟨h,h'⟩
def lT(n:Int)(h: -1000000000000<=n)(h':n<=1000000000000):IntKind.i64.wrap n=n:=mL n (Int.le_trans gn h) (Int.le_trans h' gn)
def small(n:Nat):Bool:=decide (n<=9223372036854775807)
def akU(h:small n=true):n<=9223372036854775807:=bH h
def ie{i:Int}(a7:0<=i)(h:i<n):inb i n=true:=by simp[inb,a7,h]
def sz{a:Bool}(h:a=true)(h':b=true):(a&&b)=true:=by rw[h,h'];rfl
def bx(p:Nat->Bool)(n i:Nat):Option Nat:=(List.range' i (n-i)).find? p
def XQ(p:Nat->Bool)(n i:Nat)(h:i<n):bx p n i=bif p i then some i else bx p n (i+1):=by unfold bx;rw[show n-i=(n-(i+1))+1 from al,List.range'_succ,List.find?_cons];cases p i<;>rfl
def XR(p:Nat->Bool)(n i:Nat)(h:n<=i):bx p n i=none:=by unfold bx;rw[show n-i=0 from al];rfl
def sA{i q:Nat}(h:bx p n i=some q):i<=q/\q<n/\p q=true/\∀j,i<=j->j<q->p j=false:=by
 unfold bx at h;obtain⟨af,cm,bs,ao,a1⟩:=List.find?_eq_some_iff_append.1 h;have hm:q∈List.range' i (n-i):=by rw[ao];simp
 rw[A8]at hm;refine⟨hm.1,al,af,λj aP awb=>?_⟩;have ay:=dh List.length ao;have aH:(List.range' i (n-i))[cm.length]?=some q:=by rw[ao];simp
 have WS:cm.length<n-i:=by rw[List.length_range',fu,e5]at ay;omega
 have hlen:cm.length=q-i:=by rw[List.getElem?_range' WS]at aH;simp at aH;omega
 have Cm:(List.range' i (n-i))[j-i]?=cm[j-i]?:=by rw[ao,GA al]
 rw[List.getElem?_range' al]at Cm;have se:j∈cm:=pk (i:=j-i) (by rw[<-Cm];congr 1;omega);simpa using a1 j se
def tK{i:Nat}(h:bx p n i=none):∀j,i<=j->j<n->p j=false:=by unfold bx at h;intro j aP aJ;have:=List.find?_eq_none.1 h j (by rw[A8];omega);simpa using this
theorem Jq{i:Nat}(h:∀j,i<=j->j<n->p j=false):bx p n i=none:=by unfold bx;rw[List.find?_eq_none];intro j aP;rw[A8]at aP;simp[h j aP.1 al]
def bl(n i:Int)(m:Nat):Bool:=decide (n=m)&&(decide (0<=i)&&(decide (i<=n)&&small m))
def eA{n i:Int}{m:Nat}(h:bl n i m=true):n=m/\m<=9223372036854775807/\∃j:Nat,i=j/\j<=m:=by simp only[bl,ba,fD]at h;obtain⟨rfl,a7,af,an⟩:=h;exact⟨rfl,akU an,i.toNat,al,al⟩
def e1{m:Nat}(an:small m=true):bl m 0 m=true:=sz (aS rfl) (sz (aS al) (sz (aS al) an))
def a'{x y:α}(h:b=true):cond b x y=x:=by rw[h];rfl
def fP{x y:α}(h:b=false):cond b x y=y:=by rw[h];rfl
def aV{a:Bool}(h:a=true)(h':b=true):(a&&b)=true:=by rw[h,h'];rfl
def bn{a b c:α}(h:b=c)(i:a=b:=by kernel_rfl):a=c:=i.trans h
abbrev AV.I(n:Int):AV:=.int .i64 n
inductive a6(α:Type) where
 |no:a6 α
 |leaf (a:α):a6 α
 |cY (c:Bool) (x y:a6 α):a6 α
def a6.run(t:a6 α)(k:α->Option aj):Option aj:=
 match t with
 |.no=>none
 |.leaf a=>k a
 |.cY c x y=>bif c then x.run k else y.run k
theorem a6.run_bind{α aj Cw:Type}(f:α->Option Cw)(k:Cw->Option aj):∀t:a6 α,t.run (λa=>(f a).bind k)=(t.run f).bind k
 |.no=>rfl
 |.leaf _=>rfl
 |.cY c x y=>by show(bif c then x.run _ else y.run _)=(bif c then x.run f else y.run f).bind k;rw[a6.run_bind f k x,a6.run_bind f k y];cases c<;>rfl
def a6.bt(c:Bool)(t:a6 α):a6 α:=.cY c t .no
def bz{c:Bool}{t:a6 α}{k:α->Option aj}{r:aj}(h:(a6.bt c t).run k=some r):c=true/\t.run k=some r:=by
 cases c
 .cases h
 .exact⟨rfl,h⟩
def aK(p:List AV->a6 AV):Summ:=λ_ aA k=>(p aA).run k
def qD(p:List AV->a6 AV):b5 (aK p):=λ_ aA k=>a6.run_bind (Cw:=AV) some k (p aA)
abbrev cy:=Ex×List AV×List (Option Row)
def dP(p:List AV->List (Option Row)->a6 cy):Uf:=λ_ vs rs k=>(p vs rs).run λq=>k q.1 q.2.1 q.2.2
abbrev hf:=AV×List (Option Row)×List Row
def cz(p:List AV->List Row->a6 hf):jD:=λ_ aA rows k=>(p aA rows).run λq=>k q.1 q.2.1 q.2.2
def kQ(p:List AV->List Row->a6 hf):hA (cz p):=λ_ aA rows k=>a6.run_bind (α:=hf) (Cw:=hf) (λq=>some (q.1,q.2.1,q.2.2)) (λq=>k q.1 q.2.1 q.2.2) (p aA rows)
def ed{P:Program}{aq:Env}{K:List (Nat×Loop)}(cG:mY aq)(uO:aq.fork=false){b:Code}{N:Norm}{p:List AV->List (Option Row)->a6 cy}(bg:ch P aq K b)(v8:List AV->List (Option Row)->Nat)
  (Ei:∀(aj:Type)(vs:List AV)(rs:List (Option Row))(k:Ex->List AV->List (Option Row)->Option aj)(r:aj),(p vs rs).run (λq=>k q.1 q.2.1 q.2.2)=some r->er P aq K b aj (expand N vs rs) (after ⟨N,dP p⟩ v8 (v8 vs rs) k)=some r):dj P aq K b ⟨N,dP p⟩:=
 WN cG uO bg v8 Ei λ_ vs rs k=>a6.run_bind (α:=cy) (Cw:=cy) (λq=>some (q.1,q.2.1,q.2.2)) (λq=>k q.1 q.2.1 q.2.2) (p vs rs)
def h8(p:Nat->Bool)(n:Nat)(A:Nat->a6 α)(B:a6 α)(j:Nat):a6 α:=.cY (bx p n j).isSome (A ((bx p n j).getD 0)) B
def j2(p:Nat->Bool)(n:Nat)(A:Nat->a6 α)(B:a6 α)(j:Nat)(h:j<n)(k:α->Option aj):(h8 p n A B j).run k=bif p j then(A j).run k else(h8 p n A B (j+1)).run k:=by unfold h8;show cond _ ((A ((bx p n j).getD 0)).run k) (B.run k)=bif p j then(A j).run k else cond _ ((A ((bx p n (j+1)).getD 0)).run k) (B.run k);rw[XQ p n j h];cases p j<;>rfl
def afe(p:Nat->Bool)(n:Nat)(A:Nat->a6 α)(B:a6 α)(k:α->Option aj):(h8 p n A B n).run k=B.run k:=by unfold h8;rw[XR p n n (dc _)];rfl
def ew{m j:Nat}(h:j<m)(an:m<=9223372036854775807):decide ((j:Int)<(m:Int))=true/\inb (j:Int) m=true/\IntKind.i64.wrap ((j:Int)+1)=((j+1:Nat):Int)/\bl m ((j+1:Nat):Int) m=true/\decide (((m:Int)-((j+1:Nat):Int)).toNat<((m:Int)-(j:Int)).toNat)=true:=by
 refine⟨aS al,ie al al,?_,?_,aS al⟩
 .rw[mL _ al al];omega
 .exact sz (aS rfl) (sz (aS al) (sz (aS al) (aS an)))
end Go.Ev
namespace Go.Proofs.YtijdnecnjenleaaGreatDoor
open Go.Ev
open Tryz
variable{p:List AV->a6 AV}{K:List (Nat×Ev.Loop)}
def xZ{aq:Env}(bR:aM prog aq){f:Nat}{fn:Func}(dW:prog.funcs[f]?=some fn){bs:List Code}(ay:fn.body.map c7=some bs)(eD:∀b∈bs,∃l,lH K (mP b)=some l/\dj prog aq K b l)
  (hF:∀aj aA k r,(p aA).run k=some r->jc prog aq K fn aj aA k=some r)(jF:aq.j4=[]:=by rfl):SumOK prog f (aK p)/\b5 (aK p):=
 ⟨XP bR dW ay eD hF jF,qD p⟩
def eJ{aq:Env}(bR:aM prog aq){f:Nat}{fn:Func}(dW:prog.funcs[f]?=some fn)(ay:fn.body.map c7=some [])
  (hF:∀aj aA k r,(p aA).run k=some r->jc prog aq [] fn aj aA k=some r)(jF:aq.j4=[]:=by rfl):SumOK prog f (aK p)/\b5 (aK p):=
 ⟨PC bR dW ay hF jF,qD p⟩
def iH{aq:Env}(bR:aM prog aq){f:Nat}{fn:Func}(dW:prog.funcs[f]?=some fn){b:Code}{l:Ev.Loop}(ay:fn.body.map c7=some [b])(aR:lH K (mP b)=some l)(eD:dj prog aq K b l)
  (hF:∀aj aA k r,(p aA).run k=some r->jc prog aq K fn aj aA k=some r)(jF:aq.j4=[]:=by rfl):SumOK prog f (aK p)/\b5 (aK p):=
 ⟨akS bR dW ay aR eD hF jF,qD p⟩
end Go.Proofs.YtijdnecnjenleaaGreatDoor
namespace Go.Ev
variable{P:Program}{f:FuncId}{es:List AV}
def hW{n b:Nat}(h:n<=2000000)(h':b<=1000):roomB n b=true:=by simp only[roomB,ba,nr,fD];have:n*b<=2000000*1000:=Nat.mul_le_mul h h';omega
def mB{l h:Int}{m:Nat}(a7:0<=l)(af:l<=h)(ao:h<=m):slb l h m=true:=by simp[slb,a7,af,ao]
def getD_eq{i:Nat}(h:i<es.length):es.getD i .J=es[i]:=by simp[List.getD,h]
def Cx{i:Nat}(h:i<es.length):es.drop i=es.getD i .J::es.drop (i+1):=by rw[getD_eq h,rP h]
def o8(p:AV->Bool)(c:AV->AV):Nat->List AV->Nat->Nat->List AV×Nat
 |0,es,i,_=>(es,i)
 |n+1,es,i,j=>bif p (es.getD j .J)then o8 p c n es i (j+1)else o8 p c n (es.set i (c (es.getD j .J))) (i+1) (j+1)
def Jr(p:AV->Bool)(c:AV->AV)(n:Nat)(es:List AV)(i j:Nat):o8 p c (n+1) es i j=bif p (es.getD j .J)then o8 p c n es i (j+1)else o8 p c n (es.set i (c (es.getD j .J))) (i+1) (j+1):=rfl
def PE(p:AV->Bool)(c:AV->AV):∀(n:Nat)(es:List AV)(i j:Nat),(o8 p c n es i j).1.length=es.length
 |0,_,_,_=>rfl
 |n+1,es,i,j=>by
  rw[Jr];cases p (es.getD j .J)
  .rw[cU,PE p c n];simp
  .rw[b4,PE p c n]
def PF(p:AV->Bool)(c:AV->AV):∀(n:Nat)(es:List AV)(i j:Nat),(o8 p c n es i j).2<=i+n
 |0,_,_,_=>dc _
 |n+1,es,i,j=>by
  rw[Jr];cases p (es.getD j .J)
  .rw[cU];have:=PF p c n (es.set i (c (es.getD j .J))) (i+1) (j+1);omega
  .rw[b4];have:=PF p c n es i (j+1);omega
def PG(p:AV->Bool)(c:AV->AV):∀(n:Nat)(es:List AV)(i j:Nat),i<=j->j+n=es.length->(∀x∈es,c x=x)->(o8 p c n es i j).1.take (o8 p c n es i j).2=es.take i++(es.drop j).filter (λx=> !p x)
 |0,es,i,j,_,h,_=>by unfold o8;rw[GH al];simp
 |n+1,es,i,j,l4,h,aa=>by
  have aP:j<es.length:=al;rw[Jr,getD_eq aP,rP aP,List.filter_cons];cases bp:p es[j]
  .rw[cU,aa _ (p3 aP)];rw[PG p c n (es.set i es[j]) (i+1) (j+1) al (by rw[oJ];omega) (λx ak=>by
     rcases L2 ak with h|h
     .exact aa x h
     .rw[h];exact aa _ (p3 aP))]
   have aU:(es.set i es[j]).take (i+1)=es.take i++[es[j]]:=by rw[LS,List.take_set_of_le (dc _),GB al];rfl
   have bc:(es.set i es[j]).drop (j+1)=es.drop (j+1):=List.drop_set_of_lt al;rw[aU,bc];simp
  .rw[b4,PG p c n es i (j+1) al al aa];simp
def PH{aj:Type}(p:AV->Bool)(c:AV->AV)(z:AV)(es:List AV)(f:Option Nat)(G:Int->Int->Bool)(K:List AV->Option aj):Option aj:=
 bif small es.length then bif xY f== -1 then K es else
  bif G (xY f) (IntKind.i64.wrap (xY f+1))then
   (λD:List AV×Nat=>bif slb (D.2:Int) (D.1.length:Int) D.1.length then bif decide (((D.2:Nat):Int).toNat+(((D.1.length:Nat):Int).toNat-((D.2:Nat):Int).toNat)<=D.1.length)then
    (λE:List AV=>bif slb 0 (D.2:Int) E.length then bif(((D.2:Nat):Int).toNat-Int.toNat 0).ble E.length then K (E.take (((D.2:Nat):Int).toNat-Int.toNat 0))else none else none)
     (D.1.take ((D.2:Nat):Int).toNat++(List.replicate (((D.1.length:Nat):Int).toNat-((D.2:Nat):Int).toNat) z++D.1.drop (((D.2:Nat):Int).toNat+(((D.1.length:Nat):Int).toNat-((D.2:Nat):Int).toNat))))
    else none else none) (o8 p c (es.length-(IntKind.i64.wrap (xY f+1)).toNat) es (xY f).toNat (IntKind.i64.wrap (xY f+1)).toNat)
  else none
 else none
def akV{aj:Type}{p:AV->Bool}{c:AV->AV}{z:AV}{f:Option Nat}{G:Int->Int->Bool}{K:List AV->Option aj}(aR:f=bx (λi=>p (es.getD i .J)) es.length 0)(an:es.length<=1000000)(aa:∀x∈es,c x=x)(iG:∀i:Nat,i<es.length->G i ((i:Int)+1)=true):PH p c z es f G K=K (es.filter λx=> !p x):=by
 unfold PH;rw[show small es.length=true from aS al,b4];cases aH:f with
 |none=>have aJ:=tK (aR▸aH);rw[show es.filter (λx=> !p x)=es from List.filter_eq_self.2 λx ak=>by obtain⟨i,hi,rfl⟩:=vj ak;have:=aJ i (iM _) hi;rw[getD_eq hi]at this;rw[this];rfl];rfl
 |some i=>
  obtain⟨_,hi,af,ao⟩:=sA (aR▸aH);have hw:IntKind.i64.wrap ((i:Int)+1)=i+1:=lT _ al al;have mX:((i:Int)+1).toNat=i+1:=al;have ay:=PE p c (es.length-(i+1)) es i (i+1);have hle:=PF p c (es.length-(i+1)) es i (i+1);have BZ:=PG p c (es.length-(i+1)) es i (i+1) al al aa;have wi:es.filter (λx=> !p x)=es.take i++(es.drop (i+1)).filter (λx=> !p x):=by
   conv=>lhs;rw[<-uh i es,rP hi]
   rw[getD_eq hi]at af;rw[Su,List.filter_cons,af];rw[show(es.take i).filter (λx=> !p x)=es.take i from List.filter_eq_self.2 λx ak=>by obtain⟨j,aP,rfl⟩:=vj ak;rw[wQ]at aP;have:=ao j (iM _) al;rw[getD_eq al]at this;rw[List.getElem_take,this];rfl];rfl
  rw[wi,<-BZ];simp only[xY,hw,mX,bK];rw[show((i:Int)== -1)=false from bb,cU,iG i hi,b4];generalize o8 p c (es.length-(i+1)) es i (i+1)=D at ay hle;have aU:D.1.take D.2++(List.replicate (D.1.length-D.2) z++D.1.drop (D.2+(D.1.length-D.2)))=D.1.take D.2++List.replicate (D.1.length-D.2) z:=by rw[GH al,jy]
  have bc:(D.1.take D.2++List.replicate (D.1.length-D.2) z).length=D.1.length:=lu;rw[aU];refine aT (a' (mB al al al)) (aT (a' (aS al)) (aT (a' (mB al al (by rw[bc];omega))) (aT (a' (LW (by rw[bc];simp;omega))) ?_)));rw[show D.2-Int.toNat 0=D.2 from bb,wU lu,nn lu]
open Go.RowKit
def jJ(s:List UInt8)(c:Int):Int:=Lib.indexByte s c.toNat.toUInt8
def xX:Summ:=λ_ aA k=>match aA with
 |[.str s,.int .u8 c]=>k (.int .i64 (jJ s c))
 |_=>none
def akW:b5 xX:=λaj aA k=>by unfold xX;split<;>rfl
def akX{fn:Func}(dW:P.funcs[f]?=some fn)(akY:(fn.name== "runtime.NumGoroutine")=false)(ag:fn.body.isNone=true)(aJ:Extern.findNext fn=none)(he:Extern.find fn=some Extern.BytealgIndexByte.indexByte):SumOK P f xX/\b5 xX:=by
 refine⟨λaj w S aA args k r cu ar h=>?_,akW⟩;unfold xX at h;split at h
 .rename_i s c;obtain⟨v,vs,rfl,af,ar⟩:=ar.inv;obtain⟨u,us,rfl,ao,ar⟩:=ar.inv;obtain rfl:=ar.gf;rw[af.hO,ao.eT];refine .inr ⟨WQ dW ag,.int .i64 (jJ s c),w,?_,⟨_,_,λ_=>False,rfl,h,Below.refl _ _,λ_ h=>h.elim,λ_ h=>h.elim,.int _ _ _⟩⟩;rw[run_callFunc_extern dW akY ag aJ he];show((Extern.BytealgIndexByte.indexByte #[.string ⟨s.toArray⟩,.int .u8 c]).run P w).andThen _=_;rw[Lib.run_indexByteString];rfl
 .cases h
def akZ{w:World}{S:Nat->Prop}{β:cD}{s:Sh}{x:AV}{us:List Value}(h:cb s x=true)(ar:VRels w S β x.cells us):VRels w S β (hj s x) us:=BR _ _ _ (Er s _ h) ar
def eb.focus{w:World}{S B:Nat->Prop}{β:cD}{id:Nat}{o:Option Nat}{bW:Bool}{s:Sh}{e:TypeId}{pre post cs:List AV}{x:AV}{dm:Option (List AV)}(h:eb w S B β id o (.arr bW s e (pre++x::post) dm))
  (gh:cs=x.cells\/cs=hj s x):eb w S B β id o (.cj bW s e pre cs post):=by
 obtain⟨dJ,v,sp,xs,dd,_,ag,af,b6,e2⟩:=h
 rcases e2 with⟨he,_⟩|⟨g,bj,aw,rfl,dy,hh,hm,hi,aP⟩
 .simp at he
 .have lM:∀y∈pre,cb s y=true:=λy aN=>dd y y1;have ak:cb s x=true:=dd x bb;have j8:∀y∈post++sp,cb s y=true:=λy aN=>dd y (by rcases gD.1 aN with h|h<;>simp[h]);have hw:=vK s x ak;have aR:flat (pre++x::post++sp)=flat pre++(x.cells++flat (post++sp)):=by simp only[flat,List.flatMap_append,mg,nm]
  rw[aR]at b6;have awc:=lZ pre lM;have v1:VRels w S cq (flat pre) (xs.take (flat pre).length):=by have:=b6.take (flat pre).length;rwa[wU (dc _),nn (dc _)]at this
  have v2:VRels w S cq (x.cells++flat (post++sp)) (xs.drop (flat pre).length):=by have:=b6.drop (flat pre).length;rwa[List.drop_left]at this
  have v3:VRels w S cq x.cells ((xs.drop (flat pre).length).take x.cells.length):=by have:=v2.take x.cells.length;rwa[wU (dc _),nn (dc _)]at this
  have v4:VRels w S cq (flat (post++sp)) ((xs.drop (flat pre).length).drop x.cells.length):=by have:=v2.drop x.cells.length;rwa[List.drop_left]at this
  have uE:xs.take (flat pre).length++((xs.drop (flat pre).length).take x.cells.length++(xs.drop (flat pre).length).drop x.cells.length)=xs:=by rw[uh,uh]
  have XS:VRels w S β cs ((xs.drop (flat pre).length).take x.cells.length):=by
   have m:VRels w S β x.cells ((xs.drop (flat pre).length).take x.cells.length):=v3.mono (λ_ h=>h) (λ_ _=>rfl) (λ_ _ h=>cM);rcases gh with rfl|rfl
   .exact m
   .exact akZ ak m
  have ay:(pre++x::post).length=pre.length+(post.length+1):=bb;rw[ay]at ag hm;refine⟨dJ,?_,g,bj,sp,_,_,_,lM,j8,aw,ag,?_,v1,XS,v4,dy,by rw[uE];exact hh,hm,hi,aP⟩
  .rw[<-XS.1,v3.1];exact hw
  .rw[uE];exact af
def Goes.mono{args:Array Value}{w:World}{R xQ:Ending->World->Prop}(h:Goes P f args w R)(ah:∀e w',R e w'->xQ e w'):Goes P f args w xQ:=by
 rcases h with⟨ag,h⟩|⟨ag,u,w',af,ao⟩
 .exact .inl ⟨ag,h.mono ah⟩
 .exact .inr ⟨ag,u,w',af,ah _ _ ao⟩
def fH.focus{p fk:List AV->List Row->a6 hf}(h:fH P f (cz p))
  (au:∀aA rows,fk aA rows=.no\/(∃t,fk aA rows=.bt false t)\/∃(c c':Bool)(v:AV)(Js:List (Option Row))(s:Sh)(e:TypeId)(pre:List AV)(x:AV)(post:List AV)(dm:Option (List AV))(rest:List Row)(cs:List AV),p aA rows=.bt c (.leaf (v,Js,.arr false s e (pre++x::post) dm::rest))/\fk aA rows=.bt c' (.leaf (v,Js,.cj false s e pre cs post::rest))/\(c'=true->c=true)/\(cs=x.cells\/cs=hj s x)):fH P f (cz fk)/\hA (cz fk):=by
 refine⟨λaj w S B β og aA rows args k r hh dy gK ar hF=>?_,kQ _⟩
 rcases au aA rows with e|⟨t,e⟩|⟨c,c',v,Js,s,e,pre,x,post,dm,rest,cs,aU,bc,aa,gh⟩
 .exact TC
 .exact TC
 .have qZ:(fk aA rows).run (λq=>k q.1 q.2.1 q.2.2)=some r:=hF;rw[bc]at qZ;obtain⟨iD,ai⟩:=bz qZ;have a7:=h (AV×List (Option Row)×List Row) w S B β og aA rows args (λv p n=>some (v,p,n)) (v,Js,.arr false s e (pre++x::post) dm::rest) hh dy gK ar (by show(p aA rows).run (λq=>some (q.1,q.2.1,q.2.2))=_;rw[aU,aa iD];rfl);refine Goes.mono a7 λe' w'⟨u,da,c1,cf,S',bD,dO,he,xr,cI⟩=>?_;simp only[ej,gU]at xr;obtain⟨rfl,rfl,rfl⟩:=xr;refine⟨u,_,_,_,S',bD,dO,he,ai,⟨cI.kept,cI.sub,cI.sin,cI.val,cI.c1,λj r aP=>?_,cI.inj,cI.lt,cI.one,cI.dF,cI.kH⟩⟩;cases j with
  |zero=>simp only[sY,ej]at aP;subst aP;exact(cI.cf 0 _ rfl).focus gh
  |succ j=>exact cI.cf (j+1) r (by simpa using aP)
def SumOK.Jt{F:Summ}(h:∀aA,∃xS,SumOK P f xS/\∀(aj:Type)(k:AV->Option aj)(r:aj),F aj aA k=some r->xS aj aA k=some r):SumOK P f F:=λaj w S aA args k r cu ar hF=>by obtain⟨xS,af,ao⟩:=h aA;exact af aj w S aA args k r cu ar (ao aj k r hF)
def fH.Jt{F:jD}(h:∀aA rows,∃xS,fH P f xS/\∀(aj:Type)(k:AV->List (Option Row)->List Row->Option aj)(r:aj),F aj aA rows k=some r->xS aj aA rows k=some r):fH P f F:=λaj w S B β og aA rows args k r hh dy gK ar hF=>by obtain⟨xS,af,ao⟩:=h aA rows;exact af aj w S B β og aA rows args k r hh dy gK ar (ao aj k r hF)
end Go.Ev
namespace Go.Proofs.YtijdnecnjenleaaGreatDoor
open Go.Ev Go.RowKit
open Tryz
def tL(n a b:Int):Bool:=decide (a<=n)&&decide (n<=b)
def XT{n a b:Int}(h:tL n a b=true):a<=n/\n<=b:=by simpa[tL]using h
def Ju(e:AV):Bool:=cb (.int .u8) e&&tL e.toInt 0 255
def Fq{f:Nat}(ag:hasBody prog f=true){p:List AV->a6 AV}
  (h:∀(aj:Type)(w:World)(S:Nat->Prop)(aA:List AV)(args:List Value)(k:AV->Option aj)(r:aj),UP w->(∀b,S b->b<w.heap.size)->VRels w S cq aA args->(p aA).run k=some r->
   ∃u v,k v=some r/\v.flat=true/\VRel w S cq v u/\Calls prog f args.toArray w (λe w'=>e=.returned u/\Below w.heap.size w w')):SumOK prog f (aK p)/\b5 (aK p):=by
 refine⟨λaj w S aA args k r cu ar ai=>?_,qD p⟩
 obtain⟨u,v,hp,aR,jN,aa⟩:=h aj w S aA args k r (cu.2 w (Kept.refl _ _)) cu.1 ar ai
 refine .inl ⟨ag,aa.mono λe w' aH=>?_⟩
 exact⟨u,v,λ_=>False,aH.1,hp,aH.2,λ_ h=>h.elim,λ_ h=>h.elim,Vg jN aR⟩
def ak0(w:World)(q:Nat):Below w.heap.size w (w.drewN q):=⟨rfl,rfl,rfl,dc _,λ_ _=>rfl⟩
def PI{es:List AV}(h:∀e∈es,cb (.int .u8) e=true):es=(es.map AV.toInt).map (AV.int .u8):=by
 rw[p4];conv=>lhs;rw[<-A' es]
 refine p5 λv ar=>?_;have:=h v ar;cases v<;>simp[cb,fE]at this;subst this;rfl
def PJ{w:World}{S:Nat->Prop}{l:List Int}{xs:List Value}(ar:VRels w S cq (l.map (AV.int .u8)) xs):xs=l.map (Value.int .u8):=by
 refine yE λj=>?_;rw[k0];cases aP:l[j]?with
 |none=>
  have:xs.length=l.length:=by rw[ar.1,g']
  exact TK
 |some n=>obtain⟨u,hu,aD⟩:=ar.at_ (j:=j) (c:=.int .u8 n) (by rw[k0,aP];rfl);rw[hu,aD.eT];rfl
def PK(l:List Int):Lib.bytesOf l=kF (l.map (AV.int .u8)):=by unfold Lib.bytesOf kF;rw[p4];rfl
def Jl:List AV->a6 AV
 |[.int .i64 n]=>.bt (tL n (-9223372036854775808) 9223372036854775807) (.leaf (.str (Lib.itoa n)))
 |_=>.no
def akC:SumOK prog 187 (aK Jl)/\b5 (aK Jl):=by
 refine Fq aG λaj w S aA args k r hF cu ar h=>?_;unfold Jl at h;split at h
 .rename_i n;obtain⟨aa,h⟩:=bz h;obtain⟨a7,tA⟩:=XT aa;obtain⟨v,vs,rfl,af,ar⟩:=ar.inv;obtain rfl:=ar.gf;rw[af.eT];refine⟨_,_,h,rfl,.str _ _,(Tryz.strconv_Itoa n a7 tA w hF.2).mono λe w' aH=>⟨aH.1,?_⟩⟩;obtain⟨q,os,aH⟩:=aH.2;rw[aH];exact Lib.below_grow w.heap.size w (dc _) q os
 .cases h
def Ac(n:Nat):Bool:=decide (n<4294967281)
def Jn:List AV->a6 AV
 |[.str s,.str p]=>.bt (Ac s.length) (.leaf (.int .i64 (Lib.index s p)))
 |_=>.no
def Xy:SumOK prog 158 (aK Jn)/\b5 (aK Jn):=by
 refine Fq aG λaj w S aA args k r hF cu ar h=>?_;unfold Jn at h;split at h
 .rename_i s p;obtain⟨aa,h⟩:=bz h;obtain⟨v,vs,rfl,af,ar⟩:=ar.inv;obtain⟨u,us,rfl,ao,ar⟩:=ar.inv;obtain rfl:=ar.gf;obtain⟨m,hm⟩:=hF.1;rw[af.hO,ao.hO];exact⟨_,_,h,rfl,.int _ _ _,(Tryz.stringslite_Index ⟨s.toArray⟩ ⟨p.toArray⟩ m w (by rw[size_mk];exact bH aa) hm).mono λe w' aH=>⟨by simpa using aH.1,aH.2▸Below.refl _ _⟩⟩
 .cases h
def Jm:List AV->a6 AV
 |[.ab (.int .u8) es,.ab (.int .u8) aC]=>.bt (decide (es.length<4294967281)&&(decide (2<=aC.length)&&(decide (aC.length<=9223372036854775807)&&(es.all Ju&&aC.all Ju)))) (.leaf (.int .i64 (Lib.index (kF es) (kF aC))))
 |[.bf _,.ab (.int .u8) aC]=>.bt (decide (2<=aC.length)&&decide (aC.length<=9223372036854775807)) (.leaf (.int .i64 (-1)))
 |_=>.no
def XU:∀(s p:List UInt8),s.length<p.length->Lib.index s p= -1
 |[],[],h=>absurd h (mK _)
 |[],_::_,_=>rfl
 |b::l,p,h=>by
  unfold Lib.index;have au:p.isPrefixOf (b::l)=false:=by
   cases hh:p.isPrefixOf (b::l)
   .rfl
   .have:=(List.isPrefixOf_iff_prefix.1 hh).length_le;omega
  rw[au,XU l p (by simp at h;omega)];rfl
def akA:SumOK prog 208 (aK Jm)/\b5 (aK Jm):=by
 refine Fq aG λaj w S aA args k r hF cu ar h=>?_;unfold Jm at h;split at h
 .rename_i es aC;obtain⟨aa,h⟩:=bz h;simp only[ba,fD]at aa;obtain⟨aJ,ao,hm,cI,ag⟩:=aa;obtain⟨v,vs,rfl,af,ar⟩:=ar.inv;obtain⟨u,us,rfl,a1,ar⟩:=ar.inv;obtain rfl:=ar.gf;cases af with
  |ab _ _ _ A c a xs an rR je bq kr kM ak aD=>
   cases a1 with
   |ab _ _ _ qt bX a2 cm nK XV ak1 Il tk zr oW pr=>
    by_cases aL:es.length<aC.length
    .refine⟨_,_,h,rfl,.int _ _ _,(Tryz.bytes_Index_longer A qt es.length c aC.length bX w ao aL hm).mono λe w' aH=>⟨?_,aH.2▸Below.refl _ _⟩⟩;rw[XU _ _ (by unfold kF;rw[g',g'];exact aL)];exact aH.1
    .obtain⟨ak2,_⟩:=bq (λe=>by rw[e]at aL;simp at aL;rw[aL]at ao;simp at ao);obtain⟨ak3,_⟩:=Il (λe=>by rw[e]at ao;simp at ao);have aU:=PI an;have bc:=PI nK;generalize es.map AV.toInt=l at aU;generalize aC.map AV.toInt=m at bc;subst aU bc;rw[Iw]at kr aD tk pr;obtain rfl:=PJ ⟨kr,aD⟩;obtain rfl:=PJ ⟨tk,pr⟩;have Bj:∀(l:List Int),(l.map (AV.int .u8)).all Ju=true->∀x∈l,0<=x/\x<256:=λl ay x ak=>by have:=ec.1 ay _ (List.mem_map_of_mem ak);unfold Ju at this;simp only[ba]at this;obtain⟨h4,q1⟩:=XT this.2;exact⟨h4,Int.lt_of_le_of_lt q1 gn⟩
     have pA:∀(l:List Int)(a:Addr),(∀(j:Nat)(u:Value),(l.map (Value.int .u8))[j]?=some u->w.cell? (a.add j)=some u)->∀i,i<l.length->w.cell? (a.add i)=some (.int .u8 (l.getD i 0)):=λl a ak i hi=>by refine ak i _ ?_;rw[k0,fC hi,List.getD,fC hi];rfl
     rw[ak2,ak3];simp only[g']at rR aJ hm XV⊢;obtain⟨mx,je⟩:=hF.1;refine⟨_,_,h,rfl,.int _ _ _,(Tryz.bytes_Index_at a a2 l.length c m.length bX l m mx w rfl rfl (Bj l cI) (Bj m ag) (pA l a ak) (pA m a2 oW) rR aJ hm je).mono λe w' aH=>⟨?_,?_⟩⟩
     .rw[aH.1,PK,PK]
     .obtain⟨q,aH⟩:=aH.2;rw[aH];exact ak0 w q
 .rename_i s aC;obtain⟨aa,h⟩:=bz h;simp only[ba,fD]at aa;obtain⟨v,vs,rfl,af,ar⟩:=ar.inv;obtain⟨u,us,rfl,a1,ar⟩:=ar.inv;obtain rfl:=ar.gf;cases af with
  |bf _ _ A=>
   cases a1 with
   |ab _ _ _ qt bX a2 cm nK XV ak1 Il tk zr oW pr=>exact⟨_,_,h,rfl,.int _ _ _,(Tryz.bytes_Index_longer A qt 0 0 aC.length bX w aa.1 al aa.2).mono λe w' aH=>⟨aH.1,aH.2▸Below.refl _ _⟩⟩
 .cases h
def Fp:List AV->a6 AV
 |[.ab (.int .u8) es,.int .u8 c]=>.leaf (.int .i64 (Lib.indexByte (kF es) c.toNat.toUInt8))
 |[.bf _,.int .u8 _]=>.leaf (.int .i64 (-1))
 |_=>.no
def XW{P:Program}(w:World)(a:Addr)(n c:Nat)(xs:List Int)(ak:xs.length=n)(aa:∀(j:Nat)(u:Value),(xs.map (Value.int .u8))[j]?=some u->w.cell? (a.add j)=some u)(tB:Int):
  (Extern.BytealgIndexByte.indexByte #[.slice (some a) n c,.int .u8 tB]).run P w=.ok (.int .i64 (Lib.indexByte (Lib.bytesOf xs) tB.toNat.toUInt8)) w:=by
 have ay:=Lib.run_loadBytesX (P:=P) w xs a .empty (λj x aP=>aa j _ (by rw[k0,aP];rfl))
 rw[ak]at ay
 have an:=Lib.run_indexByteString (P:=P) ⟨(Lib.bytesOf xs).toArray⟩ tB w
 have he:(⟨ByteArray.empty.data++(Lib.bytesOf xs).toArray⟩:ByteArray)=⟨(Lib.bytesOf xs).toArray⟩:=by apply ByteArray.ext;show(#[]:Array UInt8)++(Lib.bytesOf xs).toArray=(Lib.bytesOf xs).toArray;simp
 rw[he]at ay
 change Sem.run P (do
  let b<-Extern.Bytes.bytesOf (.slice (some a) n c)
  let c<-Extern.Bytes.asByte (.int .u8 tB)
  match(List.range b.size).find? λi=>b[i]! ==c with
  |some i=>pure (goInt i)
  |none=>pure (goInt (-1))) w=_
 change Sem.run P (do
  let b<-Extern.Bytes.bytesOf (.string ⟨(Lib.bytesOf xs).toArray⟩)
  let c<-Extern.Bytes.asByte (.int .u8 tB)
  match(List.range b.size).find? λi=>b[i]! ==c with
  |some i=>pure (goInt i)
  |none=>pure (goInt (-1))) w=_ at an
 simp only[Extern.Bytes.bytesOf,iL,lW,ay,Result.andThen]at an⊢
 exact an
def XX{P:Program}(w:World)(A:Option Addr)(c:Nat)(tB:Int):(Extern.BytealgIndexByte.indexByte #[.slice A 0 c,.int .u8 tB]).run P w=.ok (.int .i64 (-1)) w:=by
 cases A with
 |none=>exact Lib.run_indexByteNil _ _ _ tB
 |some a=>exact XW w a 0 c [] rfl (λj u h=>k1) tB
def akB:SumOK prog 254 (aK Fp)/\b5 (aK Fp):=by
 have dW:=Tryz.func254;have ag:Tryz.f254.body.isNone=true:=aG;refine⟨λaj w S aA args k r cu ar h=>?_,qD _⟩;change(Fp aA).run k=some r at h;have fin:∀(x z:Value)(n:Int),args=[x,z]->k (.int .i64 n)=some r->(Extern.BytealgIndexByte.indexByte #[x,z]).run prog w=.ok (.int .i64 n) w->Goes prog 254 args.toArray w λe w'=>∃u v S',e=.returned u/\k v=some r/\Below w.heap.size w w'/\(∀b,S' b->S b\/w.heap.size<=b)/\(∀b,S' b->b<w'.heap.size)/\VRel w' S' cq v u:=λx z n cI ai bu=>by rw[cI];refine .inr ⟨WQ dW ag,.int .i64 n,w,?_,⟨_,_,λ_=>False,rfl,ai,Below.refl _ _,λ_ h=>h.elim,λ_ h=>h.elim,.int _ _ _⟩⟩;rw[run_callFunc_extern dW aG ag aG (by kernel_rfl:Extern.find Tryz.f254=some Extern.BytealgIndexByte.indexByte)];show((Extern.BytealgIndexByte.indexByte #[x,z]).run prog w).andThen _=_;rw[bu];rfl
 unfold Fp at h;split at h
 .rename_i es c;obtain⟨v,vs,rfl,af,ar⟩:=ar.inv;obtain⟨u,us,rfl,ao,ar⟩:=ar.inv;obtain rfl:=ar.gf;obtain rfl:=ao.eT;have ai:k (.int .i64 (Lib.indexByte (kF es) c.toNat.toUInt8))=some r:=h;cases af with
  |ab _ _ _ A vP a xs an rR je bq kr kM ak aD=>
   refine fin _ _ _ rfl ai ?_;clear fin ai h;have aU:=PI an;generalize es.map AV.toInt=l at aU;subst aU;rw[Iw]at kr aD;obtain rfl:=PJ ⟨kr,aD⟩;rw[g',<-PK];by_cases a7:l=[]
   .subst a7;exact XX w A vP c
   .rw[(bq Hd).1];exact XW w a l.length vP l rfl ak c
 .rename_i s c;obtain⟨v,vs,rfl,af,ar⟩:=ar.inv;obtain⟨u,us,rfl,ao,ar⟩:=ar.inv;obtain rfl:=ar.gf;obtain rfl:=ao.eT;have ai:k (.int .i64 (-1))=some r:=h;cases af with
  |bf _ _ A=>exact fin _ _ _ rfl ai (XX w A 0 c)
 .cases h
def ak4{w:World}{a:Addr}{v:Value}(h:w.cell? a=some v):a.spot=none:=by
 unfold World.cell? at h;split at h
 .split at h
  .cases h
  .rename_i an;simpa using an
 .cases h
theorem Addr.eta{a:Addr}(h:a.spot=none):a=⟨a.block,a.off,none⟩:=by cases a;simp_all
def ak5{es:List AV}(h:∀e∈es,cb .str e=true):∃l:List (List UInt8),es=l.map AV.str:=by
 refine⟨es.map AV.toStr,?_⟩;rw[p4]
 symm
 conv=>rhs;rw[<-A' es]
 refine p5 λv ar=>?_;have:=h v ar;cases v<;>simp[cb,fE]at this;rfl
def XY:∀l:List (List UInt8),flat (l.map AV.str)=l.map AV.str
 |[]=>rfl
 |s::l=>by show AV.cells (AV.str s)++flat (l.map AV.str)=_;rw[XY l];rfl
def Jv(es:List AV):List (List UInt8):=es.map AV.toStr
def ak6(l:List (List UInt8)):Jv (l.map AV.str)=l:=by unfold Jv;rw[p4];exact A' _
def ak7{w:World}{S:Nat->Prop}{l:List (List UInt8)}{xs:List Value}(ar:VRels w S cq (l.map AV.str) xs):xs=l.map λs=>Value.string ⟨s.toArray⟩:=by
 refine yE λj=>?_;rw[k0];cases aP:l[j]?with
 |none=>
  have:xs.length=l.length:=by rw[ar.1,g']
  exact TK
 |some n=>obtain⟨u,hu,aD⟩:=ar.at_ (j:=j) (c:=.str n) (by rw[k0,aP];rfl);rw[hu,aD.hO];rfl
def Jo:List AV->a6 AV
 |[.ab .str es,.str sep]=>.bt (decide (es.length<=140737488355328)&&decide ((Lib.join (Jv es) sep).length<=140737488355328)) (.leaf (.str (Lib.join (Jv es) sep)))
 |[.bf _,.str _]=>.leaf (.str [])
 |_=>.no
def akz:SumOK prog 312 (aK Jo)/\b5 (aK Jo):=by
 refine Fq aG λaj w S aA args k r hF cu ar h=>?_;unfold Jo at h;split at h
 .rename_i es sep;obtain⟨aa,h⟩:=bz h;simp only[ba,fD]at aa;obtain⟨v,vs,rfl,af,ar⟩:=ar.inv;obtain⟨u,us,rfl,ao,ar⟩:=ar.inv;obtain rfl:=ar.gf;rw[ao.hO];cases af with
  |ab _ _ _ A c a xs an rR je bq kr kM ak aD=>
   obtain⟨l,rfl⟩:=ak5 an;rw[ak6]at aa h;rw[XY]at kr aD;obtain rfl:=ak7 ⟨kr,aD⟩;simp only[g']at aa rR⊢;by_cases a7:l=[]
   .subst a7;exact⟨_,_,h,rfl,.str _ _,(Tryz.strings_Join_none A c ⟨sep.toArray⟩ w).mono λe w' aH=>⟨aH.1,aH.2▸Below.refl _ _⟩⟩
   .obtain⟨rfl,Cy⟩:=bq Hd;have gA:a.spot=none:=by
      cases l with
      |nil=>exact absurd rfl a7
      |cons s l=>have:=ak 0 _ rfl;rw[show a.add 0=a from by simp[Addr.add]]at this;exact ak4 this
    rw[Addr.eta gA]at ak⊢;have hid:l.map ((λx:ByteArray=>x.data.toList)∘λs=>⟨s.toArray⟩)=l:=by
     conv=>rhs;rw[<-A' l]
     exact p5 λs _=>bb
    have XZ:=Tryz.strings_Join a.block a.off c (l.map λs=>⟨s.toArray⟩) ⟨sep.toArray⟩ w (λj x aP=>?_) (cu _ Cy) (by rw[g'];exact aa.1) (by rw[g'];exact rR) (by rw[p4,hid];exact aa.2)
    .rw[p4,g']at XZ;refine⟨_,_,h,rfl,.str _ _,XZ.mono λe w' aH=>⟨?_,aH.2⟩⟩;rw[hid]at aH;exact aH.1
    .rw[k0]at aP;cases xo:l[j]?with
     |none=>rw[xo]at aP;cases aP
     |some s=>rw[xo]at aP;simp only[jm,ej]at aP;subst aP;have:=ak j (.string ⟨s.toArray⟩) (by rw[k0,xo];rfl);rwa[hd]at this
 .rename_i s sep;obtain⟨v,vs,rfl,af,ar⟩:=ar.inv;obtain⟨u,us,rfl,ao,ar⟩:=ar.inv;obtain rfl:=ar.gf;rw[ao.hO];cases af with
  |bf _ _ A=>exact⟨_,_,h,rfl,.str _ _,(Tryz.strings_Join_none A 0 ⟨sep.toArray⟩ w).mono λe w' aH=>⟨aH.1,aH.2▸Below.refl _ _⟩⟩
 .cases h
def Xz:SumOK prog 159 xX/\b5 xX:=akX Tryz.func159 aG aG aG aG
open Go.Ev
def ee(n:Nat):Bool:=decide (n<=150000000000000)
noncomputable def mC:Env:={pure:=[]}
def bV:aM prog mC:=aM.empty
def wj(n:Int):Bool:=tL n 97 122||(tL n 65 90||tL n 48 57)
def PL:List AV->a6 AV
 |[.int .u8 n]=>.leaf (.bool (wj n))
 |_=>.no
theorem X0:SumOK prog 82 (aK PL)/\b5 (aK PL):=by
 refine eJ bV Tryz.func82 aG λaj aA k r h=>?_;unfold PL at h;split at h
 .rename_i n;have ai:=h;refine bn (b:=have az:=bif decide (n>=(48:Int))then k (.bool (decide (n<=(57:Int))))else k (.bool false);have av:=bif decide (n>=(65:Int))then bif decide (n<=(90:Int))then k (.bool true)else az else az;bif decide (n>=(97:Int))then bif decide (n<=(122:Int))then k (.bool true)else av else av) ?_;conv=>zeta
  rw[<-ai];show _=k (.bool ((decide (97<=n)&&decide (n<=122))||((decide (65<=n)&&decide (n<=90))||(decide (48<=n)&&decide (n<=57)))));grind
 .cases h
def sB(n:Int):Bool:=tL n 97 122||(tL n 48 57||(n==45||n==46))
def Jw:List AV->a6 AV
 |[.int .u8 n]=>.leaf (.bool (sB n))
 |_=>.no
theorem ak8:SumOK prog 126 (aK Jw)/\b5 (aK Jw):=by
 refine eJ bV Tryz.func126 aG λaj aA k r h=>?_;unfold Jw at h;split at h
 .rename_i n;have ai:=h;refine bn (b:=have az:=bif n==45 then k (.bool true)else k (.bool (n==46));have av:=bif decide (n>=(48:Int))then bif decide (n<=(57:Int))then k (.bool true)else az else az;bif decide (n>=(97:Int))then bif decide (n<=(122:Int))then k (.bool true)else av else av) ?_;conv=>zeta
  rw[<-ai];show _=k (.bool ((decide (97<=n)&&decide (n<=122))||((decide (48<=n)&&decide (n<=57))||(n==45||n==46))));grind
 .cases h
def Jx:List AV->a6 AV
 |[.str s,.int .u8 c]=>.leaf (.int .i64 (jJ s c))
 |_=>.no
def X1:SumOK prog 125 (aK Jx)/\b5 (aK Jx):=by
 refine eJ (aM.br bV Xz) Tryz.func125 aG λaj aA k r h=>?_;unfold Jx at h;split at h
 .rename_i s c;have ai:=h;refine bn (b:=k (.I (jJ s c))) ?_;exact ai
 .cases h
def PM:List AV->a6 AV
 |[.str s,.int .u8 c]=>.leaf (.int .i64 (jJ s c))
 |_=>.no
def ak9:SumOK prog 83 (aK PM)/\b5 (aK PM):=by
 refine eJ (aM.br bV X1) Tryz.func83 aG λaj aA k r h=>?_;unfold PM at h;split at h
 .rename_i s c;have ai:=h;refine bn (b:=k (.I (jJ s c))) ?_;exact ai
 .cases h
def sC(n:Int):Bool:=wj n||decide (jJ [45,95,46,43,61] n>=0)
def Jy:List AV->a6 AV
 |[.int .u8 n]=>.leaf (.bool (sC n))
 |_=>.no
def ala:SumOK prog 81 (aK Jy)/\b5 (aK Jy):=by
 refine eJ (aM.br (aM.br bV ak9) X0) Tryz.func81 aG λaj aA k r h=>?_;unfold Jy at h;split at h
 .rename_i n;have ai:=h;refine bn (b:=bif wj n then k (.bool true)else k (.bool (decide (jJ ([45,95,46,43,61]:List UInt8) n>=(0:Int))))) ?_;rw[<-ai];show _=k (.bool (wj n||decide (jJ [45,95,46,43,61] n>=0)));cases wj n<;>rfl
 .cases h
def b8(s:List UInt8)(i:Nat):Int:=((s.getD i 0).toNat:Nat)
def jU(p:Int->Bool)(s:List UInt8):Bool:= !(bx (λi=> !p (b8 s i)) s.length 0).isSome
noncomputable def Cz:Code:=((Tryz.f84.body.map c7).getD []).headD .skip
def PN(vs:List AV)(_:List (Option Row)):Nat:=match vs with
 |[_,_,_,.int _ n,.int _ i]=>(n-i).toNat
 |_=>0
noncomputable def X2:Env:={pure:=[(81,aK Jy)]}
def X3:aM prog X2:=aM.br bV ala
def X4:List AV->List (Option Row)->a6 cy
 |[.str s,.fn 81 [],.bool b,.int .i64 n,.int .i64 i],[]=>.bt (bl n i s.length) (h8 (λi=> !sC (b8 s i)) s.length (λq=>.leaf (.ret,[.str s,.fn 81 [],.bool false,.int .i64 n,.int .i64 (q:Nat)],[])) (.leaf (.exit 0,[.str s,.fn 81 [],.bool b,.int .i64 n,.int .i64 s.length],[])) i.toNat)
 |_,_=>.no
def Jz:Ev.Loop:=⟨{len:=18,dr:=[0,1,4,7,8]},dP X4⟩
def alb:dj prog X2 [(2,Jz)] Cz Jz:=by
 refine ed X3.dX rfl (ch.nil aG) PN (λaj vs rs k r h=>?_);unfold X4 at h;split at h
 .rename_i s b n i;obtain⟨aa,ai⟩:=bz h;obtain⟨rfl,an,j,rfl,aP⟩:=eA aa;rw[bK]at ai;refine bn (b:=have av:=(s.length:Int);have aF:=(j:Int);have az:=(IntKind.i64.wrap (aF+(1:Int)));bif decide (aF<av)then bif inb aF s.length then bif !sC ((s.getD j (0:UInt8)).toNat:Int)then k .ret [.str s,.fn 81 [],.bool false,.I av,.I aF] []else bif decide ((av-IntKind.i64.wrap (aF+(1:Int))).toNat<(av-aF).toNat)then bif bl av az s.length then bif(bx (λi=> !sC (b8 s i)) s.length az.toNat).isSome then k .ret [.str s,.fn 81 [],.bool false,.I av,.I (((bx (λi=> !sC (b8 s i)) s.length az.toNat).getD 0):Int)] []else k (.exit 0) [.str s,.fn 81 [],.bool b,.I av,.I av] []else none else none else none else k (.exit 0) [.str s,.fn 81 [],.bool b,.I av,.I aF] []) ?_;conv=>zeta
  rw[<-ai];by_cases aL:j<s.length
  .exact Hn
  .obtain rfl:j=s.length:=al;exact jo
 .cases h
def PO:List AV->a6 AV
 |[.str s,.fn 81 []]=>.bt (small s.length) (.leaf (.bool (jU sC s)))
 |_=>.no
theorem alc:SumOK prog 84 (aK PO)/\b5 (aK PO):=by
 refine iH (K:=[(2,Jz)]) (b:=Cz) (l:=Jz) X3 Tryz.func84 aG aG alb λaj aA k r h=>?_;unfold PO at h;split at h
 .rename_i s;obtain⟨aa,ai⟩:=bz h;refine bn (b:=bif bl (s.length:Int) (0:Int) s.length then bif(bx (λi=> !sC (b8 s i)) s.length 0).isSome then k (.bool false)else k (.bool true)else none) ?_;rw[<-ai,e1 aa];show _=k (.bool (jU sC s));grind[jU,bx,b8]
 .cases h
noncomputable def X5:Env:={pure:=[(126,aK Jw)]}
def X6:aM prog X5:=aM.br bV ak8
def X7:List AV->List (Option Row)->a6 cy
 |[.str s,.fn 126 [],.bool b,.int .i64 n,.int .i64 i],[]=>.bt (bl n i s.length) (h8 (λi=> !sB (b8 s i)) s.length (λq=>.leaf (.ret,[.str s,.fn 126 [],.bool false,.int .i64 n,.int .i64 (q:Nat)],[])) (.leaf (.exit 0,[.str s,.fn 126 [],.bool b,.int .i64 n,.int .i64 s.length],[])) i.toNat)
 |_,_=>.no
def JA:Ev.Loop:=⟨{len:=18,dr:=[0,1,4,7,8]},dP X7⟩
def ald:dj prog X5 [(2,JA)] Cz JA:=by
 refine ed X6.dX rfl (ch.nil aG) PN (λaj vs rs k r h=>?_);unfold X7 at h;split at h
 .rename_i s b n i;obtain⟨aa,ai⟩:=bz h;obtain⟨rfl,an,j,rfl,aP⟩:=eA aa;rw[bK]at ai;refine bn (b:=have av:=(s.length:Int);have aF:=(j:Int);have az:=(IntKind.i64.wrap (aF+(1:Int)));bif decide (aF<av)then bif inb aF s.length then bif !sB ((s.getD j (0:UInt8)).toNat:Int)then k .ret [.str s,.fn 126 [],.bool false,.I av,.I aF] []else bif decide ((av-IntKind.i64.wrap (aF+(1:Int))).toNat<(av-aF).toNat)then bif bl av az s.length then bif(bx (λi=> !sB (b8 s i)) s.length az.toNat).isSome then k .ret [.str s,.fn 126 [],.bool false,.I av,.I (((bx (λi=> !sB (b8 s i)) s.length az.toNat).getD 0):Int)] []else k (.exit 0) [.str s,.fn 126 [],.bool b,.I av,.I av] []else none else none else none else k (.exit 0) [.str s,.fn 126 [],.bool b,.I av,.I aF] []) ?_;conv=>zeta
  rw[<-ai];by_cases aL:j<s.length
  .exact Hn
  .obtain rfl:j=s.length:=al;exact jo
 .cases h
def PQ:List AV->a6 AV
 |[.str s,.fn 126 []]=>.bt (small s.length) (.leaf (.bool (jU sB s)))
 |_=>.no
theorem X8:SumOK prog 84 (aK PQ)/\b5 (aK PQ):=by
 refine iH (K:=[(2,JA)]) (b:=Cz) (l:=JA) X6 Tryz.func84 aG aG ald λaj aA k r h=>?_;unfold PQ at h;split at h
 .rename_i s;obtain⟨aa,ai⟩:=bz h;refine bn (b:=bif bl (s.length:Int) (0:Int) s.length then bif(bx (λi=> !sB (b8 s i)) s.length 0).isSome then k (.bool false)else k (.bool true)else none) ?_;rw[<-ai,e1 aa];show _=k (.bool (jU sB s));grind[jU,bx,b8]
 .cases h
def PR:List AV->a6 AV
 |[.str s,.str p]=>.bt (Ac s.length) (.leaf (.int .i64 (Lib.index s p)))
 |_=>.no
def ale:SumOK prog 162 (aK PR)/\b5 (aK PR):=by
 refine eJ (aM.br (aM.br bV X8) Xy) Tryz.func162 aG λaj aA k r h=>?_;unfold PR at h;split at h
 .rename_i s p;obtain⟨aa,ai⟩:=bz h;refine bn (b:=bif Ac s.length then k (.I (Lib.index s p))else none) ?_;rw[<-ai,aa];rfl
 .cases h
def JB(s p:List UInt8):Bool:=decide (Lib.index s p>=0)
def PS:List AV->a6 AV
 |[.str s,.str p]=>.bt (Ac s.length) (.leaf (.bool (JB s p)))
 |_=>.no
def alf:SumOK prog 129 (aK PS)/\b5 (aK PS):=by
 refine eJ (aM.br bV ale) Tryz.func129 aG λaj aA k r h=>?_;unfold PS at h;split at h
 .rename_i s p;obtain⟨aa,ai⟩:=bz h;refine bn (b:=bif Ac s.length then k (.bool (decide (Lib.index s p>=(0:Int))))else none) ?_;rw[<-ai,aa];rfl
 .cases h
def wk(s p:List UInt8):Bool:=decide ((s.length:Int)>=(p.length:Int))&&(s.take p.length==p)
def Ad(s p:List UInt8):Bool:=decide ((s.length:Int)>=(p.length:Int))&&(s.drop (s.length-p.length)==p)
def JC:List AV->a6 AV
 |[.str s,.str p]=>.bt (small s.length) (.leaf (.bool (wk s p)))
 |_=>.no
def alg:SumOK prog 160 (aK JC)/\b5 (aK JC):=by
 refine eJ bV Tryz.func160 aG λaj aA k r h=>?_;unfold JC at h;split at h
 .rename_i s p;obtain⟨aa,ai⟩:=bz h;refine bn (b:=bif decide ((s.length:Int)>=(p.length:Int))then bif slb (0:Int) (p.length:Int) s.length then k (.bool (List.take ((p.length:Int).toNat-Int.toNat (0:Int)) (List.drop 0 s)==p))else none else k (.bool false)) ?_;rw[<-ai];show _=k (.bool (decide ((s.length:Int)>=(p.length:Int))&&(s.take p.length==p)));by_cases hle:p.length<=s.length
  .rw[aS al,b4,mB al al al,b4,bK];rfl
  .exact Hy
 .cases h
def JD:List AV->a6 AV
 |[.str s,.str p]=>.bt (small s.length) (.leaf (.bool (Ad s p)))
 |_=>.no
theorem alh:SumOK prog 161 (aK JD)/\b5 (aK JD):=by
 refine eJ bV Tryz.func161 aG λaj aA k r h=>?_;unfold JD at h;split at h
 .rename_i s p;obtain⟨aa,ai⟩:=bz h;refine bn (b:=have az:=(s.length:Int);have av:=(IntKind.i64.wrap (az-(p.length:Int)));bif decide (az>=(p.length:Int))then bif slb av az s.length then k (.bool (List.take (az.toNat-av.toNat) (List.drop av.toNat s)==p))else none else k (.bool false)) ?_;conv=>zeta
  rw[<-ai];show _=k (.bool (decide ((s.length:Int)>=(p.length:Int))&&(s.drop (s.length-p.length)==p)));have an:=bH aa;by_cases hle:p.length<=s.length
  .have hw:IntKind.i64.wrap ((s.length:Int)-(p.length:Int))=((s.length-p.length:Nat):Int):=by rw[mL _ al al];omega
   simp_all[aS,b4,mB,bK,nn,mJ]
  .exact Hy
 .cases h
noncomputable def ali:Env:={pure:=[(160,aK JC),(161,aK JD)]}
def X9:aM prog ali:=aM.br (aM.br bV alh) alg
def PT:List AV->a6 AV
 |[.str s,.str p]=>.bt (small s.length) (.leaf (.bool (wk s p)))
 |_=>.no
def alj:SumOK prog 127 (aK PT)/\b5 (aK PT):=by
 refine eJ X9 Tryz.func127 aG λaj aA k r h=>?_;unfold PT at h;split at h
 .rename_i s p;obtain⟨aa,ai⟩:=bz h;refine bn (b:=bif small s.length then k (.bool (wk s p))else none) ?_;rw[<-ai,aa];rfl
 .cases h
def PU:List AV->a6 AV
 |[.str s,.str p]=>.bt (small s.length) (.leaf (.bool (Ad s p)))
 |_=>.no
def alk:SumOK prog 128 (aK PU)/\b5 (aK PU):=by
 refine eJ X9 Tryz.func128 aG λaj aA k r h=>?_;unfold PU at h;split at h
 .rename_i s p;obtain⟨aa,ai⟩:=bz h;refine bn (b:=bif small s.length then k (.bool (Ad s p))else none) ?_;rw[<-ai,aa];rfl
 .cases h
def JE(s:List UInt8):Bool:= !(s==[])&&(decide ((s.length:Int)<=60)&&(jU sB s&&(!wk s [46]&&(!Ad s [46]&& !JB s [46,46]))))
def PV:List AV->a6 AV
 |[.str s]=>.bt (small s.length) (.leaf (.bool (JE s)))
 |_=>.no
theorem alm:SumOK prog 85 (aK PV)/\b5 (aK PV):=by
 refine eJ (aM.br (aM.br (aM.br (aM.br bV alf) alk) alj) X8) Tryz.func85 aG λaj aA k r h=>?_;unfold PV at h;split at h
 .rename_i s;obtain⟨aa,ai⟩:=bz h;refine bn (b:=have av:=(AV.bool false);have az:=small s.length;have aF:=([46]:List UInt8);bif !s==([]:List UInt8)then bif decide ((s.length:Int)<=(60:Int))then bif az then bif jU sB s then bif az then bif !wk s aF then bif az then bif !Ad s aF then bif Ac s.length then k (.bool !JB s ([46,46]:List UInt8))else none else k av else none else k av else none else k av else none else k av else k av) ?_;conv=>zeta
  rw[<-ai,aa];show _=k (.bool (!(s==[])&&(decide ((s.length:Int)<=60)&&(jU sB s&&(!wk s [46]&&(!Ad s [46]&& !JB s [46,46]))))));by_cases Ae:(s.length:Int)<=60
  .grind[Ac,decide_eq_true,decide,jU,sB,wk,Ad]
  .rw[cZ Ae];cases s==[]<;>rfl
 .cases h
def CA(s:List UInt8):Nat:=(jJ s 64).toNat
def uT(s:List UInt8):Bool:=decide (jJ s 64>=0)
def kR(s:List UInt8):List UInt8:=bif uT s then s.take (CA s)else s
def cC(s:List UInt8):List UInt8:=bif uT s then s.drop (CA s+1)else[]
def aln(s:List UInt8)(c:Int):jJ s c<s.length\/jJ s c= -1:=by
 unfold jJ;rcases Int.lt_or_le (Lib.indexByte s c.toNat.toUInt8) 0 with h|h
 .have:=Lib.indexByte_ge s c.toNat.toUInt8;exact .inr al
 .obtain⟨n,aJ⟩:∃n:Nat,Lib.indexByte s c.toNat.toUInt8=n:=⟨_,(L3 h).symm⟩;have:=(Lib.indexByte_some aJ).1;obtain⟨aL,_⟩:=oN.1 this;exact .inl al
theorem alo(s:List UInt8):(kR s).length<=s.length/\(cC s).length<=s.length:=by unfold kR cC;grind
noncomputable def X':Env:={pure:=[(125,aK Jx)]}
def Ya:aM prog X':=aM.br bV X1
noncomputable def Yb:Code:=((Tryz.f158.body.map c7).getD []).headD .skip
def JF:Ev.Loop:=⟨{len:=143,dr:=[]},dP λ_ _=>.no⟩
def alp:dj prog X' [(15,JF)] Yb JF:=by refine WN Ya.dX rfl (ch.nil aG) (λ_ _=>0) (λaj vs rs k r h=>?_) (λ_ vs rs k=>rfl);cases h
def PW:List AV->a6 AV
 |[.str s,.str [64]]=>.bt (small s.length) (.leaf (.int .i64 (jJ s 64)))
 |_=>.no
def alq:SumOK prog 158 (aK PW)/\b5 (aK PW):=by
 refine iH (K:=[(15,JF)]) (b:=Yb) (l:=JF) Ya Tryz.func158 aG aG alp λaj aA k r h=>?_;unfold PW at h;split at h
 .rename_i s;obtain⟨aa,ai⟩:=bz h;refine bn (b:=bif[(64:UInt8)]==s then k (.I 0)else k (.I (jJ s (([(64:UInt8)].getD 0 (0:UInt8)).toNat:Int)))) ?_;rw[<-ai];cases ag:([64]:List UInt8)==s with
  |true=>obtain rfl:=ic ag;rfl
  |false=>rfl
 .cases h
def PX:List AV->a6 AV
 |[.str s,.str [64]]=>.bt (ee s.length) (.leaf (.tup [.str (kR s),.str (cC s),.bool (uT s)]))
 |_=>.no
theorem alr:SumOK prog 124 (aK PX)/\b5 (aK PX):=by
 refine eJ (aM.br bV alq) Tryz.func124 aG λaj aA k r h=>?_;unfold PX at h;split at h
 .rename_i s;obtain⟨aa,ai⟩:=bz h;have ay:=bH aa;have aU:small s.length=true:=aS al;refine bn (b:=have av:=(IntKind.i64.wrap (jJ s (64:Int)+([(64:UInt8)].length:Int)));bif small s.length then bif decide (jJ s (64:Int)>=(0:Int))then bif slb (0:Int) (jJ s (64:Int)) s.length then bif slb av (s.length:Int) s.length then k (.tup [.str (List.take ((jJ s (64:Int)).toNat-Int.toNat (0:Int)) (List.drop 0 s)),.str (List.take ((s.length:Int).toNat-av.toNat) (List.drop av.toNat s)),.bool true])else none else none else k (.tup [.str s,.str [],.bool false])else none) ?_;conv=>zeta
  rw[<-ai,aU];show _=k (.tup [.str (bif decide (jJ s 64>=0)then s.take (CA s)else s),.str (bif decide (jJ s 64>=0)then s.drop (CA s+1)else[]),.bool (decide (jJ s 64>=0))]);by_cases h:jJ s 64>=0
  .have aL:jJ s 64<s.length:=by rcases aln s 64 with h'|h'<;>omega
   obtain⟨n,aJ⟩:∃n:Nat,jJ s 64=n:=⟨_,(L3 h).symm⟩;rw[aS h];unfold CA;rw[aJ]at aL⊢;have bc:slb 0 (n:Int) s.length=true:=mB al al al;have bw:IntKind.i64.wrap ((n:Int)+(([64]:List UInt8).length:Nat))=((n+1:Nat):Int):=by rw[qR,mL _ al al];omega
   have bQ:slb ((n+1:Nat):Int) (s.length:Int) s.length=true:=mB al al al;simp_all[List.take,nn,mJ,b4,bK]
  .rw[cZ h];rfl
 .cases h
def PY:List AV->a6 AV
 |[.str s,.str [64]]=>.bt (ee s.length) (.leaf (.tup [.str (kR s),.str (cC s),.bool (uT s)]))
 |_=>.no
def als:SumOK prog 80 (aK PY)/\b5 (aK PY):=by
 refine eJ (aM.br bV alr) Tryz.func80 aG λaj aA k r h=>?_;unfold PY at h;split at h
 .rename_i s;obtain⟨aa,ai⟩:=bz h;refine bn (b:=bif ee s.length then k (.tup [.str (kR s),.str (cC s),.bool (uT s)])else none) ?_;rw[<-ai,aa];rfl
 .cases h
def sD(s:List UInt8):Bool:=uT s&&(!(kR s==[])&&(decide (((kR s).length:Int)<=60)&&(jU sC (kR s)&&JE (cC s))))
def JG:List AV->a6 AV
 |[.str s]=>.bt (ee s.length) (.leaf (.tup [.str (kR s),.str (cC s),.bool (sD s)]))
 |_=>.no
def PZ:SumOK prog 49 (aK JG)/\b5 (aK JG):=by
 refine eJ (aM.br (aM.br (aM.br bV alm) alc) als) Tryz.func49 aG λaj aA k r h=>?_;unfold JG at h;split at h
 .rename_i s;obtain⟨aa,ai⟩:=bz h;have ay:=bH aa;obtain⟨af,ao⟩:=alo s;refine bn (b:=have av:=(AV.tup [.str (kR s),.str (cC s),.bool false]);bif ee s.length then bif uT s then bif !kR s==([]:List UInt8)then bif decide (((kR s).length:Int)<=(60:Int))then bif small (kR s).length then bif jU sC (kR s)then bif small (cC s).length then k (.tup [.str (kR s),.str (cC s),.bool (JE (cC s))])else none else k av else none else k av else k av else k av else none) ?_;conv=>zeta
  rw[<-ai,aa];have aU:small (kR s).length=true:=aS al;have bc:small (cC s).length=true:=aS al;rw[aU,bc];show _=k (.tup [.str (kR s),.str (cC s),.bool (uT s&&(!(kR s==[])&&(decide (((kR s).length:Int)<=60)&&(jU sC (kR s)&&JE (cC s)))))]);cases uT s<;>cases kR s==[]<;>cases decide (((kR s).length:Int)<=60)<;>cases jU sC (kR s)<;>rfl
 .cases h
def Fs:List AV->a6 AV
 |[.str s]=>.bt (ee s.length) (.leaf (.bool (sD s)))
 |_=>.no
def P0:SumOK prog 53 (aK Fs)/\b5 (aK Fs):=by
 refine eJ (aM.br bV PZ) Tryz.func53 aG λaj aA k r h=>?_;unfold Fs at h;split at h
 .rename_i s;obtain⟨aa,ai⟩:=bz h;refine bn (b:=bif ee s.length then k (.bool (sD s))else none) ?_;rw[<-ai,aa];rfl
 .cases h
def Ft(n:Int):Bool:=tL n 0 7
def Fu:List AV->a6 AV
 |[.int .i64 n]=>.leaf (.bool (Ft n))
 |_=>.no
def Yc:SumOK prog 58 (aK Fu)/\b5 (aK Fu):=by
 refine eJ bV Tryz.func58 aG λaj aA k r h=>?_;unfold Fu at h;split at h
 .rename_i n;have ai:=h;refine bn (b:=bif decide (n>=(0:Int))then k (.bool (decide (n<=(7:Int))))else k (.bool false)) ?_;rw[<-ai];show _=k (.bool (decide (0<=n)&&decide (n<=7)));cases decide (n>=0)<;>rfl
 .cases h
def rv:List AV->a6 AV
 |[.agg [.int .i64 c,.int .i64 _p]]=>.leaf (.bool (c !=0))
 |_=>.no
def uU:SumOK prog 27 (aK rv)/\b5 (aK rv):=by
 refine eJ bV Tryz.func27 aG λaj aA k r h=>?_;unfold rv at h;split at h
 .rename_i c p;have ai:=h;exact aT aG ai
 .cases h
def pQ:List AV->a6 AV
 |[.int .i64 c,.int .i64 p]=>.leaf (.agg [.int .i64 c,.int .i64 p])
 |_=>.no
def ry:SumOK prog 29 (aK pQ)/\b5 (aK pQ):=by
 refine eJ bV Tryz.func29 aG λaj aA k r h=>?_;unfold pQ at h;split at h
 .rename_i c p;have ai:=h;exact aT aG ai
 .cases h
def o9:List AV->a6 AV
 |[]=>.leaf (.agg [.int .i64 0,.int .i64 0])
 |_=>.no
def rz:SumOK prog 39 (aK o9)/\b5 (aK o9):=by
 refine eJ bV Tryz.func39 aG λaj aA k r h=>?_;unfold o9 at h;split at h
 .have ai:=h;exact aT aG ai
 .cases h
end Go.Proofs.YtijdnecnjenleaaGreatDoor
namespace Go.Proofs
open Go.Shelf
def Tryz.alu:Go.Shelf.Ren:=⟨λ|119=>270|n=>n,λ|21=>21|4=>4|n=>n,λ|n=>n⟩
def Tryz.alv:Go.Proofs.Lays.n119 Tryz.prog Tryz.alu:={
 mixed:=by kernel_rfl
 f119:=Tryz.func270.trans (dh some (by kernel_rfl))
 t4:=Tryz.underlying4
 a4:=Tryz.isAgg4
 z4:=Tryz.sizeOf4
 v4:=Tryz.zeroValue4
 t21:=Tryz.underlying21
 a21:=Tryz.isAgg21
 z21:=Tryz.sizeOf21
 v21:=Tryz.zeroValue21}
def Tryz.utf8_ValidRune(r:Int)(w:World):
 Calls Tryz.prog 270 #[.int .i32 r] w λe w'=>e=.returned (.bool (Lib.validRune r))/\w'=w:=Any.utf8_ValidRune Tryz.alv r w
def Tryz.alw:Go.Shelf.Ren:=⟨λ|137=>83|217=>125|266=>159|n=>n,λ|9=>9|5=>5|3=>3|n=>n,λ|n=>n⟩
def Tryz.alx:Go.Proofs.Lays.n137 Tryz.prog Tryz.alw:={
 mixed:=by kernel_rfl
 f137:=Tryz.func83.trans (dh some (by kernel_rfl))
 f217:=Tryz.func125.trans (dh some (by kernel_rfl))
 f266:=Tryz.func159.trans (dh some (by kernel_rfl))
 t3:=Tryz.underlying3
 a3:=Tryz.isAgg3
 z3:=Tryz.sizeOf3
 v3:=Tryz.zeroValue3
 t5:=Tryz.underlying5
 a5:=Tryz.isAgg5
 z5:=Tryz.sizeOf5
 v5:=Tryz.zeroValue5
 t9:=Tryz.underlying9
 a9:=Tryz.isAgg9
 z9:=Tryz.sizeOf9
 v9:=Tryz.zeroValue9}
open Go.RowKit in
def Tryz.strings_IndexByte(s:ByteArray)(c:Int)(w:World):
 Calls Tryz.prog 83 #[.string s,.int .u8 c] w λe w'=>e=.returned (.int .i64 (Lib.indexByte s.data.toList c.toNat.toUInt8))/\w'=w:=Any.strings_IndexByte Tryz.alx s c w
def Tryz.aly:Go.Shelf.Ren:=⟨λ|152=>246|137=>83|119=>270|224=>184|225=>183|217=>125|266=>159|n=>n,λ|9=>9|21=>21|3=>3|4=>4|5=>5|0=>0|46=>143|n=>n,λ|n=>n⟩
def Tryz.alz:Go.Proofs.Lays.n152 Tryz.prog Tryz.aly:={
 mixed:=by kernel_rfl
 f119:=Tryz.func270.trans (dh some (by kernel_rfl))
 f137:=Tryz.func83.trans (dh some (by kernel_rfl))
 f152:=Tryz.func246.trans (dh some (by kernel_rfl))
 f217:=Tryz.func125.trans (dh some (by kernel_rfl))
 f224:=Tryz.func184.trans (dh some (by kernel_rfl))
 f225:=Tryz.func183.trans (dh some (by kernel_rfl))
 f266:=Tryz.func159.trans (dh some (by kernel_rfl))
 t0:=Tryz.underlying0
 a0:=Tryz.isAgg0
 z0:=Tryz.sizeOf0
 v0:=Tryz.zeroValue0
 t3:=Tryz.underlying3
 a3:=Tryz.isAgg3
 z3:=Tryz.sizeOf3
 v3:=Tryz.zeroValue3
 t4:=Tryz.underlying4
 a4:=Tryz.isAgg4
 z4:=Tryz.sizeOf4
 v4:=Tryz.zeroValue4
 t5:=Tryz.underlying5
 a5:=Tryz.isAgg5
 z5:=Tryz.sizeOf5
 v5:=Tryz.zeroValue5
 t9:=Tryz.underlying9
 a9:=Tryz.isAgg9
 z9:=Tryz.sizeOf9
 v9:=Tryz.zeroValue9
 t21:=Tryz.underlying21
 a21:=Tryz.isAgg21
 z21:=Tryz.sizeOf21
 v21:=Tryz.zeroValue21
 t46:=Tryz.underlying143
 a46:=Tryz.isAgg143
 z46:=Tryz.sizeOf143
 v46:=Tryz.zeroValue143}
open Go.RowKit Go.Lib in
def Tryz.strings_IndexRune_ascii(s:ByteArray)(r:Int)(w:World)(a7:0<=r)(af:r<128):
 Calls Tryz.prog 246 #[.string s,.int .i32 r] w λe w'=>e=.returned (.int .i64 (Lib.indexByte s.data.toList r.toNat.toUInt8))/\w'=w:=Any.strings_IndexRune_ascii Tryz.alz s r w a7 af
def Tryz.alA:Go.Shelf.Ren:=⟨λ|226=>247|n=>n,λ|3=>3|4=>4|n=>n,λ|n=>n⟩
def Tryz.alB:Go.Proofs.Lays.n226 Tryz.prog Tryz.alA:={
 mixed:=by kernel_rfl
 f226:=Tryz.func247.trans (dh some (by kernel_rfl))
 t3:=Tryz.underlying3
 a3:=Tryz.isAgg3
 z3:=Tryz.sizeOf3
 v3:=Tryz.zeroValue3
 t4:=Tryz.underlying4
 a4:=Tryz.isAgg4
 z4:=Tryz.sizeOf4
 v4:=Tryz.zeroValue4}
open Go.RowKit Go.Lib in
def Tryz.strings_shouldUseASCIISet(n:Int)(w:World):
 Calls Tryz.prog 247 #[.int .i64 n] w λe w'=>e=.returned (.bool (decide (8<n)))/\w'=w:=Any.strings_shouldUseASCIISet Tryz.alB n w
def Tryz.alC:Go.Shelf.Ren:=⟨λ|153=>222|152=>246|226=>247|227=>248|228=>249|137=>83|119=>270|224=>184|225=>183|217=>125|266=>159|n=>n,λ|9=>9|3=>3|4=>4|5=>5|21=>21|117=>302|116=>301|0=>0|46=>143|124=>327|n=>n,λ|n=>n⟩
def Tryz.alD:Go.Proofs.Lays.n153 Tryz.prog Tryz.alC:={
 mixed:=by kernel_rfl
 f119:=Tryz.func270.trans (dh some (by kernel_rfl))
 f137:=Tryz.func83.trans (dh some (by kernel_rfl))
 f152:=Tryz.func246.trans (dh some (by kernel_rfl))
 f153:=Tryz.func222.trans (dh some (by kernel_rfl))
 f217:=Tryz.func125.trans (dh some (by kernel_rfl))
 f224:=Tryz.func184.trans (dh some (by kernel_rfl))
 f225:=Tryz.func183.trans (dh some (by kernel_rfl))
 f226:=Tryz.func247.trans (dh some (by kernel_rfl))
 f227:=Tryz.func248.trans (dh some (by kernel_rfl))
 f228:=Tryz.func249.trans (dh some (by kernel_rfl))
 f266:=Tryz.func159.trans (dh some (by kernel_rfl))
 t0:=Tryz.underlying0
 a0:=Tryz.isAgg0
 z0:=Tryz.sizeOf0
 v0:=Tryz.zeroValue0
 t3:=Tryz.underlying3
 a3:=Tryz.isAgg3
 z3:=Tryz.sizeOf3
 v3:=Tryz.zeroValue3
 t4:=Tryz.underlying4
 a4:=Tryz.isAgg4
 z4:=Tryz.sizeOf4
 v4:=Tryz.zeroValue4
 t5:=Tryz.underlying5
 a5:=Tryz.isAgg5
 z5:=Tryz.sizeOf5
 v5:=Tryz.zeroValue5
 t9:=Tryz.underlying9
 a9:=Tryz.isAgg9
 z9:=Tryz.sizeOf9
 v9:=Tryz.zeroValue9
 t21:=Tryz.underlying21
 a21:=Tryz.isAgg21
 z21:=Tryz.sizeOf21
 v21:=Tryz.zeroValue21
 t46:=Tryz.underlying143
 a46:=Tryz.isAgg143
 z46:=Tryz.sizeOf143
 v46:=Tryz.zeroValue143
 t116:=Tryz.underlying301
 a116:=Tryz.isAgg301
 z116:=Tryz.sizeOf301
 t117:=Tryz.underlying302
 a117:=Tryz.isAgg302
 z117:=Tryz.sizeOf302
 v117:=Tryz.zeroValue302
 t124:=Tryz.underlying327
 a124:=Tryz.isAgg327
 z124:=Tryz.sizeOf327
 v124:=Tryz.zeroValue327}
open Go.RowKit Go.Lib in
def Tryz.strings_IndexAny_long(alE:∀w,(zeroValue 301).run Tryz.prog w=.ok (.agg (Array.replicate 256 (.bool false))) w)(s chars:ByteArray)(w:World)(ao:2<=chars.size)(vZ:8<s.size)(an:s.size<4294967281)(gh:chars.size<4294967281)(alF:∀(j:Nat) b,chars.data.toList[j]?=some b->b.toNat<128):
 Calls Tryz.prog 222 #[.string s,.string chars] w λe w'=>e=.returned (.int .i64 (Lib.indexAny s.data.toList chars.data.toList))/\w'=((w.alloc (.cells (Lib.setCells chars.data.toList) 301)).alloc (.cells (Lib.setCells chars.data.toList) 301)):=Any.strings_IndexAny_long Tryz.alD alE (by kernel_rfl) s chars w ao vZ an gh alF
end Go.Proofs
namespace Go.Proofs.YtijdnecnjenleaaGreatDoor
open Go.Ev Go.RowKit Go.Lib
open Tryz
set_option maxHeartbeats 2000000 in
set_option maxRecDepth 1000000 in
def alG(s:ByteArray)(r:Int)(w:World)(a7:128<=r)(bO:r≠65533)(ag:Lib.validRune r=false):
  Calls prog 246 #[.string s,.int .i32 r] w λe w'=>e=.returned (.int .i64 (-1))/\w'=w:=by
 have P1:∀args w,(callFunc 270 args).run prog w=.ok (.enter 270 args) w:=enters_of Tryz.func270 aG rfl
 have ar:=Tryz.utf8_ValidRune r
 rw[ag]at ar
 clear ag
 have b0:¬r<128:=al
 have bS:(r==65533)=false:=yY
 clear bO
 go_enter Tryz.func246,Tryz.ntmps246
 go_wp2_with (go_at_fn 270;refine(ar _).mono ?_;rintro e w' ⟨rfl,rfl⟩)
 go_ret
 exact⟨rfl,rfl⟩
def Yd{l:List UInt8}(h:∀b∈l,b.toNat<128){c:UInt8}(aa:128<=c.toNat):Lib.indexByte l c= -1:=by
 induction l with
 |nil=>rfl
 |cons b l ih=>
  have af:=h b bb;have bO:(b==c)=false:=by
   cases hh:b==c
   .rfl
   .have:=ic hh;subst this;omega
  unfold Lib.indexByte;rw[bO,ih (λx ak=>h x lv)];rfl
def Ye(w:World)(s:ByteArray)(i:Nat):Below w.heap.size w (w.iter s i):=(Below.refl _ _).alloc (dc _) _
set_option maxHeartbeats 4000000 in
set_option maxRecDepth 1000000 in
def alH(r:Int)(w:World)(a7:128<=r)(bO:r≠65533)(ag:Lib.validRune r=true)(a c:UInt8)(Ea:Utf8.encode r=⟨#[a,c]⟩)(aa:128<=c.toNat):
  Calls prog 246 #[.string ⟨#[13,10,0]⟩,.int .i32 r] w λe w'=>e=.returned (.int .i64 (-1))/\Below w.heap.size w w':=by
 have P1:∀args w,(callFunc 270 args).run prog w=.ok (.enter 270 args) w:=enters_of Tryz.func270 aG rfl
 have Yf:∀args w,(callFunc 83 args).run prog w=.ok (.enter 83 args) w:=enters_of Tryz.func83 aG rfl
 have ar:=Tryz.utf8_ValidRune r
 rw[ag]at ar
 clear ag
 have b0:¬r<128:=al
 have bS:(r==65533)=false:=yY
 clear bO
 go_enter Tryz.func246,Tryz.ntmps246
 go_wp2_with (go_at_fn 270;refine(ar _).mono ?_;rintro e w' ⟨rfl,hw⟩;rw[hw])
 go_step3
 go_wp2
 go_loopg [9,10,11,12] 1 (λg i _ _ _ uV=>g=1/\i=.int .i64 1/\uV=w)
 case atStart=>exact⟨rfl,bb,rfl⟩
 case round=>
  obtain⟨rfl,rfl,rfl⟩:=hrel
  have Fv:=λw=>Tryz.strings_IndexByte ((ByteArray.mk #[13,10,0]).extract 2 3) (((ByteArray.mk #[a,c])[1]'(by show 1<2;decide)).toNat:Int) w
  rw[show Lib.indexByte ((ByteArray.mk #[13,10,0]).extract 2 3).data.toList (((ByteArray.mk #[a,c])[1]'(by show 1<2;decide)).toNat:Int).toNat.toUInt8= -1 from Yd gn SM]at Fv
  have d1:((((ByteArray.mk #[13,10,0])[1]'(by show 1<3;decide)).toNat:Int)!=(((ByteArray.mk #[a,c])[1]'(by show 1<2;decide)).toNat:Int))=true:=by show((10:Int)!=(c.toNat:Int))=true;rw[yI];omega
  go_wp2
  go_step3
  go_wp2
  go_quiet (fail)
  go_wp2
  go_quiet (first|(go_at_call 83;exact(Fv _).mono (λe w' aH=>⟨aH.1,_,aH.2⟩)))
  go_wp2
  simp only[Exit.noGoto,Exit.inBlock,Exit.then]
  go_ret
  exact T6
set_option maxHeartbeats 4000000 in
set_option maxRecDepth 1000000 in
def alI(r:Int)(w:World)(a7:128<=r)(bO:r≠65533)(ag:Lib.validRune r=true)(a b c:UInt8)(Ea:Utf8.encode r=⟨#[a,b,c]⟩)(aa:128<=c.toNat):
  Calls prog 246 #[.string ⟨#[13,10,0]⟩,.int .i32 r] w λe w'=>e=.returned (.int .i64 (-1))/\Below w.heap.size w w':=by
 have P1:∀args w,(callFunc 270 args).run prog w=.ok (.enter 270 args) w:=enters_of Tryz.func270 aG rfl
 have Yf:∀args w,(callFunc 83 args).run prog w=.ok (.enter 83 args) w:=enters_of Tryz.func83 aG rfl
 have ar:=Tryz.utf8_ValidRune r
 rw[ag]at ar
 clear ag
 have b0:¬r<128:=al
 have bS:(r==65533)=false:=yY
 clear bO
 go_enter Tryz.func246,Tryz.ntmps246
 go_wp2_with (go_at_fn 270;refine(ar _).mono ?_;rintro e w' ⟨rfl,hw⟩;rw[hw])
 go_step3
 go_wp2
 go_loopg [9,10,11,12] 1 (λg i _ _ _ uV=>g=1/\i=.int .i64 2/\uV=w)
 case atStart=>exact⟨rfl,bb,rfl⟩
 case round=>
  obtain⟨rfl,rfl,rfl⟩:=hrel
  have Fv:=λw=>Tryz.strings_IndexByte ((ByteArray.mk #[13,10,0]).extract 3 3) (((ByteArray.mk #[a,b,c])[2]' G9).toNat:Int) w
  rw[show Lib.indexByte ((ByteArray.mk #[13,10,0]).extract 3 3).data.toList (((ByteArray.mk #[a,b,c])[2]' G9).toNat:Int).toNat.toUInt8= -1 from Yd gn SM]at Fv
  have d1:((((ByteArray.mk #[13,10,0])[2]' G9).toNat:Int)!=(((ByteArray.mk #[a,b,c])[2]' G9).toNat:Int))=true:=by show((0:Int)!=(c.toNat:Int))=true;rw[yI];omega
  go_wp2
  go_step3
  go_wp2
  go_quiet (fail)
  go_wp2
  go_quiet (first|(go_at_call 83;exact(Fv _).mono (λe w' aH=>⟨aH.1,_,aH.2⟩)))
  go_wp2
  simp only[Exit.noGoto,Exit.inBlock,Exit.then]
  go_ret
  exact T6
set_option maxHeartbeats 4000000 in
set_option maxRecDepth 1000000 in
def alJ(r:Int)(w:World)(a7:128<=r)(bO:r≠65533)(ag:Lib.validRune r=true)(a b d c:UInt8)(Ea:Utf8.encode r=⟨#[a,b,d,c]⟩)(_hc:128<=c.toNat):
  Calls prog 246 #[.string ⟨#[13,10,0]⟩,.int .i32 r] w λe w'=>e=.returned (.int .i64 (-1))/\Below w.heap.size w w':=by
 have P1:∀args w,(callFunc 270 args).run prog w=.ok (.enter 270 args) w:=enters_of Tryz.func270 aG rfl
 have Yf:∀args w,(callFunc 83 args).run prog w=.ok (.enter 83 args) w:=enters_of Tryz.func83 aG rfl
 have ar:=Tryz.utf8_ValidRune r
 rw[ag]at ar
 clear ag
 have b0:¬r<128:=al
 have bS:(r==65533)=false:=yY
 clear bO
 go_enter Tryz.func246,Tryz.ntmps246
 go_wp2_with (go_at_fn 270;refine(ar _).mono ?_;rintro e w' ⟨rfl,hw⟩;rw[hw])
 go_step3
 go_wp2
 go_loopg [9,10,11,12] 1 (λg i _ _ _ uV=>g=1/\i=.int .i64 3/\uV=w)
 case atStart=>exact⟨rfl,bb,rfl⟩
 case round=>
  obtain⟨rfl,rfl,rfl⟩:=hrel
  go_wp2
  simp only[Exit.noGoto,Exit.inBlock]
  go_wp2
  go_ret
  exact⟨rfl,Below.refl _ _⟩
set_option maxHeartbeats 4000000 in
set_option maxRecDepth 1000000 in
def alK(w:World):
  Calls prog 246 #[.string ⟨#[13,10,0]⟩,.int .i32 65533] w λe w'=>e=.returned (.int .i64 (-1))/\Below w.heap.size w w':=by
 have an:(ByteArray.mk #[13,10,0]).size=3:=rfl
 go_enter Tryz.func246,Tryz.ntmps246
 go_wp2
 go_loopg [5,6] 3 (λg _ _ uV=>∃i:Nat,i+g=3/\uV=w.iter ⟨#[13,10,0]⟩ i)
 case atStart=>exact⟨0,al,rfl⟩
 case round=>
  obtain⟨i,awd,rfl⟩:=hrel
  cases gk with
  |zero=>
   obtain rfl:i=3:=al
   have tF:=λty=>run_next_end (P:=prog) w ⟨#[13,10,0]⟩ 3 ty gn
   go_wp2
   go_ret
   exact⟨rfl,Ye _ _ _⟩
  |succ g=>
   have hi:i<(ByteArray.mk #[13,10,0]).size:=by rw[an];omega
   have P2:((ByteArray.mk #[13,10,0])[i]'hi).toNat<128:=by have:∀i(hi:i<(ByteArray.mk #[13,10,0]).size),((ByteArray.mk #[13,10,0])[i]'hi).toNat<128:=gn;exact this i hi
   have tF:=λty=>run_next_ascii (P:=prog) w ⟨#[13,10,0]⟩ i ty hi P2
   have bO:((((ByteArray.mk #[13,10,0])[i]'hi).toNat:Int)==65533)=false:=by rw[GD];omega
   go_wp2
   go_roundg g
   case measure=>omega
   case rel=>exact⟨i+1,al,rfl⟩
def alL(r:Int)(w:World)(a7:128<=r):
  Calls prog 246 #[.string ⟨#[13,10,0]⟩,.int .i32 r] w λe w'=>e=.returned (.int .i64 (-1))/\Below w.heap.size w w':=by
 by_cases bO:r=65533
 .subst bO;exact alK w
 .cases ag:Lib.validRune r
  .exact(alG ⟨#[13,10,0]⟩ r w a7 bO ag).mono λe w' aH=>⟨aH.1,aH.2▸Below.refl _ _⟩
  .have ar:Utf8.valid r=true:=by
     unfold Lib.validRune at ag;unfold Utf8.valid;simp only[fD,nr,ba]at ag⊢;omega
   have P3:∀n:Nat,128<=(UInt8.ofNat (0x80+n%64)).toNat:=λn=>by rw[UInt8.toNat_ofNat_of_lt' (by show _<256;omega)];omega
   have he:Utf8.encode r=if r.toNat<0x80 then⟨#[UInt8.ofNat r.toNat]⟩
     else if r.toNat<0x800 then⟨#[UInt8.ofNat (0xC0+r.toNat/64),UInt8.ofNat (0x80+r.toNat%64)]⟩
     else if r.toNat<0x10000 then⟨#[UInt8.ofNat (0xE0+r.toNat/4096),UInt8.ofNat (0x80+r.toNat/64%64),UInt8.ofNat (0x80+r.toNat%64)]⟩
     else⟨#[UInt8.ofNat (0xF0+r.toNat/262144),UInt8.ofNat (0x80+r.toNat/4096%64),UInt8.ofNat (0x80+r.toNat/64%64),UInt8.ofNat (0x80+r.toNat%64)]⟩:=by
    unfold Utf8.encode;simp only[ar,kn]
   rw[c0 al]at he;by_cases ao:r.toNat<0x800
   .rw[dE ao]at he;exact alH r w a7 bO ag _ _ he (P3 _)
   .rw[c0 ao]at he;by_cases a1:r.toNat<0x10000
    .rw[dE a1]at he;exact alI r w a7 bO ag _ _ _ he (P3 _)
    .rw[c0 a1]at he;exact alJ r w a7 bO ag _ _ _ _ he (P3 _)
def alM(s:ByteArray)(pos k:Nat)(af:1<=k)(ao:k<(Utf8.decode s pos).2):128<=(s.get! (pos+k)).toNat:=by
 simp only[Utf8.decode]at ao;have ai:k=1\/k=2\/k=3:=by
  repeat' split at ao
  all_goals(simp only[]at ao;omega)
 rcases ai with rfl|rfl|rfl
 all_goals
  repeat' split at ao
 all_goals(simp only[ba,fD,h0]at*;omega)
def alN(s:ByteArray)(pos:Nat)(h:pos<s.size):pos+(Utf8.decode s pos).2<=s.size:=by
 simp only[Utf8.decode]
 repeat' split
 all_goals(simp only[ba,fD,h0]at*;omega)
def alO{b:UInt8}(h:128<=b.toNat):[(13:UInt8),10,0].contains b=false:=by
 cases aa:[(13:UInt8),10,0].contains b
 .rfl
 .simp at aa;rcases aa with rfl|rfl|rfl<;>simp at h
def alP{s:List UInt8}{c:List UInt8}{i n:Nat}(h:Lib.NoAny s c i)(aJ:∀j b,i<=j->j<n->s[j]?=some b->c.contains b=false):Lib.NoAny s c n:=λj b aP ag=>by
 by_cases aL:j<i
 .exact h j b aL ag
 .exact aJ j b al aP ag
set_option maxHeartbeats 8000000 in
set_option maxRecDepth 1000000 in
def alQ(s:ByteArray)(w:World)(vZ:s.size<=8):
  Calls prog 222 #[.string s,.string ⟨#[13,10,0]⟩] w λe w'=>e=.returned (.int .i64 (Lib.indexAny s.data.toList [13,10,0]))/\Below w.heap.size w w':=by
 have alR:decide ((8:Int)<(s.size:Int))=false:=cZ al
 have awe:∀args w,(callFunc 246 args).run prog w=.ok (.enter 246 args) w:=enters_of Tryz.func246 aG rfl
 have awf:∀args w,(callFunc 247 args).run prog w=.ok (.enter 247 args) w:=enters_of Tryz.func247 aG rfl
 have alS:=λr=>Tryz.strings_IndexRune_ascii ⟨#[13,10,0]⟩ r
 go_enter Tryz.func222,Tryz.ntmps222
 go_wp2_with (go_at_fn 247;refine(Tryz.strings_shouldUseASCIISet _ _).mono ?_;rintro e w' ⟨rfl,hw⟩;rw[hw,alR])
 go_loopg [9,10] s.size (λg _ _ uV=>∃pos:Nat,pos<=s.size/\s.size-pos<=g/\Below w.heap.size w uV/\uV.heap[w.heap.size]?=some (.stringIter s pos)/\Lib.NoAny s.data.toList [13,10,0] pos)
 case atStart=>exact⟨0,al,al,Ye w s 0,World.iter_heap w s 0,Lib.NoAny.zero _ _⟩
 case round=>
  obtain⟨pos,hle,aB,oX,hit,sd⟩:=hrel
  have JH:Aside (Lib.NoAny s.data.toList [13,10,0] pos):=sd
  clear sd
  by_cases aL:pos<s.size
  .cases gk with
   |zero=>exact absurd aB al
   |succ g=>
    obtain⟨x,ak⟩:∃x:UInt8,s[pos]'aL=x:=⟨_,rfl⟩;have kp:s.data.toList[pos]?=some x:=by rw[<-ak];exact Lib.data_getElem? s pos aL
    have alT:w.heap.size<wr.heap.size:=(s0.1 hit).1;by_cases P2:x.toNat<128
    .have tF:=λty=>Lib.run_next_ascii_at (P:=prog) wr w.heap.size s pos ty hit aL (by rw[ak];exact P2);rw[ak]at tF;have Yg:Aside (s.data.toList[pos]?=some x):=kp;clear kp ak;have CB:=Lib.contains_iff_indexByte [13,10,0] x;have alU:((x.toNat:Int)).toNat.toUInt8=x:=bb;have Fw:=alS (x.toNat:Int) (wr.iterAt w.heap.size s (pos+1)) al al;rw[alU]at Fw;have P4:=Lib.iterAt_heap wr w.heap.size s pos (pos+1) hit;have JI:=Lib.below_iterAt oX (dc _) s (pos+1);cases dt:[(13:UInt8),10,0].contains x
     .rw[dt]at CB;have ay:¬((0:Int)<=Lib.indexByte [13,10,0] x):=yJ CB.symm;clear CB
      go_wp2_with (go_at_fn 246;refine Fw.mono ?_;rintro e w' ⟨rfl,hw⟩;rw[hw])
      go_roundg g
      case measure=>omega
      case rel=>exact⟨pos+1,al,al,JI,P4,JH.out.succ Yg.out dt⟩
     .rw[dt]at CB;have ay:(0:Int)<=Lib.indexByte [13,10,0] x:=bH CB.symm;clear CB
      go_wp2_with (go_at_fn 246;refine Fw.mono ?_;rintro e w' ⟨rfl,hw⟩;rw[hw])
      go_ret
      exact⟨by rw[Lib.indexAny_hit JH.out Yg.out dt];rfl,JI⟩
    .have xy:=decode_high s pos aL (by rw[ak];omega);have tF:=λty=>Lib.run_next_any_at (P:=prog) wr w.heap.size s pos ty hit aL;have uB:=alM s pos;have h2:=alN s pos aL;obtain⟨d,aX⟩:∃d,Utf8.decode s pos=d:=⟨_,rfl⟩;rw[aX]at tF xy uB h2;obtain⟨dH,CC⟩:=d;simp only[]at tF xy uB h2;have Fw:=alL (dH:Int) (wr.iterAt w.heap.size s (pos+CC)) al;have P4:=Lib.iterAt_heap wr w.heap.size s pos (pos+CC) hit;have JI:=Lib.below_iterAt oX (dc _) s (pos+CC);have Yh:∀n,n<=pos+CC->n<=s.size->Lib.NoAny s.data.toList [13,10,0] n:=λn aJ Iy=>alP JH.out λj b aP Wt ag=>by
       have P5:j<s.size:=al;have cp:b=s[j]'P5:=by have:=Lib.data_getElem? s j P5;rw[this]at ag;exact(Ba ag).symm
       refine alO ?_;by_cases alV:j=pos
       .subst alV;rw[cp,ak];omega
       .have:=uB (j-pos) al al;have zM:=get_at s j P5;rw[show pos+(j-pos)=j+0 by omega,zM]at this;rw[cp];exact this
     have nN:Aside (∀n,n<=pos+CC->n<=s.size->Lib.NoAny s.data.toList [13,10,0] n):=Yh;clear Yh uB aX
     go_wp2_with (go_at_fn 246;refine Fw.mono ?_;rintro e w' ⟨rfl,hw⟩)
     go_roundg g
     case measure=>omega
     case rel=>exact⟨pos+CC,h2,al,JI.trans (hw.mono (by rw[Lib.iterAt_size];omega)),(hw.block _ (by rw[Lib.iterAt_size];exact alT)).trans P4,nN.out _ (dc _) h2⟩
  .obtain rfl:pos=s.size:=al;have tF:=λty=>Lib.run_next_end_at (P:=prog) wr w.heap.size s s.size ty hit (mK _)
   go_wp2
   go_ret
   exact⟨by rw[Lib.indexAny_none (by rw[<-Lib.size_eq];exact JH.out)];rfl,oX⟩
def alW(s:ByteArray)(w:World)(an:s.size<4294967281):
  Calls prog 222 #[.string s,.string ⟨#[13,10,0]⟩] w λe w'=>e=.returned (.int .i64 (Lib.indexAny s.data.toList [13,10,0]))/\Below w.heap.size w w':=by
 by_cases vZ:s.size<=8
 .exact alQ s w vZ
 .have bp:∀w,(zeroValue 301).run prog w=.ok (.agg (Array.replicate 256 (.bool false))) w:=(zero_of_info (n:=256) aG).1;refine(Tryz.strings_IndexAny_long bp s ⟨#[13,10,0]⟩ w gn al an gn (λj b aP=>?_)).mono λe w' aH=>⟨aH.1,?_⟩
  .have ag:b∈[(13:UInt8),10,0]:=pk aP;simp at ag;rcases ag with rfl|rfl|rfl<;>decide
  .rw[aH.2];exact((Below.refl _ _).alloc (dc _) _).alloc bb _
def P6:List AV->a6 AV
 |[.str s]=>.bt (decide (s.length<4294967281)) (.leaf (.bool (Lib.containsAny s [13,10,0])))
 |_=>.no
def alX(s:ByteArray)(w:World)(an:s.size<4294967281):
  Calls prog 220 #[.string s] w λe w'=>e=.returned (.bool (Lib.containsAny s.data.toList [13,10,0]))/\Below w.heap.size w w':=by
 have awg:∀args w,(callFunc 204 args).run prog w=.ok (.enter 204 args) w:=enters_of Tryz.func204 aG rfl
 have awh:∀args w,(callFunc 222 args).run prog w=.ok (.enter 222 args) w:=enters_of Tryz.func222 aG rfl
 have alY:=alW s w an
 have alZ:Calls prog 204 #[.string s,.string ⟨#[13,10,0]⟩] w λe w'=>e=.returned (.bool (Lib.containsAny s.data.toList [13,10,0]))/\Below w.heap.size w w':=by
  go_enter Tryz.func204,Tryz.ntmps204
  go_wp2_with (go_at_fn 222;refine alY.mono ?_;rintro e w' ⟨rfl,hw⟩)
  go_ret
  exact⟨rfl,hw⟩
 go_enter Tryz.func220,Tryz.ntmps220
 go_wp2_with (go_at_fn 204;refine alZ.mono ?_;rintro e w' ⟨rfl,hw⟩)
 go_ret
 exact⟨rfl,hw⟩
def al0:SumOK prog 220 (aK P6)/\b5 (aK P6):=by
 refine Fq aG λaj w S aA args k r hF cu ar h=>?_;unfold P6 at h;split at h
 .rename_i s;obtain⟨aa,h⟩:=bz h;obtain⟨v,vs,rfl,af,ar⟩:=ar.inv;obtain rfl:=ar.gf;rw[af.hO];exact⟨_,_,h,rfl,.bool _ _,alX ⟨s.toArray⟩ w (by rw[Ev.size_mk];exact bH aa)⟩
 .cases h
open IntKind
open Go.Ev
def tM(n:Int):Bool:=tL n 33 126&& !(n==58)
def JJ:List AV->a6 AV
 |[.int .u8 n]=>.leaf (.bool (tM n))
 |_=>.no
theorem al1:SumOK prog 219 (aK JJ)/\b5 (aK JJ):=by
 refine eJ bV Tryz.func219 aG λaj aA k r h=>?_;unfold JJ at h;split at h
 .rename_i n;have ai:=h;refine bn (b:=bif decide (n>=(33:Int))then bif decide (n<=(126:Int))then k (.bool (n !=58))else k (.bool false)else k (.bool false)) ?_;rw[<-ai];show _=k (.bool ((decide (33<=n)&&decide (n<=126))&& !(n==58)));grind
 .cases h
noncomputable def Yi:Env:={pure:=[(219,aK JJ)]}
def Yj:aM prog Yi:=aM.br bV al1
noncomputable def Yk:Code:=((Tryz.f84.body.map c7).getD []).headD .skip
def Yl:List AV->List (Option Row)->a6 cy
 |[.str s,.fn 219 [],.bool b,.int .i64 n,.int .i64 i],[]=>.bt (bl n i s.length) (h8 (λi=> !tM (b8 s i)) s.length (λq=>.leaf (.ret,[.str s,.fn 219 [],.bool false,.int .i64 n,.int .i64 (q:Nat)],[])) (.leaf (.exit 0,[.str s,.fn 219 [],.bool b,.int .i64 n,.int .i64 s.length],[])) i.toNat)
 |_,_=>.no
def JK:Ev.Loop:=⟨{len:=18,dr:=[0,1,4,7,8]},dP Yl⟩
def al2(vs:List AV)(_:List (Option Row)):Nat:=match vs with
 |[_,_,_,.int _ n,.int _ i]=>(n-i).toNat
 |_=>0
def al3:dj prog Yi [(2,JK)] Yk JK:=by
 refine ed Yj.dX rfl (ch.nil aG) al2 (λaj vs rs k r h=>?_);unfold Yl at h;split at h
 .rename_i s b n i;obtain⟨aa,ai⟩:=bz h;obtain⟨rfl,an,j,rfl,aP⟩:=eA aa;rw[bK]at ai;refine bn (b:=have av:=(s.length:Int);have aF:=(j:Int);have az:=(i64.wrap (aF+(1:Int)));bif decide (aF<av)then bif inb aF s.length then bif !tM ((s.getD j (0:UInt8)).toNat:Int)then k .ret [.str s,.fn 219 [],.bool false,.I av,.I aF] []else bif decide ((av-i64.wrap (aF+(1:Int))).toNat<(av-aF).toNat)then bif bl av az s.length then bif(bx (λi=> !tM (b8 s i)) s.length az.toNat).isSome then k .ret [.str s,.fn 219 [],.bool false,.I av,.I (((bx (λi=> !tM (b8 s i)) s.length az.toNat).getD 0):Int)] []else k (.exit 0) [.str s,.fn 219 [],.bool b,.I av,.I av] []else none else none else none else k (.exit 0) [.str s,.fn 219 [],.bool b,.I av,.I aF] []) ?_;conv=>zeta
  rw[<-ai];by_cases aL:j<s.length
  .exact Hn
  .obtain rfl:j=s.length:=al;exact jo
 .cases h
def P7:List AV->a6 AV
 |[.str s,.fn 219 []]=>.bt (small s.length) (.leaf (.bool (jU tM s)))
 |_=>.no
theorem al4:SumOK prog 84 (aK P7)/\b5 (aK P7):=by
 refine iH (K:=[(2,JK)]) (b:=Yk) (l:=JK) Yj Tryz.func84 aG aG al3 λaj aA k r h=>?_;unfold P7 at h;split at h
 .rename_i s;obtain⟨aa,ai⟩:=bz h;refine bn (b:=bif bl (s.length:Int) (0:Int) s.length then bif(bx (λi=> !tM (b8 s i)) s.length 0).isSome then k (.bool false)else k (.bool true)else none) ?_;rw[<-ai,e1 aa];show _=k (.bool (jU tM s));grind[jU,bx,b8]
 .cases h
def w5(s:List UInt8):Bool:= !(s==[])&&(decide ((s.length:Int)<=60)&&jU tM s)
def JL:List AV->a6 AV
 |[.str s]=>.bt (small s.length) (.leaf (.bool (w5 s)))
 |_=>.no
theorem al5:SumOK prog 199 (aK JL)/\b5 (aK JL):=by
 refine eJ (aM.br bV al4) Tryz.func199 aG λaj aA k r h=>?_;unfold JL at h;split at h
 .rename_i s;obtain⟨aa,ai⟩:=bz h;refine bn (b:=bif !s==([]:List UInt8)then bif decide ((s.length:Int)<=(60:Int))then bif small s.length then k (.bool (jU tM s))else none else k (.bool false)else k (.bool false)) ?_;rw[<-ai,aa];show _=k (.bool (!(s==[])&&(decide ((s.length:Int)<=60)&&jU tM s)));grind
 .cases h
def qE(n:Int):Bool:=n==32||n==9
def JM:List AV->a6 AV
 |[.int .u8 n]=>.leaf (.bool (qE n))
 |_=>.no
def Ym:SumOK prog 221 (aK JM)/\b5 (aK JM):=by
 refine eJ bV Tryz.func221 aG λaj aA k r h=>?_;unfold JM at h;split at h
 .rename_i n;have ai:=h;refine bn (b:=bif n==32 then k (.bool true)else k (.bool (n==9))) ?_;rw[<-ai];show _=k (.bool (n==32||n==9));cases n==32<;>rfl
 .cases h
def x0(s:List UInt8):Bool:= !Lib.containsAny s [13,10,0]&&(s==[]||(!qE (b8 s 0)&& !qE (b8 s (s.length-1))))
def JN:List AV->a6 AV
 |[.str s]=>.bt (decide (s.length<4294967281)) (.leaf (.bool (x0 s)))
 |_=>.no
def al6:SumOK prog 200 (aK JN)/\b5 (aK JN):=by
 refine eJ (aM.br (aM.br bV Ym) al0) Tryz.func200 aG λaj aA k r h=>?_;unfold JN at h;split at h
 .rename_i s;obtain⟨aa,ai⟩:=bz h;have aJ:=bH aa;refine bn (b:=have av:=(i64.wrap ((s.length:Int)-(1:Int)));bif decide (s.length<4294967281)then bif !Lib.containsAny s [(13:UInt8),(10:UInt8),(0:UInt8)]then bif s==([]:List UInt8)then k (.bool true)else bif inb (0:Int) s.length then bif !qE ((s.getD 0 (0:UInt8)).toNat:Int)then bif inb av s.length then k (.bool !qE ((s.getD av.toNat (0:UInt8)).toNat:Int))else none else k (.bool false)else none else k (.bool false)else none) ?_;conv=>zeta
  rw[<-ai,aa];have ar:x0 s=(!Lib.containsAny s [13,10,0]&&(s==[]||(!qE (b8 s 0)&& !qE (b8 s (s.length-1))))):=rfl;cases af:Lib.containsAny s [13,10,0]
  .cases s with
   |nil=>rw[ar,af];rfl
   |cons c s=>
    have ay:(c::s).length=s.length+1:=rfl;have w1:i64.wrap (((c::s).length:Int)-1)=((s.length:Nat):Int):=by rw[mL _ al al];omega
    have dw:inb 0 (c::s).length=true:=ie al al;have aU:inb ((s.length:Nat):Int) (c::s).length=true:=ie al al;have bO:((c::s)==([]:List UInt8))=false:=rfl;rw[ar,af,bO];simp only[w1,dw,aU,b4,cU,pq,nk,qS];have al7:b8 (c::s) 0=(((c::s).getD 0 (0:UInt8)).toNat:Int):=rfl;have el:b8 (c::s) ((c::s).length-1)=(((c::s).getD ((s.length:Nat):Int).toNat (0:UInt8)).toNat:Int):=by rw[bK];rfl
    rw[el,al7];cases qE (((c::s).getD 0 (0:UInt8)).toNat:Int)<;>rfl
  .rw[ar,af];rfl
 .cases h
noncomputable def Yn:Env:={pure:=[(221,aK JM)]}
def Yo:aM prog Yn:=aM.br bV Ym
noncomputable def Yp:Code:=((Tryz.f201.body.map c7).getD []).headD .skip
def JO(s:List UInt8)(i:Nat):Bool:=qE (b8 s i)&& !qE (b8 s (i-1))
def nO(s:List UInt8):Nat->Int->Nat->Int×Nat
 |0,b,i=>(b,i)
 |n+1,b,i=>bif JO s i then(bif decide (b>0)&&decide ((i:Int)>78)then(b,i)else nO s n i (i+1))else nO s n b (i+1)
def Yq(s:List UInt8)(n:Nat)(b:Int)(i:Nat):nO s (n+1) b i=bif JO s i then(bif decide (b>0)&&decide ((i:Int)>78)then(b,i)else nO s n i (i+1))else nO s n b (i+1):=rfl
def Yr:List AV->List (Option Row)->a6 cy
 |[.str s,.int .i64 b,.int .i64 i],[]=>.bt (bl s.length i s.length&&decide (1<=i)) (.leaf (.exit 0,[.str s,.int .i64 (nO s (s.length-i.toNat) b i.toNat).1,.int .i64 (nO s (s.length-i.toNat) b i.toNat).2],[]))
 |_,_=>.no
def JP:Ev.Loop:=⟨{len:=35,dr:=[0,5,6]},dP Yr⟩
def al8(vs:List AV)(_:List (Option Row)):Nat:=match vs with
 |[.str s,_,.int _ i]=>((s.length:Int)-i).toNat
 |_=>0
def al9:dj prog Yn [(3,JP)] Yp JP:=by
 refine ed Yo.dX rfl (ch.nil aG) al8 (λaj vs rs k r h=>?_);unfold Yr at h;split at h
 .rename_i s b i;obtain⟨aa,ai⟩:=bz h;simp only[ba,fD]at aa;obtain⟨aa,af⟩:=aa;obtain⟨_,an,j,rfl,aP⟩:=eA aa;rw[bK]at ai;refine bn (b:=have bd:=(j:Int);have aF:=(i64.wrap (bd+(1:Int)));have aZ:=(s.length-aF.toNat);have bk:=(Ex.exit 0);have bF:=(s.length:Int);have aI:=decide ((bF-i64.wrap (bd+(1:Int))).toNat<(bF-bd).toNat);have aO:=bl bF aF s.length&&decide ((1:Int)<=i64.wrap (bd+(1:Int)));have az:=bif aI then bif aO then k bk [.str s,.I (nO s aZ b aF.toNat).fst,.I ((nO s aZ b aF.toNat).snd:Int)] []else none else none;have bI:=[AV.str s,.I b,.I bd];have b3:=(i64.wrap (bd-(1:Int)));have cd:=(nO s aZ bd aF.toNat);have av:=bif aI then bif aO then k bk [.str s,.I cd.fst,.I (cd.snd:Int)] []else none else none;bif decide (bd<bF)then bif inb bd s.length then bif !qE ((s.getD j (0:UInt8)).toNat:Int)then az else bif inb b3 s.length then bif qE ((s.getD b3.toNat (0:UInt8)).toNat:Int)then az else bif decide (b>(0:Int))then bif decide (bd>(78:Int))then k bk bI []else av else av else none else none else k bk bI []) ?_;conv=>zeta
  rw[<-ai];by_cases aL:j<s.length
  .obtain⟨aU,bc,bw,bQ,bN⟩:=ew aL an;have w1:i64.wrap ((j:Int)-1)=((j-1:Nat):Int):=by rw[mL _ al al];omega
   have j9:inb ((j-1:Nat):Int) s.length=true:=ie al al;have mD:decide ((1:Int)<=((j+1:Nat):Int))=true:=aS al;have ak:∀j,((s.getD j (0:UInt8)).toNat:Int)=b8 s j:=λj=>rfl;rw[show s.length-j=(s.length-(j+1))+1 by omega];show _=k (.exit 0) [.str s,.int .i64 (nO s (s.length-(j+1)+1) b j).1,.int .i64 (nO s (s.length-(j+1)+1) b j).2] [];rw[Yq];unfold JO;simp only[bK,ak,w1,aU,bc,bw,bQ,bN,j9,mD,b4,oL];cases ao:qE (b8 s j)<;>cases a1:qE (b8 s (j-1))<;>simp only[lY,pq,oL,Bool.and_false,nk,A7,b4,cU]<;>try rfl
   cases ca:decide (b>0)<;>cases dA:decide ((j:Int)>78)<;>rfl
  .obtain rfl:j=s.length:=al;rw[cZ al,DF];rfl
 .cases h
def rA(i:Int):Int:=if 1>i then 1 else i
def jf(s:List UInt8)(i:Int):Int:=(nO s (s.length-(rA i).toNat) 0 (rA i).toNat).1
def JQ:List AV->a6 AV
 |[.str s,.int .i64 i]=>.bt (small s.length&&decide (rA i<=s.length)) (.leaf (.int .i64 (jf s i)))
 |_=>.no
theorem ama(i:Int):1<=rA i:=by grind[rA]
def amb:SumOK prog 201 (aK JQ)/\b5 (aK JQ):=by
 refine iH (K:=[(3,JP)]) (b:=Yp) (l:=JP) Yo Tryz.func201 aG aG al9 λaj aA k r h=>?_;unfold JQ at h;split at h
 .rename_i s i;obtain⟨aa,ai⟩:=bz h;simp only[ba,fD]at aa;have an:s.length<=9223372036854775807:=bH aa.1;have hm:=ama i;refine bn (b:=bif bl (s.length:Int) (if(1:Int)>i then(1:Int)else i) s.length&&decide ((1:Int)<=if(1:Int)>i then(1:Int)else i)then k (.I (nO s (s.length-(if(1:Int)>i then(1:Int)else i).toNat) (0:Int) (if(1:Int)>i then(1:Int)else i).toNat).fst)else none) ?_;rw[<-ai];have amc:(bl s.length (rA i) s.length&&decide (1<=rA i))=true:=aV (sz (aS rfl) (sz (aS al) (sz (aS aa.2) (aS an)))) (aS hm);exact a' amc
 .cases h
def P8(s:List UInt8):∀(n:Nat)(b:Int)(i:Nat),i+n<=s.length->0<=b->b<s.length\/b=0->0<=(nO s n b i).1/\((nO s n b i).1<s.length\/(nO s n b i).1=0)
 |0,b,i,_,a7,af=>⟨a7,af⟩
 |n+1,b,i,h,a7,af=>by
  rw[Yq];cases JO s i
  .exact P8 s n b (i+1) al a7 af
  .cases decide (b>0)&&decide ((i:Int)>78)
   .exact P8 s n i (i+1) al al (.inl al)
   .exact⟨a7,af⟩
def P9(s:List UInt8)(i:Int):0<=jf s i/\(jf s i<s.length\/jf s i=0):=by
 unfold jf;by_cases h:(rA i).toNat<=s.length
 .exact P8 s _ 0 _ al (ui _) (.inr rfl)
 .rw[show s.length-(rA i).toNat=0 by omega];exact⟨ui _,.inr rfl⟩
noncomputable def P':Env:={pure:=[(199,aK JL),(200,aK JN),(201,aK JQ),(39,jc prog mC [] Tryz.f39),(29,jc prog mC [] Tryz.f29)]}
def Qa:aM prog P':=aM.br (aM.br (aM.br (aM.br (aM.br bV (inl bV Tryz.func29 aG)) (inl bV Tryz.func39 aG)) amb) al6) al5
noncomputable def Ys:Code:=((Tryz.f173.body.map c7).getD []).headD .skip
noncomputable def Yt:Code:=(((Tryz.f173.body.map c7).getD []).tail).headD .skip
def dB:Nat->List UInt8->Int->List (List UInt8)×List UInt8×Int
 |0,s,f=>([],s,f)
 |n+1,s,f=>bif decide ((s.length:Int)>78)then(bif jf s f==0 then([],s,f)else(s.take (jf s f).toNat::(dB n (s.drop (jf s f).toNat) 0).1,(dB n (s.drop (jf s f).toNat) 0).2))else([],s,f)
def strs(l:List (List UInt8)):List AV:=l.map AV.str
def Yu:prog.bytesOf 9<=1000:=bH aG
def Yv:List AV->List (Option Row)->a6 cy
 |[.ptr 1 0,.str s,.int .i64 f,.own 900],[some (.box false [.int .i64 0,.int .i64 0]),some (.arr false .str e es none)]=>.bt (decide (s.length<=100000/\es.length+s.length<=100000/\f<=s.length/\e=9)) (.leaf (.exit 1,[.ptr 1 0,.str (dB s.length s f).2.1,.int .i64 (dB s.length s f).2.2,.own 900],[some (.box false [.int .i64 0,.int .i64 0]),some (.arr false .str e (es++strs (dB s.length s f).1) none)]))
 |_,_=>.no
def JR:Ev.Loop:=⟨{len:=70,dr:=[5,6,7,8],rows:=[1,900],homes:=[(8,900,9)]},dP Yv⟩
def amd(vs:List AV)(_:List (Option Row)):Nat:=match vs with
 |[_,.str s,_,_]=>s.length
 |_=>0
def CD(n:Nat)(s:List UInt8)(f:Int):dB (n+1) s f=bif decide ((s.length:Int)>78)then(bif jf s f==0 then([],s,f)else(s.take (jf s f).toNat::(dB n (s.drop (jf s f).toNat) 0).1,(dB n (s.drop (jf s f).toNat) 0).2))else([],s,f):=rfl
def Qb:∀(n m:Nat)(s:List UInt8)(f:Int),s.length<=n->s.length<=m->dB n s f=dB m s f
 |0,m,s,f,aJ,_=>by have:s=[]:=pn al;subst this;cases m<;>rfl
 |n+1,0,s,f,_,hm=>by have:s=[]:=pn al;subst this;rfl
 |n+1,m+1,s,f,aJ,hm=>by
  rw[CD,CD];cases a7:jf s f==0
  .have aD:=P9 s f;have bO:jf s f≠0:=Hd;rw[Qb n m _ 0 Bl Bl]
  .rfl
def ame:dj prog P' [(9,JR)] Ys JR:=by
 refine ed Qa.dX rfl (ch.nil aG) amd (λaj vs rs k r h=>?_);unfold Yv at h;split at h
 .rename_i s f e es;obtain⟨aa,ai⟩:=bz h;obtain⟨b2,bX,c3,rfl⟩:=bH aa;refine bn (b:=have az:=[AV.str (List.take ((jf s f).toNat-Int.toNat (0:Int)) (List.drop 0 s))];have aF:=(Row.box false [.I 0,.I 0]);have aI:=[AV.ptr 1 0,.str s,.I f,.own 900];have aZ:=[some aF,some (.arr false .str 9 es none)];have bd:=(s.length:Int);have av:=(List.take (bd.toNat-(jf s f).toNat) (List.drop (jf s f).toNat s));have aO:=(dB av.length av (0:Int));have bk:=(Ex.exit 1);bif decide (bd>(78:Int))then bif small s.length&&decide (rA f<=bd)then bif jf s f==0 then k bk aI aZ else bif slb (0:Int) (jf s f) s.length then bif roomB (es.length+az.length) (prog.bytesOf 9)then bif slb (jf s f) bd s.length then bif decide (av.length<s.length)then bif decide (av.length<=100000/\(es++az).length+av.length<=100000/\(0:Int)<=(av.length:Int)/\9=(9:TypeId))then k bk [.ptr 1 0,.str aO.snd.fst,.I aO.snd.snd,.own 900] [some aF,some (.arr false .str 9 (es++az++strs aO.fst) none)]else none else none else none else none else none else none else k bk aI aZ) ?_;conv=>zeta
  rw[<-ai];by_cases CE:(s.length:Int)>78
  .have hm:rA f<=s.length:=by unfold rA;split<;>omega
   have k3:(small s.length&&decide (rA f<=(s.length:Int)))=true:=aV (aS al) (aS hm);obtain⟨eF,cF⟩:=P9 s f;rw[aS CE,k3,b4,b4];rw[Qb s.length (s.length-1+1) s f (dc _) al,CD,aS CE,b4];cases au:jf s f==0
   .have bO:jf s f≠0:=by simpa using au
    rw[cU,cU];generalize aH:(jf s f).toNat=q;have It:jf s f=(q:Int):=al;rw[It];have t1:List.take (q-Int.toNat 0) (List.drop 0 s)=s.take q:=rfl;have t2:List.take ((s.length:Int).toNat-q) (s.drop q)=s.drop q:=nn Bl;have aX:(s.drop q).length=s.length-q:=mJ;simp only[t1,t2];rw[Qb (s.drop q).length (s.length-1) _ 0 (dc _) al];have Qc:∀x:AV,roomB (es.length+[x].length) (prog.bytesOf 9)=true:=λx=>hW lu Yu;have ay:∀x:AV,(es++[x]).length=es.length+1:=λx=>by rw[fu];rfl
    refine aT (a' (mB al al al)) (aT (a' (Qc _)) (aT (a' (mB al al al)) (aT (a' (aS al)) (aT (a' (aS ⟨al,by rw[ay];omega,al,trivial⟩)) ?_))));rw[nm];rfl
   .show k _ _ _=k _ _ [_,some (.arr false .str 9 (es++[]) none)];rw[jy];rfl
  .rw[cZ CE];have:dB s.length s f=([],s,f):=by
     cases ay:s.length with
     |zero=>rfl
     |succ m=>rw[CD,cZ CE];rfl
   rw[this];show k _ _ _=k _ _ [_,some (.arr false .str 9 (es++[]) none)];rw[jy]
 .cases h
def sE(e:AV):List UInt8:=(e.cells.headD .J).toStr
def Af(e:AV):Bool:=match e with|.str _=>true|_=>false
def Yw(l:List (List UInt8)):(strs l).all Af=true:=ec.2 λx ak=>by obtain⟨b,_,rfl⟩:=uj.1 ak;rfl
def CF(es:List AV)(i:Nat):Bool:=decide (((sE (es.getD i .J)).length:Int)>998)
def Yx:List AV->List (Option Row)->a6 cy
 |[.J,.ptr 1 0,.own 899,.own 899,.int .i64 n,.int .i64 i],[some (.box false [.int .i64 0,.int .i64 0]),some (.arr false .str e es none)]=>.bt (bl n i es.length&&es.all Af) (h8 (CF es) es.length (λq=>.leaf (.ret,[.bf .str,.ptr 1 0,.own 899,.own 899,.int .i64 n,.int .i64 (q:Nat)],[some (.box false [.int .i64 1,.int .i64 (q:Nat)]),some (.arr false .str e es none)])) (.leaf (.exit 3,[.J,.ptr 1 0,.own 899,.own 899,.int .i64 n,.int .i64 es.length],[some (.box false [.int .i64 0,.int .i64 0]),some (.arr false .str e es none)])) i.toNat)
 |_,_=>.no
def JS:Ev.Loop:=⟨{len:=70,dr:=[4,5,8,55,56,57],rows:=[1,899]},dP Yx⟩
def amf(vs:List AV)(_:List (Option Row)):Nat:=match vs with
 |[_,_,_,_,.int _ n,.int _ i]=>(n-i).toNat
 |_=>0
def amg:dj prog P' [(16,JS)] Yt JS:=by
 refine ed Qa.dX rfl (ch.nil aG) amf (λaj vs rs k r h=>?_);unfold Yx at h;split at h
 .rename_i n i e es;obtain⟨aa,ai⟩:=bz h;simp only[ba]at aa;obtain⟨aa,cn⟩:=aa;obtain⟨rfl,an,j,rfl,aP⟩:=eA aa;rw[bK]at ai;refine bn (b:=have az:=(es.length:Int);have aI:=(Row.arr false .str e es none);have aF:=[some (Row.box false [.I 0,.I 0]),some aI];have aO:=(j:Int);have aZ:=(i64.wrap (aO+(1:Int)));have av:=(bx (CF es) es.length aZ.toNat);bif decide (aO<az)then bif inb aO es.length then bif decide (j<es.length)then bif decide (((sE (es.getD j .J)).length:Int)>(998:Int))then k .ret [.bf .str,.ptr 1 0,.own 899,.own 899,.I az,.I aO] [some (.box false [.I 1,.I aO]),some aI]else bif decide ((az-i64.wrap (aO+(1:Int))).toNat<(az-aO).toNat)then bif bl az aZ es.length&&es.all Af then bif av.isSome then k .ret [.bf .str,.ptr 1 0,.own 899,.own 899,.I az,.I ((av.getD 0):Int)] [some (.box false [.I 1,.I ((av.getD 0):Int)]),some aI]else k (.exit 3) [.J,.ptr 1 0,.own 899,.own 899,.I az,.I az] aF else none else none else none else none else k (.exit 3) [.J,.ptr 1 0,.own 899,.own 899,.I az,.I aO] aF) ?_;conv=>zeta
  rw[<-ai];by_cases aL:j<es.length
  .obtain⟨aU,bc,bw,bQ,bN⟩:=ew aL an;rw[j2 _ _ _ _ _ aL];have hw:CF es j=decide (((sE (es.getD j .J)).length:Int)>998):=rfl;have j9:decide (j<es.length)=true:=aS aL;rw[hw];simp only[aU,bc,bw,bQ,bN,j9,cn,oL,b4,bK];rfl
  .obtain rfl:j=es.length:=al;exact jo
 .cases h
def ku(n v:List UInt8):List (List UInt8):=(dB (n++[58,32]++v).length (n++[58,32]++v) ((n.length:Int)+2)).1++[(dB (n++[58,32]++v).length (n++[58,32]++v) ((n.length:Int)+2)).2.1]
def x1(l:List (List UInt8))(i:Nat):Bool:=decide (((l.getD i []).length:Int)>998)
def x2(n v:List UInt8):List (List UInt8):=bif !w5 n then[]else bif decide ((v.length:Int)>4000)then[]else bif !x0 v then[]else bif(bx (x1 (ku n v)) (ku n v).length 0).isSome then[]else ku n v
def uW(n v:List UInt8):Int:=bif !w5 n then 10 else bif decide ((v.length:Int)>4000)then 1 else bif !x0 v then 11 else bif(bx (x1 (ku n v)) (ku n v).length 0).isSome then 1 else 0
def Yy(n v:List UInt8):Int:=bif !w5 n then -1 else bif decide ((v.length:Int)>4000)then -1 else bif !x0 v then -1 else bif(bx (x1 (ku n v)) (ku n v).length 0).isSome then(((bx (x1 (ku n v)) (ku n v).length 0).getD 0:Nat):Int)else 0
def amh(l:List (List UInt8))(i:Nat):sE ((strs l).getD i .J)=l.getD i []:=by unfold strs;rw[List.getD_eq_getElem?_getD,k0,List.getD_eq_getElem?_getD];cases l[i]?<;>rfl
def ami(l:List (List UInt8)):CF (strs l)=x1 l:=by funext i;unfold CF x1;rw[amh]
def JT:List AV->a6 AV
 |[.str n,.str v]=>.bt (small n.length&&small v.length) (.leaf (.tup [.ab .str (strs (x2 n v)),.agg [.int .i64 (uW n v),.int .i64 (Yy n v)]]))
 |_=>.no
def Qd:∀(n:Nat)(s:List UInt8)(f:Int),(dB n s f).1.length+(dB n s f).2.1.length<=s.length
 |0,s,f=>by simp[dB]
 |n+1,s,f=>by
  rw[CD];cases CE:decide ((s.length:Int)>78)
  .simp
  .cases au:jf s f==0
   .have bO:jf s f≠0:=by simpa using au
    obtain⟨eF,cF⟩:=P9 s f;have ih:=Qd n (s.drop (jf s f).toNat) 0;rw[mJ]at ih;simp only[b4,cU,e5];omega
   .simp
def amj:SumOK prog 173 (aK JT)/\b5 (aK JT):=by
 refine xZ (K:=[(9,JR),(16,JS)]) Qa Tryz.func173 (bs:=[Ys,Yt]) aG (λb ag=>?_) λaj aA k r h=>?_
 .simp at ag;rcases ag with rfl|rfl
  .exact⟨JR,aG,ame⟩
  .exact⟨JS,aG,amg⟩
 unfold JT at h;split at h
 .rename_i n v;obtain⟨aa,ai⟩:=bz h;simp only[ba]at aa;have aJ:n.length<=9223372036854775807:=bH aa.1;have ar:v.length<=9223372036854775807:=bH aa.2;refine bn (b:=have aF:=([58,32]:List UInt8);have aO:=(n++aF++v);have av:=(dB aO.length aO (i64.wrap ((n.length:Int)+(2:Int))));have az:=([]++strs av.fst++[AV.str av.snd.fst]);have aI:=(bx (CF az) az.length 0);bif small n.length then bif !w5 n then k (.tup [.ab .str [],.agg [.I 10,.I (-1:Int)]])else bif decide ((v.length:Int)>(4000:Int))then k (.tup [.ab .str [],.agg [.I 1,.I (-1:Int)]])else bif decide (v.length<4294967281)then bif !x0 v then k (.tup [.ab .str [],.agg [.I 11,.I (-1:Int)]])else bif lenB (n.length+aF.length)then bif lenB ((n++aF).length+v.length)then bif decide (aO.length<=100000/\([]:List AV).length+aO.length<=100000/\i64.wrap ((n.length:Int)+(2:Int))<=(aO.length:Int)/\(8,900,(9:TypeId)).snd.snd=(9:TypeId))then bif roomB (([]++strs av.fst).length+[AV.str av.snd.fst].length) (prog.bytesOf 9)then bif bl (az.length:Int) (0:Int) az.length&&az.all Af then bif aI.isSome then k (.tup [.ab .str [],.agg [.I 1,.I ((aI.getD 0):Int)]])else k (.tup [.ab .str az,.agg [.I 0,.I 0]])else none else none else none else none else none else none else none) ?_;conv=>zeta
  rw[<-ai];unfold x2 uW Yy;rw[aa.1,b4];cases af:w5 n
  .rfl
  .cases ca:decide ((v.length:Int)>4000)
   .have Oq:v.length<=4000:=by have:=yJ ca;omega
    have amk:n.length<=60:=SH;rw[aS (show v.length<4294967281 by omega)];cases dA:x0 v
    .rfl
    .have w:i64.wrap ((n.length:Int)+2)=(n.length:Int)+2:=mL _ al al;have ay:(n++[58,32]++v).length=n.length+2+v.length:=GZ;have tk:(n++[(58:UInt8),32]).length=n.length+2:=GZ;have fx:[]++strs (dB (n++[58,32]++v).length (n++[58,32]++v) ((n.length:Int)+2)).1++[AV.str (dB (n++[58,32]++v).length (n++[58,32]++v) ((n.length:Int)+2)).2.1]=strs (ku n v):=by unfold ku strs;rw[yK];rfl
     have Yz:(strs (ku n v)).length=(ku n v).length:=g' _;have aml:(strs (dB (n++[58,32]++v).length (n++[58,32]++v) ((n.length:Int)+2)).1).length=(dB (n++[58,32]++v).length (n++[58,32]++v) ((n.length:Int)+2)).1.length:=g' _;have hle:=Qd (n++[58,32]++v).length (n++[58,32]++v) ((n.length:Int)+2);have fU:(ku n v).length=(dB (n++[58,32]++v).length (n++[58,32]++v) ((n.length:Int)+2)).1.length+1:=by unfold ku;rw[fu];rfl
     rw[w,fx,ami,Yz,Yw];have Qc:∀x:AV,roomB (([]++strs (dB (n++[58,32]++v).length (n++[58,32]++v) ((n.length:Int)+2)).1).length+[x].length) (prog.bytesOf 9)=true:=λx=>hW (by have e:=aml;rw[pj,qR];omega) Yu;refine aT (fP rfl) (aT (fP rfl) (aT (a' rfl) (aT (fP rfl) (aT (a' (aS (by show n.length+2<=_;omega))) (aT (a' (aS (by rw[tk];omega))) (aT (a' (aS ⟨al,by show 0+_<=_;omega,al,rfl⟩)) (aT (a' (Qc _)) (aT (a' (aV (e1 (aS al)) rfl)) ?_))))))));cases(bx (x1 (ku n v)) (ku n v).length 0).isSome<;>rfl
   .rfl
 .cases h
end Go.Proofs.YtijdnecnjenleaaGreatDoor
