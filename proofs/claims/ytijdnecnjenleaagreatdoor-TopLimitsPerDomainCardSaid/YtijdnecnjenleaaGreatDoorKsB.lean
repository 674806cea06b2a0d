/-
  The limits per domain: the law's loops.
-/
import Derived.Test.YtijdnecnjenleaaGreatDoorKnP2
set_option linter.all false
namespace Go.Proofs.YtijdnecnjenleaaGreatDoor
open Go.Ev Go.Mi
open Tryz
def adf:jT:={g:=168,nx:=57409,args:=[.agg [.str [99,108,105,101,110,116],.str [115,64,120],.bA 53426 0 1 1 2,.str [55],.bf,.bf,.bool false,.bf,i 5,.bool true,.bool true,.bA 53454 0 1 1 1],.bA 57308 0 9 9 1],h:=[(57308,.cells false (hB [50,50,49,32,98,121,101,13,10])),(53454,.cells false [i 1]),(53426,.cells false [.str [97,64,121],i 7])],v:=.tup [.agg [.str [99,108,105,101,110,116],.str [115,64,120],.bA 58668 0 1 1 2,.str [55],.bf,.bf,.bool false,.bf,i 5,.bool true,.bool true,.bA 58696 0 1 1 1],.bf,.agg [i 0,i 0]],h':=[(58696,.cells false [i 1]),(58668,.cells false [.str [97,64,121],i 7]),(57308,.cells false (hB [50,50,49,32,98,121,101,13,10])),(53454,.cells false [i 1]),(53426,.cells false [.str [97,64,121],i 7])],fN:=59016}
def asq:mb prog adf:=⟨(jS prog lS id 60).1,m' 60,aG⟩
def adg:jT:={g:=67,nx:=59122,args:=[.bA 4996 0 95 95 1,.agg [i 2,i 0,.str [],.bf,.str [],.bf,.bf,i 0,.str [121],.bA 6772 0 1 1 1,.bA 58696 0 1 1 1]],h:=[(58696,.cells false [i 1]),(6772,.cells false [i 0]),(4996,.cells false (hB [79,0,0,0,0,0,0,0,1,0,0,0,0,0,0,0,0,0,0,0,0,0,0,0,3,0,0,0,0,0,0,0,115,64,120,1,0,0,0,0,0,0,0,3,0,0,0,0,0,0,0,97,64,121,7,0,0,0,0,0,0,0,1,0,0,0,0,0,0,0,55,0,0,0,0,0,0,0,0,0,0,0,0,0,0,0,0,25,65,130,53,209,47,17,28]))],v:=.tup [.bA 62125 0 176 176 1,.agg [i 0,i 0]],h':=[(62125,.cells false (hB [79,0,0,0,0,0,0,0,1,0,0,0,0,0,0,0,0,0,0,0,0,0,0,0,3,0,0,0,0,0,0,0,115,64,120,1,0,0,0,0,0,0,0,3,0,0,0,0,0,0,0,97,64,121,7,0,0,0,0,0,0,0,1,0,0,0,0,0,0,0,55,0,0,0,0,0,0,0,0,0,0,0,0,0,0,0,0,25,65,130,53,209,47,17,28,65,0,0,0,0,0,0,0,2,0,0,0,0,0,0,0,0,0,0,0,0,0,0,0,0,0,0,0,0,0,0,0,1,0,0,0,0,0,0,0,121,1,0,0,0,0,0,0,0,0,0,0,0,0,0,0,0,1,0,0,0,0,0,0,0,1,0,0,0,0,0,0,0,108,233,31,166,126,182,143,3])),(4996,.cells false (hB [79,0,0,0,0,0,0,0,1,0,0,0,0,0,0,0,0,0,0,0,0,0,0,0,3,0,0,0,0,0,0,0,115,64,120,1,0,0,0,0,0,0,0,3,0,0,0,0,0,0,0,97,64,121,7,0,0,0,0,0,0,0,1,0,0,0,0,0,0,0,55,0,0,0,0,0,0,0,0,0,0,0,0,0,0,0,0,25,65,130,53,209,47,17,28])),(58696,.cells false [i 1]),(6772,.cells false [i 0])],fN:=62168}
def asr:mb prog adg:=⟨(jS prog lS id 60).1,m' 60,aG⟩
def adh:jT:={g:=11,nx:=62196,args:=[.agg [.bA 8710 0 1 1 10,i 1],.agg [i 0,.str [121],.bA 6772 0 1 1 1],.bA 58696 0 1 1 1,i 0],h:=[(58696,.cells false [i 1]),(6772,.cells false [i 0]),(8784,.cells false [.str [97,64,121],i 7,i 0,.bool true]),(8756,.cells false [.str [97,64,121],i 7]),(8710,.cells false [i 0,.str [115,64,120],.bA 8756 0 1 1 2,.str [55],.bf,.bf,i 0,i 0,i 0,.bA 8784 0 1 1 4])],v:=.tup [.agg [.bA 63640 0 0 1 10,i 1],.bA 63829 0 1 1 3,.agg [i 0,i 0]],h':=[(63829,.cells false [i 0,i 0,i 1]),(63640,.cells false [i 0,.str [],.bf,.str [],.bf,.bf,i 0,i 0,i 0,.bf]),(58696,.cells false [i 1]),(8784,.cells false [.str [97,64,121],i 7,i 0,.bool true]),(8756,.cells false [.str [97,64,121],i 7]),(8710,.cells false [i 0,.str [115,64,120],.bA 8756 0 1 1 2,.str [55],.bf,.bf,i 0,i 0,i 0,.bA 8784 0 1 1 4]),(6772,.cells false [i 0])],fN:=63953}
def ass:mb prog adh:=⟨(jS prog lS id 60).1,m' 60,aG⟩
def pins:List jT:=[XA,XB,XC,XD,XE,XF,XG,XH,XI,XJ,XK,XL,XM,XN,XO,adf,adg,adh]
def ast:∀p∈pins,mb Tryz.prog p:=by
 intro p au;simp only[pins,gv,mh,mi]at au;rcases au with rfl|rfl|rfl|rfl|rfl|rfl|rfl|rfl|rfl|rfl|rfl|rfl|rfl|rfl|rfl|rfl|rfl|rfl
 .exact akD
 .exact akE
 .exact akF
 .exact akG
 .exact akH
 .exact akI
 .exact akJ
 .exact akK
 .exact akL
 .exact akM
 .exact akN
 .exact akO
 .exact akP
 .exact akQ
 .exact akR
 .exact asq
 .exact asr
 .exact ass
noncomputable def adi:Go.Mi.h6:=(jS Tryz.prog lS (PB pins) 60).1
def asu:kg Tryz.prog adi:=(Pp Cv.pure (λ_ e8=>Xv Cv.pure (λg F h=>Cv.xI g F h) sy e8) (λ_ e8=>akx ast e8) 60).1
theorem runK:adi (a8×List (Nat×bT)×Nat) 5 [] [] 0 (λv h n=>some (v,h,n))=some (.bool true,[],64022):=aG
variable{es:List AV}{nx:Int}{ae:List AV}{q:Nat}{d:List UInt8}{e:AV}{on:Bool}{ws:List AV}{i y:Nat}{x:Int}{st:List AV×List AV}{e':AV}{t:Int}{fi:List AV}
def AN:List AV->a6 AV
 |[]=>.leaf (.bool true)
 |_=>.no
def asv:SumOK Tryz.prog 5 (aK AN)/\b5 (aK AN):=by
 refine⟨aj7 asu runK λaj aA k r h=>?_,qD AN⟩;change(AN aA).run k=some r at h;unfold AN at h;split at h
 .exact⟨λw S vs ar=>⟨λ_=>none,by rw[ar.gf];exact ck.nil,rfl⟩,h⟩
 .cases h
open Go.Ev
def jj(a:AV):Int:=(a.cells.headD .J).toInt
def gT(a:AV):List UInt8:=(a.cells.tail.headD .J).toStr
def cW(a:AV):List AV:=(a.cells.tail.tail.headD .J).toList
def sR(a:AV):AV:=.agg [.int .i64 (jj a),.str (gT a),.ab gm (cW a)]
structure oF(es:List AV)(nx:Int):Prop where
 len:es.length<=3
 wF:∀e∈es,bZ e=e
 ua:es.all mc=true
 sS:es.all hX=true
 vb:es.all fB=true
 wG:es.all sP=true
 jk:(iX es nx).1=0
 yn:∀e∈es,fA e=0
 oG:0<=nx
 yg:nx<=100
def jv(g:AV):Bool:=vc g&&(ee (fS g).length&&decide ((fw g).length<=141000000000000))
def Ls(es:List AV):Prop:=∀e∈es,∀w∈bL e,gl w=false
abbrev yo:=List AV×(Int×(List AV×Bool))
def pf(st:yo)(g:AV):yo:=((lC st.1 st.2.1 (fZ g) (ev g) (fS g) (fT g) (fw g) 0).1,((lC st.1 st.2.1 (fZ g) (ev g) (fS g) (fT g) (fw g) 0).2.1,((pg st.2.2.1 0 (fZ g) (ev g) (fS g) (fT g) (fw g)).1,(st.2.2.2&&(lC st.1 st.2.1 (fZ g) (ev g) (fS g) (fT g) (fw g) 0).2.2==0)&&(pg st.2.2.1 0 (fZ g) (ev g) (fS g) (fT g) (fw g)).2.1==0)))
structure pY(st:yo)(m:Nat):Prop where
 q:oF st.1 st.2.1
 z:Ls st.1
 len:st.1.length+m<=3
 nx:st.2.1+m<=3
 log:st.2.2.1.length<=200000
def ub(t:Int):Int:=1+(t.tdiv 2).tmod 4
def hY(t:Int)(n:Nat):List AV:=List.replicate n (.int .i64 (ub t))
def uc(es:List AV)(y t:Int):AV:=(ib es y).getD (t.tmod (ib es y).length).toNat .J
def wH(t:Int)(bs:List AV):Bool:=t.tmod 2==0||(bs.length:Int)==0
def AO(nx:Int)(y t:Int)(st:List AV×List AV):List AV×List AV:=
 bif wH t st.2 then
  (bif((ib st.1 y).length:Int)==0 then st else
   (wx st.1 (eo st.1 nx (jj (uc st.1 y t)) (gT (uc st.1 y t)) (cW (uc st.1 y t)) false).1.toNat (cW (uc st.1 y t)),st.2++[sR (uc st.1 y t)]))
 else(p9 st.1 (eo st.1 nx (jj (st.2.getD 0 .J)) (gT (st.2.getD 0 .J)) (cW (st.2.getD 0 .J)) true).1.toNat (cW (st.2.getD 0 .J)) (hY t (cW (st.2.getD 0 .J)).length) y,st.2.drop 1)
def mI(nx:Int):List AV->Nat->List AV×List AV->Bool×((List AV×List AV)×Nat)
 |[],y,st=>(false,(st,y))
 |t::ae,y,st=>bif !ef (aW t) 0 1000 then(true,(st,y))else mI nx ae (y+1) (AO nx y (aW t) st)
structure oH(nx:Int)(y:Nat)(st:List AV×List AV):Prop where
 q:oF st.1 nx
 Lt:y<=40
 Dg:st.2.length<=y
 AP:∀a∈st.2,a=sR a/\(cW a).length<=4
 uL:∀a∈st.2,(eo st.1 nx (jj a) (gT a) (cW a) true).2.1=0
 eK:st.2.Pairwise λa b=>¬(jj a=jj b/\gT a=gT b)
 yp:∀d,e4 st.1 d<=2
structure Dh(nx:Int)(es:List AV)(i:Nat):Prop where
 Di:FJ (es.getD i .J)=0
 lo:pT es i<aW (es.getD i .J)
 hi:aW (es.getD i .J)<nx
 AQ:eG (fA (es.getD i .J))=true
 yq:eG (iW (es.getD i .J))=true
 t0:0<=hK (es.getD i .J)
 t1:hK (es.getD i .J)<=1000000
 wt:jV (eP (es.getD i .J)) (bL (es.getD i .J))=true
theorem asw(h:qH nx es i=0):Dh nx es i:=by
 unfold qH at h;cases af:FJ (es.getD i .J)!=0
 .rw[af]at h;simp only[cU]at h;by_cases ao:aW (es.getD i .J)<=pT es i
  .grind
  by_cases a1:aW (es.getD i .J)>=nx
  .grind
  rw[cZ ao,cZ a1]at h;simp only[cU]at h;cases ca:(!eG (fA (es.getD i .J))||(!eG (iW (es.getD i .J))||(decide (hK (es.getD i .J)<0)||decide (hK (es.getD i .J)>1000000))))
  .rw[ca]at h;simp only[cU]at h;simp only[mM,Bb,GN]at ca;cases dA:jV (eP (es.getD i .J)) (bL (es.getD i .J))
   .grind
   .exact⟨yr af,al,al,ca.1,ca.2.1,al,al,dA⟩
  grind
 grind
theorem asx(h:Dh nx es i):qH nx es i=0:=by
 unfold qH;have ca:(!eG (fA (es.getD i .J))||(!eG (iW (es.getD i .J))||(decide (hK (es.getD i .J)<0)||decide (hK (es.getD i .J)>1000000))))=false:=by rw[h.AQ,h.yq,cZ (by have:=h.t0;omega),cZ (by have:=h.t1;omega)];rfl
 rw[h.Di,cZ (by have:=h.lo;omega),cZ (by have:=h.hi;omega),ca,h.wt];rfl
theorem asy(h:(iX es nx).1=0):es.length<=20/\0<=nx/\nx<=1000000/\∀i,i<es.length->Dh nx es i:=by
 unfold iX at h;by_cases af:(es.length:Int)>20
 .grind
 by_cases ao:nx<0
 .grind
 by_cases a1:nx>1000000
 .grind
 rw[cZ af,cZ ao,cZ a1]at h;simp only[cU]at h;refine⟨al,al,al,λi hi=>asw ?_⟩;cases aH:CP nx es with
 |none=>have dA:=tK aH i (iM _) hi;exact yr dA
 |some q=>rw[aH]at h;have dA:=(sA aH).2.2.1;grind[qH,tO,absurd,decide]
theorem asz(af:es.length<=20)(ao:0<=nx)(a1:nx<=1000000)(h:∀i,i<es.length->Dh nx es i):iX es nx=(0,0):=by grind[iX,CP,Jq,tO,asx,decide_eq_false]
structure adj(es:List AV)(x:Int)(d:List UInt8)(ae:List AV)(on:Bool)(q:Nat):Prop where
 id:rC es x=some q
 ne:0<ae.length
 le:ae.length<=(bL (es.getD q .J)).length
 ok:∀i,i<ae.length->pU (bL (es.getD q .J)) d on ae ae i=0
theorem adk(ar:(iX es nx).1=0)(h:(eo es nx x d ae on).2.1=0):∃q:Nat,(eo es nx x d ae on).1=q/\adj es x d ae on q:=by
 have jN:((iX es nx).1 !=0)=false:=by rw[ar];rfl
 unfold eo at h⊢;rw[jN]at h⊢;simp only[cU]at h⊢;cases aH:rC es x with
 |none=>grind
 |some q=>
  rw[aH]at h;simp only[]at h⊢;cases af:((ae.length:Int)==0||decide ((ae.length:Int)>((bL (es.getD q .J)).length:Int)))
  .rw[af]at h;simp only[cU]at h⊢;cases cI:ya (bL (es.getD q .J)) d on ae with
   |none=>
    refine⟨q,rfl,?_⟩;simp only[mM,GN]at af;have ao:=af.1;refine⟨aH,?_,al,λi hi=>?_⟩
    .grind
    .have dA:=tK cI i (iM _) hi;exact yr dA
   |some i=>rw[cI]at h;have dA:=(sA cI).2.2.1;grind[pU,Ao,absurd,decide]
  grind
theorem asA(ar:(iX es nx).1=0)(h:adj es x d ae on q):eo es nx x d ae on=(((q:Nat):Int),(0,0)):=by
 have jN:((iX es nx).1 !=0)=false:=by rw[ar];rfl
 unfold eo;have cI:ya (bL (es.getD q .J)) d on ae=none:=Jq λj _ aP=>by unfold Ao;rw[h.ok j aP];rfl
 have af:((ae.length:Int)==0||decide ((ae.length:Int)>((bL (es.getD q .J)).length:Int)))=false:=by have ao:=h.ne;have a1:=h.le;rw[mM];grind
 rw[jN,h.id];grind
structure RM(ws:List AV)(d:List UInt8)(on:Bool)(ae:List AV)(i:Nat):Prop where
 lo:0<=aW (ae.getD i .J)
 hi:aW (ae.getD i .J)<ws.length
 up:0<i->aW (ae.getD (i-1) .J)<aW (ae.getD i .J)
 rK:cC (bm (ws.getD (aW (ae.getD i .J)).toNat .J))=d
 op:dC (ws.getD (aW (ae.getD i .J)).toNat .J)=0
 Gk:gl (ws.getD (aW (ae.getD i .J)).toNat .J)=on
theorem adl(h:pU ws d on ae ae i=0):RM ws d on ae i:=by
 unfold pU at h;cases af:((bif decide (aW (ae.getD i .J)<0)then true else decide (aW (ae.getD i .J)>=(ws.length:Int)))||(decide (0<i)&&decide (aW (ae.getD i .J)<=aW (ae.getD (i-1) .J))))
 .rw[af]at h;simp only[cU]at h;cases ao:(cC (bm (ws.getD (aW (ae.getD i .J)).toNat .J))==d)
  .grind
  .rw[ao]at h;cases a1:(!(dC (ws.getD (aW (ae.getD i .J)).toNat .J)==0))||(!(gl (ws.getD (aW (ae.getD i .J)).toNat .J)==on))
   .rw[mM]at af a1;obtain⟨bJ,a2⟩:=af;obtain⟨eO,eW⟩:=a1;have l0:0<=aW (ae.getD i .J):=by
      by_cases aa:aW (ae.getD i .J)<0
      .rw[aS aa]at bJ;cases bJ
      .omega
    rw[cZ al]at bJ;have b1:=yJ bJ;refine⟨l0,al,λhi=>?_,vt,by simpa using eO,by simpa using eW⟩;grind
   grind
 grind
theorem asB(h:RM ws d on ae i):pU ws d on ae ae i=0:=by
 unfold pU;have af:=h.lo;have ao:=h.hi;have a1:(decide (0<i)&&decide (aW (ae.getD i .J)<=aW (ae.getD (i-1) .J)))=false:=by
  by_cases hi:0<i
  .have:=h.up hi;grind
  grind
 have ca:(cC (bm (ws.getD (aW (ae.getD i .J)).toNat .J))==d)=true:=by rw[h.rK];exact ha d
 rw[cZ al,cZ al,a1,ca,h.op,h.Gk];cases on<;>rfl
theorem adm(s:List UInt8):rB s=cC s:=by
 have ag:∀i c:Nat,s[i]?=some (UInt8.ofNat 64)->nR s i=true:=λi _ h=>by simp_all[nR,b8]
 have hy:∀i,i<s.length->nR s i=true->s[i]?=some (64:UInt8):=λi hi h=>by unfold nR b8 at h;rw[List.getD,fC hi]at h;rw[fC hi];have af:((s[i].toNat:Nat):Int)=64:=qT;have ao:s[i].toNat=64:=al;congr 1;exact UInt8.toNat_inj.1 ao
 unfold rB cC uT CA;have hi:jJ s 64=Lib.indexByte s 64:=rfl;rw[hi];rcases Int.lt_or_le (Lib.indexByte s 64) 0 with h|h
 .have af:Lib.indexByte s 64= -1:=by
    have:=Lib.indexByte_ge s 64;omega
  grind[bx,nR,Jq,Lib.indexByte_none,hL]
 .obtain⟨o,aw⟩:∃o:Nat,Lib.indexByte s 64=o:=⟨_,(L3 h).symm⟩;obtain⟨af,ao⟩:=Lib.indexByte_some aw;have x4:o<s.length:=by
    rcases Bc o s.length with a1|a1
    .exact a1
    .rw[GI a1]at af;cases af
  have aJ:hL s=o:=by
   unfold hL;cases aH:bx (nR s) s.length 0 with
   |none=>exact absurd (ag o 0 af) (by rw[tK aH o (iM _) x4];decide)
   |some q=>
    obtain⟨_,cO,mR,Eg⟩:=sA aH;show q=o;rcases Nat.lt_trichotomy q o with dA|dA|dA
    .grind
    .exact dA
    .exact absurd (ag o 0 af) bM
  grind
def adn{a:List UInt8}{x:AV}(h:c9 (.str a) x=true):x=.str a:=by
 cases x with
 |str b=>rw[ic (show(a==b)=true from h)]
 |_=>cases h
theorem ado{y:AV}(h:c9 (jh x d) y=true):y=jh x d:=by unfold jh at h⊢;unfold c9 at h;grind
def adp(k cl v:AV):∀es:List AV,dq k (es++[.tup [cl,v]])=(dq k es||c9 k cl)
 |[]=>by show(c9 k cl||false)=(false||c9 k cl);cases c9 k cl<;>rfl
 |e::es=>by show(c9 k (eL e)||dq k (es++[.tup [cl,v]]))=((c9 k (eL e)||dq k es)||c9 k cl);rw[adp,Bool.or_assoc]
theorem adq(k cl v:AV):∀es:List AV,gj k (es++[.tup [cl,v]])=bif dq k es then gj k es else bif c9 k cl then v else .J
 |[]=>by rfl
 |e::es=>by show(bif c9 k (eL e)then xi e else gj k (es++[.tup [cl,v]]))=bif c9 k (eL e)||dq k es then(bif c9 k (eL e)then xi e else gj k es)else _;rw[adq];grind
def adr(k v:AV):∀(es:List AV)(n:Nat),dq k (lK v es n)=dq k es
 |[],_=>rfl
 |_::_,0=>rfl
 |e::es,n+1=>by show(c9 k (eL e)||dq k (lK v es n))=(c9 k (eL e)||dq k es);rw[adr]
def vd(k:AV):Prop:=∀x,c9 k x=true->x=k
theorem ads{k cl:AV}(ai:vd cl)(h:c9 k cl=true):∀{es:List AV},dq cl es=true->dq k es=true
 |e::es,af=>by
  have ao:(c9 cl (eL e)||dq cl es)=true:=af;show(c9 k (eL e)||dq k es)=true;rw[nr]at ao⊢;rcases ao with ao|ao
  .left;rw[ai _ ao];exact h
  .right;exact ads ai h ao
theorem adt{k cl:AV}(ai:vd cl)(v:AV)(es:List AV):dq k (gG cl v es)=(dq k es||c9 k cl):=by
 unfold gG;cases h:dq cl es
 .exact adp k cl v es
 .show dq k (lK v es _)=_;rw[adr];cases af:c9 k cl
  .rw[GK]
  grind[ads]
theorem adu{k cl:AV}(ai:vd cl)(gr:vd k)(v:AV):∀{es:List AV},dq cl es=true->gj k (lK v es (pB cl es))=bif c9 k cl then v else gj k es
 |e::es,af=>by
  have ao:(c9 cl (eL e)||dq cl es)=true:=af;show gj k (lK v (e::es) (bif c9 cl (eL e)then 0 else pB cl es+1))=bif c9 k cl then v else(bif c9 k (eL e)then xi e else gj k es);cases a1:c9 cl (eL e)
  .rw[a1,qS]at ao;show(bif c9 k (eL e)then xi e else gj k (lK v es (pB cl es)))=_;rw[adu ai gr v ao];cases ca:c9 k cl
   .rfl
   .cases dA:c9 k (eL e)
    .rfl
    .rw[gr _ ca,gr _ dA]at a1;rw[gr _ ca]at ca;grind
  .show(bif c9 k (eL e)then v else gj k es)=_;rw[ai _ a1];cases c9 k cl<;>rfl
theorem Lu{k cl:AV}(ai:vd cl)(gr:vd k)(v:AV)(es:List AV)(a7:c9 k cl=true\/dq k es=true):gj k (gG cl v es)=bif c9 k cl then v else gj k es:=by
 unfold gG;cases h:dq cl es
 .show gj k (es++_)=_;rw[adq];cases af:c9 k cl
  .grind
  .rw[gr _ af]at h;rw[h];rfl
 grind[adu]
theorem RN(d eZ:List UInt8)(n:Int)(ms:List AV):ht d (gG (.str eZ) (.int .i64 n) ms)=bif d==eZ then n else ht d ms:=by
 unfold ht;have gM:vd (.str eZ):=λx h=>adn h;have kW:vd (.str d):=λx h=>adn h;have ai:c9 (.str d) (.str eZ)=(d==eZ):=rfl;rw[adt gM,ai];cases aX:d==eZ
 .rw[GK];cases hh:dq (.str d) ms
  .rfl
  simp_all[b4,cU,Lu]
 .rw[Bool.or_true];simp only[b4];rw[Lu gM kW _ _ (.inl (ai.trans aX)),ai,aX];rfl
def asC(x gH:Int)(d eZ:List UInt8):c9 (jh x d) (jh gH eZ)=(x==gH&&d==eZ):=by unfold jh c9;simp
theorem asD(x gH:Int)(d eZ:List UInt8)(us:List AV):mF (jh x d) (gG (jh gH eZ) (.bool true) us)=((x==gH&&d==eZ)||mF (jh x d) us):=by
 unfold mF;have gM:vd (jh gH eZ):=λ_ h=>ado h;have kW:vd (jh x d):=λ_ h=>ado h;have ai:=asC x gH d eZ;rw[adt gM,ai];cases aX:(x==gH&&d==eZ)
 .rw[GK];cases hh:dq (jh x d) us
  .rfl
  simp_all[b4,qS,Lu]
 .rw[Bool.or_true];simp only[b4,DA];rw[Lu gM kW _ _ (.inl (ai.trans aX)),ai,aX];rfl
def jl(ws:List AV)(d:List UInt8):Bool:=ws.any λw=>gl w&&cC (bm w)==d
theorem RO(ws:List AV)(d:List UInt8):va ws d=jl ws d:=by
 unfold va jl;cases aH:bx (wD ws d) ws.length 0 with
 |none=>
  symm
  rw[Option.isSome_none,A2];intro w hw;obtain⟨i,hi,rfl⟩:=vj hw;have a1:=tK aH i (iM _) hi;grind[wD,List.getD,List.getElem?_eq_getElem,adm]
 |some q=>
  symm
  obtain⟨_,cO,mR,_⟩:=sA aH;rw[Option.isSome_some,Dx];grind[List.getD,List.getElem?_eq_getElem,List.getElem_mem,wD,adm]
structure Gl(x:Int)(wp:List AV)(cR st:List AV×List AV):Prop where
 un:∀y d,mF (jh y d) st.2=(mF (jh y d) cR.2||(y==x&&jl wp d))
 rW:∀d,ht d st.1=ht d cR.1+(bif jl wp d then 1 else 0)
theorem asE{wp:List AV}{cR:List AV×List AV}(h:Gl x wp cR st)(a7:∀d,mF (jh x d) cR.2=false)(hm:∀d,0<=ht d cR.1/\ht d cR.1<=100)(w:AV):Gl x (wp++[w]) cR (nb x st w):=by
 have ag:∀d,jl (wp++[w]) d=(jl wp d||(gl w&&cC (bm w)==d)):=λd=>by grind[jl]
 unfold nb;cases bp:gl w
 .have cp:∀d,jl (wp++[w]) d=jl wp d:=λd=>by rw[ag,bp];simp
  exact TP
 .simp only[b4];rw[bp]at ag;simp only[nk]at ag;have hu:=h.un x (cC (bm w));rw[a7,qS,ha,nk]at hu;cases aH:mF (jh x (cC (bm w))) st.2
  .rw[aH]at hu;simp only[cU];refine⟨λy d=>?_,λd=>?_⟩
   .rw[asD,h.un,ag];grind
   .have Dj:=h.rW (cC (bm w));rw[<-hu]at Dj;simp only[cU,Int.add_zero]at Dj;have v':=hm (cC (bm w));rw[RN,Dj,lT _ al al,ag,h.rW];grind
  .rw[aH]at hu;simp only[b4];have cp:∀d,jl (wp++[w]) d=jl wp d:=λd=>bM;exact TP
theorem adv{x:Int}{cR:List AV×List AV}(a7:∀d,mF (jh x d) cR.2=false)(hm:∀d,0<=ht d cR.1/\ht d cR.1<=100):∀(ws wp:List AV)(st:List AV×List AV),Gl x wp cR st->Gl x (wp++ws) cR (ws.foldl (nb x) st)
 |[],wp,st,h=>bM
 |w::ws,wp,st,h=>by have af:=adv a7 hm ws (wp++[w]) _ (asE h a7 hm w);grind
def asF(x:Int)(st:List AV×List AV):Gl x [] st st:=⟨λy d=>by show _=(_||(y==x&&false));simp,λd=>by show _=_+0;simp⟩
structure Lv(es:List AV)(st:List AV×List AV):Prop where
 un:∀x d,mF (jh x d) st.2=es.any λe=>x==aW e&&jl (bL e) d
 rW:∀d,ht d st.1=(e4 es d:Nat)
theorem adw:∀(es wI:List AV)(st:List AV×List AV),Lv wI st->(wI++es).Pairwise (λa b=>aW a≠aW b)->wI.length+es.length<=100->Lv (wI++es) (es.foldl uZ st)
 |[],wI,st,h,_,_=>bM
 |e::es,wI,st,h,au,ay=>by
  have bO:∀a∈wI,aW a≠aW e:=λa cI=>(List.pairwise_append.1 au).2.2 a cI e (vi ..);have a7:∀d,mF (jh (aW e) d) st.2=false:=λd=>by rw[h.un,A2];grind
  have hm:∀d,0<=ht d st.1/\ht d st.1<=100:=λd=>by rw[h.rW];grind[e4,List.length_filter_le,List.length_cons]
  have af:=adv a7 hm (bL e) [] st (asF _ st);rw[pj]at af;have ao:Lv (wI++[e]) (uZ st e):=by
   refine⟨λx d=>?_,λd=>?_⟩
   .show mF (jh x d) ((bL e).foldl (nb (aW e)) st).2=_;rw[af.un,h.un,List.any_append];simp
   .show ht d ((bL e).foldl (nb (aW e)) st).1=_;rw[af.rW,h.rW];grind[e4,List.length_append,RO,jl]
  have a1:=adw es (wI++[e]) (uZ st e) ao bM bM;grind
def adx(au:es.Pairwise λa b=>aW a≠aW b)(ay:es.length<=100):Lv es (hM es):=by have h:=adw es [] ([],[]) ⟨λx d=>rfl,λd=>rfl⟩ au Ha;exact h
structure Dk(e:AV):Prop where
 Di:FJ e=0
 AQ:eG (fA e)=true
 yq:eG (iW e)=true
 t0:0<=hK e
 t1:hK e<=1000000
 wt:jV (eP e) (bL e)=true
structure ph(es:List AV)(nx:Int):Prop where
 len:es.length<=20
 n0:0<=nx
 b0:nx<=1000000
 re:∀e∈es,Dk e
 lo:∀e∈es,0<=aW e
 hi:∀e∈es,aW e<nx
 up:es.Pairwise λa b=>aW a<aW b
theorem getD_eq(h:i<es.length):es.getD i .J=es[i]:=bM
theorem ve(h:i<es.length):es.getD i .J∈es:=bM
theorem sT(h:e∈es):∃i,i<es.length/\es.getD i .J=e:=by obtain⟨i,hi,rfl⟩:=vj h;exact⟨i,hi,getD_eq hi⟩
theorem RP{es:List AV}{nx:Int}(h:∀i,i<es.length->Dh nx es i):∀j i,i<j->j<es.length->aW (es.getD i .J)<aW (es.getD j .J)
 |0,_,af,_=>absurd af (Nat.not_lt_zero _)
 |j+1,i,af,ao=>by
  have a1:aW (es.getD j .J)<aW (es.getD (j+1) .J):=(h (j+1) ao).lo;rcases Bc i j with ca|ca
  .have:=RP h j i ca al;omega
  grind
def asG(h:∀i,i<es.length->Dh nx es i)(i:Nat)(hi:i<es.length):0<=aW (es.getD i .J):=by
 have a7:(-1:Int)<aW (es.getD 0 .J):=(h 0 al).lo;rcases vl i with rfl|af
 .omega
 .have:=RP h i 0 af hi;omega
theorem qO(h:(iX es nx).1=0):ph es nx:=by
 obtain⟨af,ao,a1,ca⟩:=asy h;refine⟨af,ao,a1,λe he=>?_,λe he=>?_,λe he=>?_,?_⟩
 .obtain⟨i,hi,rfl⟩:=sT he;exact⟨(ca i hi).Di,(ca i hi).AQ,(ca i hi).yq,(ca i hi).t0,(ca i hi).t1,(ca i hi).wt⟩
 .obtain⟨i,hi,rfl⟩:=sT he;exact asG ca i hi
 .obtain⟨i,hi,rfl⟩:=sT he;exact(ca i hi).hi
 .rw[Bd];intro i j hi aP l4;have:=RP ca j i l4 aP;grind
theorem ph.jk(h:ph es nx):(iX es nx).1=0:=by
 rw[asz h.len h.n0 h.b0 λi hi=>?_];have he:=ve hi;have ar:=h.re _ he;refine⟨ar.Di,?_,h.hi _ he,ar.AQ,ar.yq,ar.t0,ar.t1,ar.wt⟩;cases i with
 |zero=>have:=h.lo _ he;show(-1:Int)<_;omega
 |succ i=>have au:=Bd.1 h.up i (i+1) al hi al;show aW (es.getD i .J)<aW (es.getD (i+1) .J);grind
def ph.ne(h:ph es nx):es.Pairwise λa b=>aW a≠aW b:=h.up.imp λh=>al
def ph.sub{f':List AV}(h:ph es nx)(an:f'.Sublist es):ph f' nx:=⟨lp an.length_le h.len,h.n0,h.b0,λe he=>h.re e (an.subset he),λe he=>h.lo e (an.subset he),λe he=>h.hi e (an.subset he),h.up.sublist an⟩
def mem_set{x:AV}(h:x∈es.set q e'):x∈es\/x=e':=L2 h
theorem ph.set(h:ph es nx)(aH:q<es.length)(hi:aW e'=aW (es.getD q .J))(ar:Dk e'):ph (es.set q e') nx:=by
 have hm:=ve aH;refine⟨by rw[oJ];exact h.len,h.n0,h.b0,λe he=>?_,λe he=>?_,λe he=>?_,?_⟩
 .rcases mem_set he with he|rfl
  .exact h.re e he
  .exact ar
 .rcases mem_set he with he|rfl
  .exact h.lo e he
  .rw[hi];exact h.lo _ hm
 .rcases mem_set he with he|rfl
  .exact h.hi e he
  .rw[hi];exact h.hi _ hm
 .rw[Bd];intro i j eC qh l4;rw[oJ]at eC qh;have au:=Bd.1 h.up i j eC qh l4;grind
theorem ph.snoc(h:ph es nx)(hi:aW e'=nx)(ar:Dk e')(ay:es.length<=19)(aJ:nx<1000000):ph (es++[e']) (nx+1):=by
 have a7:=h.n0;refine⟨bM,al,al,λe he=>?_,λe he=>?_,λe he=>?_,?_⟩
 .rcases gD.1 he with he|he
  .exact h.re e he
  grind
 .rcases gD.1 he with he|he
  .exact h.lo e he
  grind
 .rcases gD.1 he with he|he
  .have:=h.hi e he;omega
  grind
 .rw[List.pairwise_append];refine⟨h.up,List.pairwise_singleton _ _,λa cI b ag=>?_⟩;rw[oM.1 ag,hi];exact h.hi a cI
def RQ(h:rC es x=some q):q<es.length/\aW (es.getD q .J)=x:=by obtain⟨_,ao,a1,_⟩:=sA h;exact⟨ao,ic a1⟩
theorem RR(au:es.Pairwise λa b=>aW a<aW b)(aH:q<es.length):rC es (aW (es.getD q .J))=some q:=by
 cases h:rC es (aW (es.getD q .J))with
 |none=>have af:=tK h q (iM _) aH;simp_all[CR,ha]
 |some r=>
  obtain⟨ao,a1⟩:=RQ h;congr 1;rcases Nat.lt_trichotomy r q with ca|ca|ca
  .have:=Bd.1 au r q ao aH ca;grind
  .exact ca
  .have:=Bd.1 au q r aH ao ca;grind
structure AR(ae ws:List AV):Prop where
 len:ae.length=ws.length
 s:∀i,i<ws.length->bm (ws.getD i .J)=bm (ae.getD i .J)
 n:∀i,i<ws.length->iw (ws.getD i .J)=iw (ae.getD i .J)
 r:∀i,i<ws.length->dC (ws.getD i .J)=0\/dC (ws.getD i .J)=1\/dC (ws.getD i .J)=3
 z:∀i,i<ws.length->gl (ws.getD i .J)=true->dC (ws.getD i .J)=0
 o:∃i,i<ws.length/\dC (ws.getD i .J)=0
theorem asH{n:Int}(h:(n !=0&&(n !=1&&n !=3))=false):n=0\/n=1\/n=3:=bM
theorem ady(h:jV ae ws=true):AR ae ws:=by
 unfold jV at h;simp only[ba,fD,jZ]at h;obtain⟨af,ao,a1⟩:=h;have aJ:bx (nQ ae ws) ws.length 0=none:=by
  cases aH:bx (nQ ae ws) ws.length 0 with
  |none=>rfl
  |some q=>rw[aH]at ao;cases ao
 have ag:∀i,i<ws.length->nQ ae ws i=false:=λi hi=>tK aJ i (iM _) hi;refine⟨af,λi hi=>?_,λi hi=>?_,λi hi=>?_,λi hi bp=>?_,?_⟩
 .have:=ag i hi;unfold nQ at this;simp only[oL,mM,Bb,ba,h0]at this;exact this.1.1
 .simp_all[nQ,oL,mM,Bb,ba,h0]
 .simp_all[nQ,mM,asH]
 .simp_all[nQ,mM,nk,yr]
 grind[opn,List.take_length,List.any_eq_true,sT]
theorem AR.wt(h:AR ae ws):jV ae ws=true:=by
 unfold jV;have aJ:bx (nQ ae ws) ws.length 0=none:=Jq λi _ hi=>by
  unfold nQ;rw[h.s i hi,h.n i hi,ha,ha];have af:(dC (ws.getD i .J)!=0&&(dC (ws.getD i .J)!=1&&dC (ws.getD i .J)!=3))=false:=by rcases h.r i hi with a|a|a<;>rw[a]<;>rfl
  have ao:(gl (ws.getD i .J)&&dC (ws.getD i .J)!=0)=false:=by
   cases bp:gl (ws.getD i .J)
   .rfl
   .rw[h.z i hi bp];rfl
  rw[af,ao];rfl
 have aw:opn ws ws.length=true:=by obtain⟨i,hi,af⟩:=h.o;unfold opn;rw[AZ,Dx];grind
 rw[aJ,aw,aS h.len];rfl
def adz:∀(es:List AV)(st:List AV×List AV),fX st=true->fX (es.foldl uZ st)=true
 |[],_,h=>h
 |e::es,st,h=>adz es _ (QJ (aW e) (bL e) h)
def adA(es:List AV):fX (hM es)=true:=adz es _ rfl
def adB(h:oH nx y st):AH st.1 nx y=true:=by have aH:=h.q;have a1:=aH.len;have aN:=h.Lt;unfold AH;refine aV (aV (aS al) aH.ua) (aV (aS al) (aV aH.sS (aV (Z' aH.wF) (aV (aS ⟨aH.len,aH.jk⟩) (aV ?_ (aV (adA _) aH.wG))))));exact aV (aS al) (aS al)
theorem adC(aQ:ef t 0 1000=true):1<=ub t/\ub t<=4:=by unfold ef at aQ;simp only[ba,fD]at aQ;grind[ub]
theorem asI(p:Int->Bool)(t:Int)(n:Nat)(h:p (ub t)=false):nT p (hY t n)=false:=by unfold nT hY;rw[A2];intro a cI;rw[List.eq_of_mem_replicate cI];show ¬p (ub t)=true;rw[h];decide
theorem asJ(h:oH nx y st)(ag:0<st.2.length)(aQ:ef t 0 1000=true):
  Dl st.1 nx (jj (st.2.getD 0 .J)) (gT (st.2.getD 0 .J)) (cW (st.2.getD 0 .J)) (hY t (cW (st.2.getD 0 .J)).length) y (eo st.1 nx (jj (st.2.getD 0 .J)) (gT (st.2.getD 0 .J)) (cW (st.2.getD 0 .J)) true).1.toNat=true:=by
 have aH:=h.q
 have a1:=aH.len
 have aN:=h.Lt
 have hm:=ve ag
 have ca:=(h.AP _ hm).2
 have ak:=h.uL _ hm
 obtain⟨q,Dm,bq⟩:=adk aH.jk ak
 obtain⟨pL,awv⟩:=RQ bq.id
 have ar:=qO aH.jk
 have he:=ve pL
 have bp:=aH.yn _ he
 have cg:=ar.re _ he
 obtain⟨v1,v2⟩:=adC aQ
 unfold Dl
 rw[Dm,bK]
 refine aV (aV (aS al) (aV aH.ua (aV aH.sS (aS al)))) (aV aH.vb (aV (mN ⟨pL,a1,ak,rfl,?_,al,al,cg.t0,cg.t1⟩) (aV ?_ (aV ?_ (aV cg.AQ ?_)))))
 .grind[hY]
 .grind[asI,nd]
 .exact aV (aS al) (aS al)
 .rw[ec];intro b' pD;obtain⟨i,hi,rfl⟩:=sT pD;have aa:=adl (bq.ok i hi);exact ie aa.lo aa.hi
def asK(h:Ls es)(d:List UInt8):e4 es d=0:=by unfold e4;rw[List.length_eq_zero_iff,List.filter_eq_nil_iff];intro e he;rw[RO];unfold jl;rw[DG,A2];intro w hw;rw[h e he w hw];simp
def asL{st:yo}(h:pY st 0):oH st.2.1 0 (st.1,[]) where
 q:=h.q
 Lt:=gn
 Dg:=iM _
 AP:=λ_ h=>cM
 uL:=λ_ h=>cM
 eK:=List.Pairwise.nil
 yp:=λd=>by rw[asK h.z];decide
structure asM(g:AV):Prop where
 o:Ay (fZ g) (ev g) (fS g) (fT g) (fw g)=true
 t4:(ev g).length<=4
 Ae:(fT g).length<=60
 RS:(fw g).length<=12000
 bp:(fT g).all sL=true
 re:(qL (fZ g) (ev g) (fS g)).1=0
theorem RT{g:AV}(aB:jv g=true)(ag:pZ g=false):asM g:=by
 unfold jv vc Av C2 at aB;simp only[ba,fD]at aB;obtain⟨⟨⟨bJ,a2,a3,a4⟩,a5,CM,Kl⟩,Zw,a9⟩:=aB;unfold pZ at ag;rw[mM,mM]at ag;obtain⟨eO,eW,kq⟩:=ag;have aR:(tR (fZ g) (ev g) (fS g) (fT g) (fw g)).1=0:=yr eO;have bp:=adD aR;rw[ba,fD]at bp;have eW:=yJ eW;refine⟨?_,al,bp.1.1,bp.1.2,bp.2,?_⟩
 .grind[Ay]
 grind[tR]
def adE{st:yo}{m:Nat}(h:pY st (m+1)){g:AV}(aB:jv g=true)(ag:pZ g=false):yj st.1 st.2.1 (fZ g) (ev g) (fS g) (fT g) (fw g) 0=true:=by have hm:=RT aB ag;have aH:=h.q;have a1:=aH.len;have aJ:=h.nx;have aw:=hm.o;unfold Ay at aw;unfold yj;refine aV (aV (aS al) aH.ua) (aV aw (aV gn (aV (aS ⟨a1,aH.jk,al,aH.oG⟩) (aV aH.vb ?_))));exact aV (aS (by have:=hm.t4;omega)) (aV (aS (by have:=hm.Ae;omega)) (aS (by have:=hm.RS;omega)))
def Lw{n a b:Int}(h:ef n a b=true):a<=n/\n<=b:=by unfold ef at h;simpa using h
theorem asN{s:List UInt8}(h:yf s=true):s.length<=60:=by unfold yf at h;rw[ba]at h;have:=Lw h.2;omega
theorem adF{s:List UInt8}(h:qK s=true):s.length<=200:=by unfold qK at h;simp only[ba,fD]at h;obtain⟨_,af,ao,a1⟩:=h;unfold F8 at a1;rw[ba]at a1;have a:=Lw af;have b:=Lw a1.2;grind
theorem adG{f:List UInt8}(h:(qL f ae d).1=0):f.length<=200/\d.length<=60/\1<=ae.length/\ae.length<=60/\ae.all u2=true:=by
 unfold qL at h;cases af:f !=[]&& !qK f
 .rw[af]at h;simp only[cU]at h;cases ao:ef (ae.length:Int) 1 60
  .grind
  .rw[ao]at h;simp only[lY,cU]at h;cases a1:d !=[]&& !yf d
   .rw[a1]at h;simp only[cU]at h;have a2:=Lw ao;have cn:∀i,i<ae.length->ye ae i=0:=by
      cases aH:bx (wy ae) ae.length 0 with
      |none=>exactλi hi=>yr (tK aH i (iM _) hi)
      |some q=>exfalso;have ca:=(sA aH).2.2.1;grind[KR,wy]
    refine⟨?_,?_,al,al,?_⟩
    .grind[adF]
    .grind[asN]
    .rw[ec];intro r aD;obtain⟨i,hi,rfl⟩:=sT aD;have ca:=cn i hi;unfold ye at ca;cases cI:qK (bm (ae.getD i .J))
     .grind
     .have:=adF cI;exact aS al
   grind
 grind
def adH{st:yo}{m:Nat}(h:pY st (m+1)){g:AV}(aB:jv g=true)(ag:pZ g=false):vf st.2.2.1 0 (fZ g) (ev g) (fS g) (fT g) (fw g)=true:=by have hm:=RT aB ag;obtain⟨aU,bc,bw,bQ,bN⟩:=adG hm.re;unfold vf;refine aV (aV gn hm.o) (aV (aS h.log) ?_);rw[nr];right;unfold u4;exact aV (aS ⟨al,al,bQ,hm.Ae,hm.RS⟩) (aV bN hm.bp)
def Gm(h:∀e∈es,bZ e=e):es.map bZ=es:=by
 conv=>rhs;rw[<-A' es]
 exact p5 h
theorem Lx{p:AV->Bool}(h:es.all p=true)(h':p e=true):(es++[e]).all p=true:=bM
def asO(h:1<=ae.length):jV ae (ae.map pz)=true:=by
 have aB:∀i,i<(ae.map pz).length->(ae.map pz).getD i .J=pz (ae.getD i .J):=λi hi=>bM;refine AR.wt ⟨(g' ..).symm,λi hi=>?_,λi hi=>?_,λi hi=>?_,λi hi bp=>?_,⟨0,bM,?_⟩⟩
 .rw[aB i hi];rfl
 .rw[aB i hi];rfl
 .rw[aB i hi];exact .inl rfl
 .rw[aB i hi];rfl
 .rw[aB 0 bM];rfl
def afg(h:ae.all eh=true):(ae.map pz).all eh=true:=by rw[List.all_map];exact h
theorem RU{st:yo}{m:Nat}(h:pY st (m+1)){g:AV}(aB:jv g=true)(ag:pZ g=false):pY (pf st g) m:=by
 have hm:=RT aB ag;obtain⟨aU,bc,bw,bQ,bN⟩:=adG hm.re;have aH:=h.q;have hlen:=h.len;have aJ:=h.nx;have adI:(pg st.2.2.1 0 (fZ g) (ev g) (fS g) (fT g) (fw g)).1.length<=200000:=by
  unfold pg;cases(iU (fZ g) (ev g) (fS g) (fT g) (fw g)).1 !=0
  .grind
  .exact iM _
 cases aa:(iU (fZ g) (ev g) (fS g) (fT g) (fw g)).1 !=0
 .have bq:lC st.1 st.2.1 (fZ g) (ev g) (fS g) (fT g) (fw g) 0=(st.1++[Gg st.2.1 (fZ g) (ev g) (fS g) (fT g) (fw g) 0],(st.2.1+1,0)):=by
    unfold lC;rw[aa,Gm aH.wF];rfl
  have aw:=hm.o;unfold Ay at aw;have jR:=aw;simp only[ba,fD]at jR;obtain⟨⟨fY,kD,uq,pR⟩,pS,x5,Ke⟩:=jR;have hw:small (ev g).length=true:=kD;have asP:=(qO aH.jk).snoc (e':=Gg st.2.1 (fZ g) (ev g) (fS g) (fT g) (fw g) 0) rfl ⟨yr aa,show eG 0=true by decide,show eG 0=true by decide,show(0:Int)<=0 by decide,show(0:Int)<=1000000 by decide,asO bw⟩ al al;have r':((ev g).map pz).length=(ev g).length:=g' ..;have aww:=hm.t4;refine⟨?_,?_,?_,?_,adI⟩
  .show oF (lC st.1 st.2.1 (fZ g) (ev g) (fS g) (fT g) (fw g) 0).1 (lC st.1 st.2.1 (fZ g) (ev g) (fS g) (fT g) (fw g) 0).2.1;rw[bq];refine⟨?_,?_,Lx aH.ua ?_,Lx aH.sS ?_,Lx aH.vb ?_,Lx aH.wG ?_,asP.jk,?_,?_,?_⟩
   .grind
   .intro e he;rcases gD.1 he with he|he
    .exact aH.wF e he
    .rw[oM.1 he];rfl
   .exact aV aw (aS S6)
   .exact TE
   .exact aV (aV (aS (by show(ev g).length<=_;omega)) (aV (aS (by have:=hm.Ae;show(fT g).length<=_;omega)) (aS (by have:=hm.RS;show(fw g).length<=_;omega)))) (aS S6)
   .exact TE
   .intro e he;rcases gD.1 he with he|he
    .exact aH.yn e he
    .rw[oM.1 he];rfl
   .have:=aH.oG;grind
   grind
  .show Ls (lC st.1 st.2.1 (fZ g) (ev g) (fS g) (fT g) (fw g) 0).1;rw[bq];intro e he w hw;rcases gD.1 he with he|he
   .exact h.z e he w hw
   .rw[oM.1 he]at hw;obtain⟨r,_,rfl⟩:=uj.1 hw;rfl
  .exact TF
  .exact TL
 .have bq:lC st.1 st.2.1 (fZ g) (ev g) (fS g) (fT g) (fw g) 0=([],(0,(iU (fZ g) (ev g) (fS g) (fT g) (fw g)).1)):=by
    unfold lC;rw[aa];rfl
  refine⟨?_,?_,?_,?_,adI⟩
  .show oF (lC st.1 st.2.1 (fZ g) (ev g) (fS g) (fT g) (fw g) 0).1 (lC st.1 st.2.1 (fZ g) (ev g) (fS g) (fT g) (fw g) 0).2.1;rw[bq];exact{len:=show 0<=3 by decide,wF:=λ_ h=>cM,ua:=rfl,sS:=rfl,vb:=rfl,wG:=rfl,jk:=rfl,yn:=λ_ h=>cM,oG:=ui _,yg:=show(0:Int)<=100 by decide}
  .show Ls (lC st.1 st.2.1 (fZ g) (ev g) (fS g) (fT g) (fw g) 0).1;rw[bq];exactλ_ h=>cM
  .exact TF
  .exact TL
def km(ae:List AV)(i:Nat):Bool:=ae.any λt=>(aW t).toNat==i
theorem Me(ws:List AV)(j i:Nat)(v:AV)(hi:i<ws.length):(ws.set j v).getD i .J=bif j==i then v else ws.getD i .J:=bM
structure wJ(ws fi:List AV)(ae:List AV):Prop where
 len:fi.length=ws.length
 s:∀i,i<ws.length->bm (fi.getD i .J)=bm (ws.getD i .J)
 n:∀i,i<ws.length->iw (fi.getD i .J)=iw (ws.getD i .J)
 r:∀i,i<ws.length->km ae i=false->dC (fi.getD i .J)=dC (ws.getD i .J)
 z:∀i,i<ws.length->km ae i=false->gl (fi.getD i .J)=gl (ws.getD i .J)
theorem adJ:∀(ae ws:List AV),wJ ws (ae.foldl rE ws) ae/\(∀i,i<ws.length->km ae i=true->gl ((ae.foldl rE ws).getD i .J)=true)/\(∀i,i<ws.length->dC ((ae.foldl rE ws).getD i .J)=dC (ws.getD i .J))/\(∀i,i<ws.length->gl (ws.getD i .J)=true->gl ((ae.foldl rE ws).getD i .J)=true)
 |[],ws=>⟨⟨rfl,λ_ _=>rfl,λ_ _=>rfl,λ_ _ _=>rfl,λ_ _ _=>rfl⟩,λ_ _ h=>cM,λ_ _=>rfl,λ_ _ h=>h⟩
 |t::ae,ws=>by
  obtain⟨af,ao,a1,ca⟩:=adJ ae (rE ws t);have ay:=anT ws t;have aB:∀i,i<ws.length->(rE ws t).getD i .J=bif(aW t).toNat==i then Z2 (ws.getD (aW t).toNat .J)else ws.getD i .J:=λi hi=>Me ws _ i _ hi;have aa:∀i,km (t::ae) i=((aW t).toNat==i||km ae i):=λi=>rfl;refine⟨⟨af.len.trans ay,λi hi=>?_,λi hi=>?_,λi hi aJ=>?_,λi hi aJ=>?_⟩,λi hi aJ=>?_,λi hi=>?_,λi hi bp=>?_⟩
  .rw[jw,af.s i s4,aB i hi];cases he:(aW t).toNat==i
   .rfl
   .rw[ic he];rfl
  .rw[jw,af.n i s4,aB i hi];cases he:(aW t).toNat==i
   .rfl
   .rw[ic he];rfl
  .grind
  .rw[aa,mM]at aJ;rw[jw,af.z i s4 aJ.2,aB i hi,aJ.1];rfl
  .rw[aa]at aJ;rw[jw];cases he:(aW t).toNat==i
   .grind
   .refine ca i s4 ?_;rw[aB i hi,he];rfl
  .rw[jw,a1 i s4,aB i hi];cases he:(aW t).toNat==i
   .rfl
   .rw[ic he];rfl
  .rw[jw];refine ca i s4 ?_;rw[aB i hi];cases(aW t).toNat==i
   .exact bp
   .rfl
theorem adK(dT:Bool)(x:Int){v:Int}(ar:1<=v/\v<=4):∀(ae ws out:List AV)(n:Nat),n=ae.length->
  wJ ws (hZ dT x ae (List.replicate n (.int .i64 v)) (ws,out)).1 ae/\(∀i,i<ws.length->km ae i=true->gl ((hZ dT x ae (List.replicate n (.int .i64 v)) (ws,out)).1.getD i .J)=false)/\
  (∀i,i<ws.length->dC ((hZ dT x ae (List.replicate n (.int .i64 v)) (ws,out)).1.getD i .J)=dC (ws.getD i .J)\/dC ((hZ dT x ae (List.replicate n (.int .i64 v)) (ws,out)).1.getD i .J)=1\/dC ((hZ dT x ae (List.replicate n (.int .i64 v)) (ws,out)).1.getD i .J)=3)/\
  (∀i,i<ws.length->gl (ws.getD i .J)=false->gl ((hZ dT x ae (List.replicate n (.int .i64 v)) (ws,out)).1.getD i .J)=false)
 |[],ws,out,n,aJ=>by subst aJ;exact⟨⟨rfl,λ_ _=>rfl,λ_ _=>rfl,λ_ _ _=>rfl,λ_ _ _=>rfl⟩,λ_ _ h=>cM,λ_ _=>.inl rfl,λ_ _ h=>h⟩
 |t::ae,ws,out,n,aJ=>by
  subst aJ;have xa:List.replicate (t::ae).length (AV.int .i64 v)=.int .i64 v::List.replicate ae.length (.int .i64 v):=rfl;rw[xa];have fx:hZ dT x (t::ae) (.int .i64 v::List.replicate ae.length (.int .i64 v)) (ws,out)=hZ dT x ae (List.replicate ae.length (.int .i64 v)) ((ni dT x (aW t) v (ws,out)).1,(ni dT x (aW t) v (ws,out)).2):=rfl;rw[fx];obtain⟨af,ao,a1,ca⟩:=adK dT x ar ae (ni dT x (aW t) v (ws,out)).1 (ni dT x (aW t) v (ws,out)).2 ae.length rfl;have ay:(ni dT x (aW t) v (ws,out)).1.length=ws.length:=adL dT x _ _ _;generalize hZ dT x ae (List.replicate ae.length (.int .i64 v)) ((ni dT x (aW t) v (ws,out)).1,(ni dT x (aW t) v (ws,out)).2)=R at af ao a1 ca⊢;have aB:∀i,i<ws.length->((ni dT x (aW t) v (ws,out)).1).getD i .J=bif(aW t).toNat==i then(bif hg v&&dT then Gn (ws.getD (aW t).toNat .J)else adM (bif hg v then 3 else v) (Gn (ws.getD (aW t).toNat .J)))else ws.getD i .J:=λi hi=>by grind[ni]
  have aa:∀i,km (t::ae) i=((aW t).toNat==i||km ae i):=λi=>rfl;have bp:∀i,i<ws.length->(aW t).toNat=i->gl (((ni dT x (aW t) v (ws,out)).1).getD i .J)=false:=λi hi he=>by rw[aB i hi,he,ha];cases hg v&&dT<;>rfl
  refine⟨⟨af.len.trans ay,λi hi=>?_,λi hi=>?_,λi hi aJ=>?_,λi hi aJ=>?_⟩,λi hi aJ=>?_,λi hi=>?_,λi hi aJ=>?_⟩
  .rw[af.s i s4,aB i hi];cases he:(aW t).toNat==i
   .rfl
   .rw[ic he];cases hg v&&dT<;>rfl
  .rw[af.n i s4,aB i hi];cases he:(aW t).toNat==i
   .rfl
   .rw[ic he];cases hg v&&dT<;>rfl
  .rw[aa,mM]at aJ;rw[af.r i s4 aJ.2,aB i hi,aJ.1];rfl
  .rw[aa,mM]at aJ;rw[af.z i s4 aJ.2,aB i hi,aJ.1];rfl
  .grind
  .have aD:=a1 i s4;have mw:dC (((ni dT x (aW t) v (ws,out)).1).getD i .J)=dC (ws.getD i .J)\/dC (((ni dT x (aW t) v (ws,out)).1).getD i .J)=1\/dC (((ni dT x (aW t) v (ws,out)).1).getD i .J)=3:=by
     rw[aB i hi];cases he:(aW t).toNat==i
     .exact .inl rfl
     .rw[ic he];cases aH:hg v&&dT
      .show(bif hg v then 3 else v)=_\/(bif hg v then 3 else v)=1\/(bif hg v then 3 else v)=3;grind[hg]
      .exact .inl rfl
   omega
  grind
def wJ.eh(h:wJ ws fi ae)(an:ws.all eh=true):fi.all eh=true:=by rw[ec]at an⊢;intro w hw;obtain⟨i,hi,rfl⟩:=sT hw;rw[h.len]at hi;unfold Go.Proofs.YtijdnecnjenleaaGreatDoor.eh;rw[h.s i hi];exact an _ (ve hi)
structure qP(e:AV)(d:List UInt8)(ae:List AV)(on:Bool):Prop where
 ne:0<ae.length
 le:ae.length<=(bL e).length
 ok:∀i,i<ae.length->RM (bL e) d on ae i
def Gp(ar:(iX es nx).1=0)(h:(eo es nx x d ae on).2.1=0):∃q:Nat,q<es.length/\(eo es nx x d ae on).1=q/\aW (es.getD q .J)=x/\qP (es.getD q .J) d ae on:=by obtain⟨q,af,bq⟩:=adk ar h;obtain⟨ao,a1⟩:=RQ bq.id;exact⟨q,ao,af,a1,bq.ne,bq.le,λi hi=>adl (bq.ok i hi)⟩
theorem ys(ar:ph es nx)(aH:q<es.length)(h:qP (es.getD q .J) d ae on):eo es nx (aW (es.getD q .J)) d ae on=(((q:Nat):Int),(0,0)):=asA ar.jk ⟨RR ar.up aH,h.ne,h.le,λi hi=>asB (h.ok i hi)⟩
def qP.km(h:qP e d ae on)(hi:km ae i=true):i<(bL e).length/\cC (bm ((bL e).getD i .J))=d/\dC ((bL e).getD i .J)=0/\gl ((bL e).getD i .J)=on:=by unfold Go.Proofs.YtijdnecnjenleaaGreatDoor.km at hi;rw[Dx]at hi;obtain⟨t,aQ,he⟩:=hi;obtain⟨j,aP,rfl⟩:=sT aQ;have bq:=h.ok j aP;have he:=ic he;subst he;have af:=bq.lo;have ao:=bq.hi;exact⟨al,bq.rK,bq.op,bq.Gk⟩
def qP.gJ{eZ:List UInt8}{fs:List AV}(h:qP e d ae on)(hw:wJ (bL e) (bL e') fs)(aX:∀i,i<(bL e).length->Go.Proofs.YtijdnecnjenleaaGreatDoor.km fs i=true->cC (bm ((bL e).getD i .J))=eZ)(bO:d≠eZ):qP e' d ae on:=by
 refine⟨h.ne,by rw[hw.len];exact h.le,λi hi=>?_⟩;have bq:=h.ok i hi;have af:=bq.lo;have ao:=bq.hi;have a1:(aW (ae.getD i .J)).toNat<(bL e).length:=al;have aJ:Go.Proofs.YtijdnecnjenleaaGreatDoor.km fs (aW (ae.getD i .J)).toNat=false:=by
  cases aH:Go.Proofs.YtijdnecnjenleaaGreatDoor.km fs (aW (ae.getD i .J)).toNat
  .rfl
  .exact absurd (bq.rK.symm.trans (aX _ a1 aH)) bO
 refine⟨af,by rw[hw.len];exact ao,bq.up,?_,?_,?_⟩
 .rw[hw.s _ a1];exact bq.rK
 .rw[hw.r _ a1 aJ];exact bq.op
 .rw[hw.z _ a1 aJ];exact bq.Gk
theorem adN(a b:List AV)(d:List UInt8):e4 (a++b) d=e4 a d+e4 b d:=by grind[e4]
theorem adO(e:AV)(b:List AV)(d:List UInt8):e4 (e::b) d=(bif jl (bL e) d then 1 else 0)+e4 b d:=by grind[e4,RO]
theorem RV(aH:q<es.length):es=es.take q++es.getD q .J::es.drop (q+1):=by rw[getD_eq aH];simp
theorem RW(aH:q<es.length)(e':AV):es.set q e'=es.take q++e'::es.drop (q+1):=List.set_eq_take_append_cons_drop.trans (by rw[dE aH])
theorem adP(aH:q<es.length)(e':AV)(d:List UInt8):e4 (es.set q e') d+(bif jl (bL (es.getD q .J)) d then 1 else 0)=e4 es d+(bif jl (bL e') d then 1 else 0):=by grind[RW,RV,adN,adO]
theorem AS(ws:List AV)(d:List UInt8):jl ws d=true↔∃i,i<ws.length/\gl (ws.getD i .J)=true/\cC (bm (ws.getD i .J))=d:=by grind[jl,List.any_eq_true,sT]
def oF.set(h:oF es nx)(aH:q<es.length)(hi:aW e'=aW (es.getD q .J))(ar:Dk e')(ai:bZ e'=e')(af:mc e'=true)(ao:hX e'=true)(a1:fB e'=true)(ca:sP e'=true)(dA:fA e'=0):oF (es.set q e') nx:=by
 have cI:∀p:AV->Bool,es.all p=true->p e'=true->(es.set q e').all p=true:=λp au hJ=>bM;refine⟨by rw[oJ];exact h.len,λe he=>?_,cI _ h.ua af,cI _ h.sS ao,cI _ h.vb a1,cI _ h.wG ca,((qO h.jk).set aH hi ar).jk,λe he=>?_,h.oG,h.yg⟩
 .rcases mem_set he with he|rfl
  .exact h.wF e he
  .exact ai
 .rcases mem_set he with he|rfl
  .exact h.yn e he
  .exact dA
def oF.sub{f':List AV}(h:oF es nx)(an:f'.Sublist es):oF f' nx:=by have cI:∀p:AV->Bool,es.all p=true->f'.all p=true:=λp au=>bM;exact⟨lp an.length_le h.len,λe he=>h.wF e (an.subset he),cI _ h.ua,cI _ h.sS,cI _ h.vb,cI _ h.wG,((qO h.jk).sub an).jk,λe he=>h.yn e (an.subset he),h.oG,h.yg⟩
def adQ(h:mc e=true)(hw:wJ (bL e) fi ae):mc (lj e fi)=true:=by unfold mc at h⊢;rw[ba]at h⊢;refine⟨h.1,?_⟩;have ao:=bH h.2;exact aS GU
def adR(h:hX e=true)(hw:wJ (bL e) fi ae):hX (lj e fi)=true:=by unfold hX at h⊢;rw[ba]at h⊢;have ao:=bH h.1;exact⟨aS GU,hw.eh h.2⟩
def adS(h:fB e=true)(hw:wJ (bL e) fi ae):fB (lj e fi)=true:=by unfold fB at h⊢;rw[ba]at h⊢;have ao:=bH h.2;exact⟨h.1,aS GU⟩
def adT(h:sP e=true)(hw:wJ (bL e) fi ae):sP (lj e fi)=true:=by unfold sP at h⊢;rw[ba]at h⊢;have ao:=bH h.1;exact⟨aS GU,hw.eh h.2⟩
def asQ(h:∀e∈es,bZ e=e)(aH:q<es.length)(ae:List AV):wx es q ae=es.set q (lj (es.getD q .J) (ae.foldl rE (bL (es.getD q .J)))):=by unfold wx;rw[RW aH,Gm λe he=>h e (lr he),Gm λe he=>h e (jx he)]
theorem asR{bs:List AV}(h:oH nx y (es,bs))(aH:q<es.length)(bq:qP (es.getD q .J) d ae false)(hu:jl (bL (es.getD q .J)) d=false)(hm:e4 es d<2)(aN:y<40){a:AV}(cI:sR a=.agg [.int .i64 (aW (es.getD q .J)),.str d,.ab gm ae])(ca:ae.length<=4):
  oH nx (y+1) (wx es q ae,bs++[sR a]):=by
 have e9:oF es nx:=h.q
 have Gq:∀b∈bs,(eo es nx (jj b) (gT b) (cW b) true).2.1=0:=h.uL
 have Ly:∀e∈es,bZ e=e:=e9.wF
 obtain⟨w1,ga,iR,qG⟩:=adJ ae (bL (es.getD q .J))
 have he:=ve aH
 have cg:=(qO e9.jk).re _ he
 have kt:=ady cg.wt
 have cu:∀i,i<(bL (es.getD q .J)).length->km ae i=true->cC (bm ((bL (es.getD q .J)).getD i .J))=d:=λi _ hi=>(bq.km hi).2.1
 have tw:=asQ Ly aH ae
 generalize adU:ae.foldl rE (bL (es.getD q .J))=fi at tw w1 ga iR qG
 have RX:Dk (lj (es.getD q .J) fi):=by
  refine⟨cg.Di,cg.AQ,cg.yq,cg.t0,cg.t1,?_⟩;refine AR.wt (⟨?_,λi hi=>?_,λi hi=>?_,λi hi=>?_,λi hi bp=>?_,?_⟩:AR (eP (es.getD q .J)) fi)
  .rw[w1.len];exact kt.len
  .rw[w1.len]at hi;rw[w1.s i hi];exact kt.s i hi
  .rw[w1.len]at hi;rw[w1.n i hi];exact kt.n i hi
  .rw[w1.len]at hi;rw[iR i hi];exact kt.r i hi
  .rw[w1.len]at hi;rw[iR i hi];cases aJ:km ae i
   .rw[w1.z i hi aJ]at bp;exact kt.z i hi bp
   .exact(bq.km aJ).2.2.1
  .obtain⟨i,hi,aw⟩:=kt.o;exact⟨i,by rw[w1.len];exact hi,by rw[iR i hi];exact aw⟩
 have yt:oF (es.set q (lj (es.getD q .J) fi)) nx:=e9.set aH rfl RX rfl (adQ (ec.1 e9.ua _ he) w1) (adR (ec.1 e9.sS _ he) w1) (adS (ec.1 e9.vb _ he) w1) (adT (ec.1 e9.wG _ he) w1) (show fA (es.getD q .J)=0 from e9.yn (es.getD q .J) he)
 have jN:=qO yt.jk
 have ma:q<(es.set q (lj (es.getD q .J) fi)).length:=by rw[oJ];exact aH
 have Gr:(es.set q (lj (es.getD q .J) fi)).getD q .J=lj (es.getD q .J) fi:=S3
 have mq:qP (lj (es.getD q .J) fi) d ae true:=by
  refine⟨bq.ne,by show ae.length<=fi.length;rw[w1.len];exact bq.le,λi hi=>?_⟩;have aa:=bq.ok i hi;have af:=aa.lo;have ao:=aa.hi;have a1:(aW (ae.getD i .J)).toNat<(bL (es.getD q .J)).length:=al;refine⟨af,by show _<(fi.length:Int);rw[w1.len];exact ao,aa.up,?_,?_,?_⟩
  .show cC (bm (fi.getD _ .J))=d;rw[w1.s _ a1];exact aa.rK
  .show dC (fi.getD _ .J)=0;rw[iR _ a1];exact aa.op
  .show gl (fi.getD _ .J)=true;refine ga _ a1 ?_;unfold Go.Proofs.YtijdnecnjenleaaGreatDoor.km;rw[Dx];exact⟨_,ve hi,ha _⟩
 have ak:jj (sR a)=aW (es.getD q .J):=by rw[cI];rfl
 have zw:gT (sR a)=d:=by rw[cI];rfl
 have mm:cW (sR a)=ae:=by rw[cI];rfl
 rw[tw]
 refine⟨yt,al,?_,λb ag=>?_,λb ag=>?_,?_,λeZ=>?_⟩
 .show(bs++[sR a]).length<=y+1;have:bs.length<=y:=h.Dg;rw[fu,qR];omega
 .rcases gD.1 ag with ag|ag
  .exact h.AP b ag
  .rw[oM.1 ag];exact⟨rfl,by rw[mm];exact ca⟩
 .show(eo (es.set q (lj (es.getD q .J) fi)) nx (jj b) (gT b) (cW b) true).2.1=0;rcases gD.1 ag with ag|ag
  .obtain⟨r,r1,_,c6,nz⟩:=Gp e9.jk (Gq b ag);by_cases s6:r=q
   .subst s6;have bO:gT b≠d:=by intro gx;have wK:=nz.ok 0 nz.ne;have l5:=wK.lo;have xC:=wK.hi;have:jl (bL (es.getD r .J)) d=true:=(AS _ _).2 ⟨(aW ((cW b).getD 0 .J)).toNat,al,wK.Gk,wK.rK.trans gx⟩;rw[hu]at this;cases this
    have ai:=nz.gJ (e':=lj (es.getD r .J) fi) w1 cu bO;rw[<-c6];have:=ys jN ma (Gr.symm▸ai);rw[Gr]at this;have pO:aW (lj (es.getD r .J) fi)=aW (es.getD r .J):=rfl;rw[pO]at this;rw[this]
   .have hE:(es.set q (lj (es.getD q .J) fi)).getD r .J=es.getD r .J:=SQ;grind[ys,List.length_set]
  .rw[oM.1 ag,ak,zw,mm];have:=ys jN ma (Gr.symm▸mq);rw[Gr]at this;have pO:aW (lj (es.getD q .J) fi)=aW (es.getD q .J):=rfl;grind
 .show(bs++[sR a]).Pairwise _;rw[List.pairwise_append];refine⟨h.eK,List.pairwise_singleton _ _,λb ag c aa=>?_⟩;rw[oM.1 aa,ak,zw];rintro⟨zS,gx⟩;obtain⟨r,r1,_,c6,nz⟩:=Gp e9.jk (Gq b ag);have s6:r=q:=by have i1:=RR (qO e9.jk).up r1;have i2:=RR (qO e9.jk).up aH;rw[c6,zS,i2]at i1;grind
  subst s6;have wK:=nz.ok 0 nz.ne;have l5:=wK.lo;have xC:=wK.hi;have:jl (bL (es.getD r .J)) d=true:=(AS _ _).2 ⟨(aW ((cW b).getD 0 .J)).toNat,al,wK.Gk,wK.rK.trans gx⟩;grind
 .show e4 (es.set q (lj (es.getD q .J) fi)) eZ<=2;have ag:=adP aH (lj (es.getD q .J) fi) eZ;have ay:e4 es eZ<=2:=h.yp eZ;have asS:bL (lj (es.getD q .J) fi)=fi:=rfl;rw[asS]at ag;by_cases awx:eZ=d
  .grind
  .have ER:jl fi eZ=true->jl (bL (es.getD q .J)) eZ=true:=λbp=>by
     obtain⟨i,hi,dV,z2⟩:=(AS _ _).1 bp;rw[w1.len]at hi;rw[w1.s i hi]at z2;cases aJ:km ae i
     .rw[w1.z i hi aJ]at dV;grind[AS]
     grind
   grind
theorem adV:∀(n:Nat)(d i:Int),60<=d->60<=(me n d i).1
 |0,_,_,h=>h
 |n+1,d,i,h=>by
  unfold me;by_cases af:d<14400
  .rw[aS af];exact adV n _ _ (KT h).1
  grind
theorem asT(t:Int){y:Int}(aN:0<=y):eG (Az 0 t y)=true:=by have aX:=adV (t-1).toNat 60 1 gn;grind[yg,Az,eG]
theorem asU{u y:Int}(hu:eG u=true)(aN:0<=y):eG (AA 0 t u y)=true:=by grind[AA,asT]
theorem asV{bs:List AV}{a:AV}(h:oH nx y (es,a::bs))(aH:q<es.length)(ak:aW (es.getD q .J)=jj a)(bq:qP (es.getD q .J) (gT a) (cW a) true)(aQ:ef t 0 1000=true)(aN:y<40):
  oH nx (y+1) (p9 es q (cW a) (hY t (cW a).length) y,bs):=by
 have e9:oF es nx:=h.q
 have Gq:∀b∈a::bs,(eo es nx (jj b) (gT b) (cW b) true).2.1=0:=h.uL
 have adW:(a::bs).Pairwise λa b=>¬(jj a=jj b/\gT a=gT b):=h.eK
 have adX:∀b∈a::bs,b=sR b/\(cW b).length<=4:=h.AP
 have J5:(a::bs).length<=y:=h.Dg
 have Ly:∀e∈es,bZ e=e:=e9.wF
 have E':=qO e9.jk
 have he:=ve aH
 have cg:=E'.re _ he
 have kt:=ady cg.wt
 have nH:=e9.yn _ he
 obtain⟨w1,ga,iR,qG⟩:=adK (Gs (hY t (cW a).length) (es.getD q .J) y) (aW (es.getD q .J)) (adC aQ) (cW a) (bL (es.getD q .J)) [] (cW a).length rfl
 have cu:∀i,i<(bL (es.getD q .J)).length->km (cW a) i=true->cC (bm ((bL (es.getD q .J)).getD i .J))=gT a:=λi _ hi=>(bq.km hi).2.1
 have adU:(hZ (Gs (hY t (cW a).length) (es.getD q .J) y) (aW (es.getD q .J)) (cW a) (List.replicate (cW a).length (.int .i64 (ub t))) (bL (es.getD q .J),[])).1=(rL (cW a) (hY t (cW a).length) (es.getD q .J) y).1:=rfl
 have rM:vg (cW a) (hY t (cW a).length) (es.getD q .J) y=.agg [.int .i64 (aW (es.getD q .J)),.str (kT (es.getD q .J)),.ab eR (eP (es.getD q .J)),.str (fp (es.getD q .J)),.ab fb (ix (es.getD q .J)),.ab (.int .u8) (iV (es.getD q .J)),.int .i64 (fA (es.getD q .J)),.int .i64 (yu (hY t (cW a).length) (es.getD q .J)),.int .i64 (AT (hY t (cW a).length) (es.getD q .J) y),.ab fW (rL (cW a) (hY t (cW a).length) (es.getD q .J) y).1]:=rfl
 rw[adU]at w1 ga iR qG
 have RY:p9 es q (cW a) (hY t (cW a).length) y=if jV (eP (es.getD q .J)) (rL (cW a) (hY t (cW a).length) (es.getD q .J) y).1=true then es.set q (vg (cW a) (hY t (cW a).length) (es.getD q .J) y)else es.take q++es.drop (q+1):=by unfold p9;rw[RW aH,Gm λe he=>Ly e (lr he),Gm λe he=>Ly e (jx he)];cases jV (eP (es.getD q .J)) (rL (cW a) (hY t (cW a).length) (es.getD q .J) y).1<;>rfl
 have RZ:0<=yu (hY t (cW a).length) (es.getD q .J)/\yu (hY t (cW a).length) (es.getD q .J)<=1000000:=by
  have t0:=cg.t0;have t1:=cg.t1;unfold yu;cases nT hg (hY t (cW a).length)
  .exact⟨t0,t1⟩
  grind[tX]
 have adY:eG (AT (hY t (cW a).length) (es.getD q .J) y)=true:=by
  unfold AT;cases nT hg (hY t (cW a).length)
  .exact cg.yq
  .cases nS (fA (es.getD q .J)) y
   .exact cg.yq
   .show eG (AA (fA (es.getD q .J)) _ _ _)=true;rw[nH];exact asU cg.yq al
 generalize yu (hY t (cW a).length) (es.getD q .J)=T at rM RZ
 generalize AT (hY t (cW a).length) (es.getD q .J) y=U at rM adY
 generalize(rL (cW a) (hY t (cW a).length) (es.getD q .J) y).1=fi at rM RY w1 ga iR qG
 generalize vg (cW a) (hY t (cW a).length) (es.getD q .J) y=e' at rM RY
 have yv:(∃i,i<(bL (es.getD q .J)).length/\dC (fi.getD i .J)=0)->AR (eP (es.getD q .J)) fi:=λaw=>by
  refine⟨?_,λi hi=>?_,λi hi=>?_,λi hi=>?_,λi hi bp=>?_,?_⟩
  .rw[w1.len];exact kt.len
  .rw[w1.len]at hi;rw[w1.s i hi];exact kt.s i hi
  .rw[w1.len]at hi;rw[w1.n i hi];exact kt.n i hi
  .rw[w1.len]at hi;rcases iR i hi with dA|dA|dA
   .rw[dA];exact kt.r i hi
   .exact .inr (.inl dA)
   .exact .inr (.inr dA)
  .rw[w1.len]at hi;cases aJ:km (cW a) i
   .rw[w1.z i hi aJ]at bp;rw[w1.r i hi aJ];exact kt.z i hi bp
   grind
  .obtain⟨i,hi,aw⟩:=aw;exact⟨i,by rw[w1.len];exact hi,aw⟩
 have CJ:∀b∈bs,∀r,r<es.length->aW (es.getD r .J)=jj b->r=q->gT b≠gT a:=λb ag r r1 c6 s6 aX=>by grind[List.rel_of_pairwise_cons]
 have asW:∀b∈bs,gT b≠gT a->qP (es.getD q .J) (gT b) (cW b) true->∀i,i<(cW b).length->km (cW a) (aW ((cW b).getD i .J)).toNat=false:=λb _ aX ag i hi=>by
  have aa:=ag.ok i hi;have af:=aa.lo;have ao:=aa.hi;cases aJ:km (cW a) (aW ((cW b).getD i .J)).toNat
  .rfl
  .exact absurd (aa.rK.symm.trans (cu _ al aJ)) aX
 have awy:∀d,jl fi d=true->jl (bL (es.getD q .J)) d=true:=λd bp=>by obtain⟨i,hi,dV,z2⟩:=(AS _ _).1 bp;rw[w1.len]at hi;rw[w1.s i hi]at z2;grind[AS]
 rw[RY]
 by_cases Lz:jV (eP (es.getD q .J)) fi=true
 .rw[dE Lz];have RX:Dk e':=by rw[rM];exact⟨cg.Di,cg.AQ,adY,RZ.1,RZ.2,Lz⟩
  have hid:aW e'=aW (es.getD q .J):=by rw[rM];rfl
  have asX:bL e'=fi:=by rw[rM];rfl
  have yt:oF (es.set q e') nx:=by
   refine e9.set aH hid RX ?_ ?_ ?_ ?_ ?_ ?_
   .rw[rM];rfl
   .have:=adQ (ec.1 e9.ua _ he) w1;rw[rM];exact this
   .have:=adR (ec.1 e9.sS _ he) w1;rw[rM];exact this
   .have:=adS (ec.1 e9.vb _ he) w1;rw[rM];exact this
   .have:=adT (ec.1 e9.wG _ he) w1;rw[rM];exact this
   .rw[rM];exact nH
  have jN:=qO yt.jk;have Gr:(es.set q e').getD q .J=e':=S3;refine⟨yt,al,?_,λb ag=>adX b (oK _ ag),λb ag=>?_,(List.pairwise_cons.1 adW).2,λeZ=>?_⟩
  .grind
  .show(eo (es.set q e') nx (jj b) (gT b) (cW b) true).2.1=0;obtain⟨r,r1,_,c6,nz⟩:=Gp e9.jk (Gq b (oK _ ag));by_cases s6:r=q
   .have bO:=CJ b ag r r1 c6 s6;subst s6;have ai:qP e' (gT b) (cW b) true:=nz.gJ (by rw[asX];exact w1) cu bO;grind[ys,List.length_set]
   .have hE:(es.set q e').getD r .J=es.getD r .J:=SQ;grind[ys,List.length_set]
  .show e4 (es.set q e') eZ<=2;have ag:=adP aH e' eZ;have ay:e4 es eZ<=2:=h.yp eZ;grind
 .rw[c0 Lz];have cN:(es.take q++es.drop (q+1)).Sublist es:=by
    conv=>rhs;rw[RV aH]
    exact List.Sublist.append_left (List.sublist_cons_self _ _) _
  have yt:=e9.sub cN;have jN:=qO yt.jk;refine⟨yt,al,?_,λb ag=>adX b (oK _ ag),λb ag=>?_,(List.pairwise_cons.1 adW).2,λeZ=>?_⟩
  .grind
  .show(eo (es.take q++es.drop (q+1)) nx (jj b) (gT b) (cW b) true).2.1=0;obtain⟨r,r1,_,c6,nz⟩:=Gp e9.jk (Gq b (oK _ ag));by_cases s6:r=q
   .exfalso;have bO:=CJ b ag r r1 c6 s6;subst s6;have aJ:=asW b ag bO nz 0 nz.ne;have aa:=nz.ok 0 nz.ne;have af:=aa.lo;have ao:=aa.hi;refine Lz (yv ⟨(aW ((cW b).getD 0 .J)).toNat,al,?_⟩).wt;rw[w1.r _ al aJ];exact aa.op
   .have se:es.getD r .J∈es.take q++es.drop (q+1):=by
      rw[gD];rcases Bc r q with dA|dA
      .left;rw[getD_eq r1];exact List.mem_take_iff_getElem.2 ⟨r,al,rfl⟩
      .right;rw[getD_eq r1];refine List.mem_drop_iff_getElem.2 ⟨r-(q+1),al,?_⟩;congr 1;omega
    grind[sT,ys]
  .show e4 (es.take q++es.drop (q+1)) eZ<=2;have ay:e4 es eZ<=2:=h.yp eZ;grind[RV,adN,adO]
structure p0(ws:List AV)(j:Nat)(k:List UInt8)(l:List AV):Prop where
 ne:0<l.length
 le:l.length<=j
 lo:∀i,i<l.length->0<=aW (l.getD i .J)
 hi:∀i,i<l.length->aW (l.getD i .J)<j
 rK:∀i,i<l.length->cC (bm (ws.getD (aW (l.getD i .J)).toNat .J))=k
 op:∀i,i<l.length->dC (ws.getD (aW (l.getD i .J)).toNat .J)=0
 up:∀i,i<l.length->0<i->aW (l.getD (i-1) .J)<aW (l.getD i .J)
def p0.next{j:Nat}{k:List UInt8}{l:List AV}(h:p0 ws j k l):p0 ws (j+1) k l:=⟨h.ne,by have:=h.le;omega,h.lo,λi hi=>by have:=h.hi i hi;omega,h.rK,h.op,h.up⟩
theorem adZ(l:List AV)(x:AV)(i:Nat):(l++[x]).getD i .J=if i<l.length then l.getD i .J else if i=l.length then x else .J:=bM
theorem p0.snoc{j:Nat}{l:List AV}(h:p0 ws j (cC (bm (ws.getD j .J))) l)(a7:dC (ws.getD j .J)=0):p0 ws (j+1) (cC (bm (ws.getD j .J))) (l++[.int .i64 j]):=by
 have aa:∀i,i<(l++[AV.int .i64 j]).length->(i<l.length/\(l++[AV.int .i64 j]).getD i .J=l.getD i .J)\/(i=l.length/\(l++[AV.int .i64 j]).getD i .J=.int .i64 j):=λi hi=>bM;have aP:aW (.int .i64 j)=(j:Int):=rfl;refine⟨bM,by have:=h.le;grind,λi hi=>?_,λi hi=>?_,λi hi=>?_,λi hi=>?_,λi hi af=>?_⟩
 .rcases aa i hi with⟨a,b⟩|⟨a,b⟩<;>rw[b]
  .exact h.lo i a
  .rw[aP];omega
 .rcases aa i hi with⟨a,b⟩|⟨a,b⟩<;>rw[b]
  .have:=h.hi i a;omega
  .rw[aP];omega
 .rcases aa i hi with⟨a,b⟩|⟨a,b⟩<;>rw[b]
  .exact h.rK i a
  rfl
 .rcases aa i hi with⟨a,b⟩|⟨a,b⟩<;>rw[b]
  .exact h.op i a
  grind
 .rcases aa i hi with⟨a,b⟩|⟨a,b⟩<;>rw[b]
  .rw[adZ,dE al];exact h.up i a af
  .rw[adZ,dE al,aP];exact h.hi (i-1) al
theorem p0.one{j:Nat}(a7:dC (ws.getD j .J)=0):p0 ws (j+1) (cC (bm (ws.getD j .J))) [.int .i64 j]:=by
 have aP:aW (.int .i64 j)=(j:Int):=rfl;have aa:∀i,i<[AV.int .i64 j].length->[AV.int .i64 j].getD i .J=.int .i64 j:=λi hi=>bM;refine⟨bb,bb,λi hi=>?_,λi hi=>?_,λi hi=>?_,λi hi=>?_,λi hi af=>?_⟩
 .rw[aa i hi,aP];omega
 .rw[aa i hi,aP];omega
 .grind
 .grind
 grind
theorem ad0{d:List UInt8}{j:Int}{p:List UInt8×List AV}:∀{st:List (List UInt8×List AV)},p∈ins d j st->p∈st\/(∃l,(d,l)∈st/\p=(d,l++[.int .i64 j]))\/p=(d,[.int .i64 j])
 |[],h=>.inr (.inr (oM.1 h))
 |(k,l)::st,h=>by
  unfold ins at h;cases aX:d==k
  .rw[aX]at h;rcases gv.1 h with h|h
   .grind
   .rcases ad0 h with h|⟨gW,af,ao⟩|h
    .grind
    .grind
    .exact .inr (.inr h)
  grind
theorem ad1(ws:List AV):∀(n j:Nat)(st:List (List UInt8×List AV)),ws.length-j=n->j<=ws.length->(∀p∈st,p0 ws j p.1 p.2)->∀p∈iy j (ws.drop j) st,p0 ws ws.length p.1 p.2
 |0,j,st,aJ,aP,h=>by obtain rfl:j=ws.length:=al;rw[vm];exact h
 |n+1,j,st,aJ,aP,h=>by
  have aL:j<ws.length:=al;rw[Gh aL];refine ad1 ws n (j+1) _ al aL λp au=>?_;unfold tY at au;cases aD:dC (ws.getD j .J)==0
  .rw[aD]at au;exact(h p au).next
  .rw[aD]at au;have a7:=ic aD;rcases ad0 au with af|⟨l,af,ao⟩|af
   .exact(h p af).next
   .rw[ao];exact(h _ af).snoc a7
   grind[p0.one]
def asY{p:List UInt8×List AV}(h:p∈pW e):p0 (bL e) (bL e).length p.1 p.2:=by unfold pW at h;exact ad1 (bL e) _ 0 [] rfl (iM _) (λ_ h=>cM) p bM
theorem p0.asZ(h:p0 (bL e) (bL e).length d ae)(hu:jl (bL e) d=false):qP e d ae false:=by
 refine⟨h.ne,h.le,λi hi=>⟨h.lo i hi,h.hi i hi,h.up i hi,h.rK i hi,h.op i hi,?_⟩⟩;cases bp:gl ((bL e).getD (aW (ae.getD i .J)).toNat .J)
 .rfl
 .have af:=h.lo i hi;have ao:=h.hi i hi;have:=(AS (bL e) d).2 ⟨(aW (ae.getD i .J)).toNat,al,bp,h.rK i hi⟩;grind
def ad2(d:List UInt8):∀{st:List (List UInt8×List AV)}{l0:List AV},(d,l0)∈st->∃l,(d,l)∈st/\RH (stM st) d=l
 |(k,l)::st,l0,h=>by
  have ai:c9 (.str d) (eL (.tup [.str k,.ab gm l]))=(d==k):=rfl;have aB:RH (stM ((k,l)::st)) d=((bif c9 (.str d) (eL (.tup [.str k,.ab gm l]))then .ab gm l else gj (.str d) (stM st)).cells.headD .J).toList:=rfl;rw[aB,ai];cases aX:d==k
  .have af:(d,l0)∈st:=by
     rcases gv.1 h with h|h
     .cases h;rw[ha]at aX;cases aX
     .exact h
   obtain⟨gW,ao,a1⟩:=ad2 d af;exact⟨gW,oK _ ao,a1⟩
  .exact⟨l,bM,rfl⟩
def R1(es:List AV)(a:AV):Prop:=∃e∈es,∃d ae,a=.agg [.int .i64 (aW e),.str d,.ab gm ae]/\p0 (bL e) (bL e).length d ae/\mF (jh (aW e) d) (hM es).2=false/\ht d (hM es).1<2
structure Dn(es:List AV)(st:List AV×List AV):Prop where
 rW:∀d,ht d (hM es).1<=ht d st.1
 n0:∀d,0<=ht d st.1
 bt:∀a∈st.2,R1 es a
theorem as0(he:e∈es)(h:Dn es st){d:AV}(aX:d∈kX (pW e)):Dn es (nf (aW e) (aW e) (hM es).2 (stM (pW e)) st d):=by
 obtain⟨p,au,rfl⟩:=uj.1 aX;have wk:bm (.str p.1)=p.1:=rfl;unfold nf;rw[wk];cases ag:u1 (aW e) p.1 st.1 (hM es).2
 .exact h
 .unfold u1 at ag;cases hu:mF (jh (aW e) p.1) (hM es).2
  .rw[hu]at ag;have hm:=bH (show decide (ht p.1 st.1<2)=true from ag);have a7:=h.n0 p.1;have hw:IntKind.i64.wrap (ht p.1 st.1+1)=ht p.1 st.1+1:=lT _ al al;refine⟨λd=>?_,λd=>?_,λa cI=>?_⟩
   .show _<=ht d (gG _ _ _);rw[RN,hw];have:=h.rW d;grind
   .show 0<=ht d (gG _ _ _);rw[RN,hw];cases aH:d==p.1
    .exact h.n0 d
    grind
   .rcases gD.1 cI with cI|cI
    .exact h.bt a cI
    .rw[oM.1 cI];obtain⟨l,af,ao⟩:=ad2 p.1 (st:=pW e) (l0:=p.2) au;rw[ao];have:=h.rW p.1;exact⟨e,he,p.1,l,rfl,asY af,hu,al⟩
  grind
def ad3{es:List AV}{e:AV}(he:e∈es):∀(ds:List AV)(st:List AV×List AV),(∀d∈ds,d∈kX (pW e))->Dn es st->Dn es (ds.foldl (nf (aW e) (aW e) (hM es).2 (stM (pW e))) st)
 |[],_,_,h=>h
 |d::ds,st,aX,h=>ad3 he ds _ (λx ak=>aX x (oK _ ak)) (as0 he h (aX d (vi ..)))
def ad4{es:List AV}:∀(dk:List AV)(st:List AV×List AV),(∀e∈dk,e∈es)->Dn es st->Dn es (dk.foldl (C8 (hM es).2) st)
 |[],_,_,h=>h
 |e::dk,st,aX,h=>ad4 dk _ (λx ak=>aX x (oK _ ak)) (ad3 (aX e (vi ..)) _ _ (λ_ h=>h) h)
def ad5(ar:ph es nx)(y:Int):∀a∈ib es y,R1 es a:=by
 have aH:=adx ar.ne (by have:=ar.len;omega);refine(ad4 (Rm es y) ((hM es).1,[]) (λe he=>?_) ⟨λd=>ui _,λd=>?_,λ_ h=>cM⟩).bt
 .unfold Rm at he;exact(GF.1 (abw _ _ he)).1
 .show 0<=ht d (hM es).1;rw[aH.rW];omega
def ad6(e9:oF es nx){a:AV}(h:R1 es a):∃q:Nat,q<es.length/\jj a=aW (es.getD q .J)/\sR a=.agg [.int .i64 (aW (es.getD q .J)),.str (gT a),.ab gm (cW a)]/\qP (es.getD q .J) (gT a) (cW a) false/\jl (bL (es.getD q .J)) (gT a)=false/\e4 es (gT a)<2/\mF (jh (jj a) (gT a)) (hM es).2=false/\ht (gT a) (hM es).1<2/\(cW a).length<=4:=by
 obtain⟨e,he,d,ae,rfl,af,ao,a1⟩:=h;obtain⟨q,aH,rfl⟩:=sT he;have ar:=qO e9.jk;have aa:=adx ar.ne (by have:=ar.len;omega);have hu:jl (bL (es.getD q .J)) d=false:=by rw[aa.un,A2]at ao;have:=ao _ he;rw[ha,nk,DG]at this;exact this
 have hm:=a1;rw[aa.rW]at hm;have aR:=ec.1 e9.wG _ he;unfold sP at aR;rw[ba]at aR;have awz:=bH aR.1;have hle:=af.le;refine⟨q,aH,rfl,rfl,af.asZ hu,hu,by show e4 es d<2;omega,ao,a1,?_⟩;show ae.length<=4;omega
def as1(h:oH nx y st){k:Nat}(ai:k<(ib st.1 y).length):
  CS st.1 nx (jj ((ib st.1 y).getD k .J)) (gT ((ib st.1 y).getD k .J)) (cW ((ib st.1 y).getD k .J)) (eo st.1 nx (jj ((ib st.1 y).getD k .J)) (gT ((ib st.1 y).getD k .J)) (cW ((ib st.1 y).getD k .J)) false).1.toNat=true:=by
 have e9:=h.q
 have ar:=qO e9.jk
 have aB:=ad5 ar y _ (ve ai)
 generalize(ib st.1 y).getD k .J=a at aB⊢
 obtain⟨q,aH,ak,_,bq,hu,hm,ad7,Dj,ca⟩:=ad6 e9 aB
 have pA:=ys ar aH bq
 rw[<-ak]at pA
 have ay:=e9.len
 unfold CS
 rw[pA,show((((q:Nat):Int),((0:Int),(0:Int))):Int×Int×Int).1.toNat=q from bK q]
 refine aV (aV (aS al) (aV e9.ua (aV e9.sS (aS al)))) (aV e9.vb (aV (aS ⟨aH,ay,rfl,rfl⟩) (aV ?_ (aV (aS Dj) (aV (by rw[ad7];rfl) (adA _))))))
 rw[ec]
 intro b' pD
 obtain⟨i,hi,rfl⟩:=sT pD
 have aa:=bq.ok i hi
 exact ie aa.lo aa.hi
theorem as2(h:oH nx y st)(aN:y<40)(aQ:ef t 0 1000=true):oH nx (y+1) (AO nx y t st):=by
 obtain⟨es,bs⟩:=st;have e9:oF es nx:=h.q;have ar:=qO e9.jk;have ER:oH nx (y+1) (es,bs):=⟨h.q,al,by have:=h.Dg;omega,h.AP,h.uL,h.eK,h.yp⟩;unfold AO;cases ag:wH t (es,bs).2
 .have hx:bs≠[]:=by
    intro aJ;subst aJ;unfold wH at ag;rw[mM]at ag;cases ag.2
  obtain⟨a,awA,rfl⟩:=List.exists_cons_of_ne_nil hx;obtain⟨q,aH,Dm,ak,bq⟩:=Gp e9.jk (h.uL a (vi ..));simp_all[cU,eo,bK,asV]
 .simp only[b4];cases ay:((ib es y).length:Int)==0
  .have l5:0<(ib es y).length:=by
     simp at ay;exact Be.2 ay
   unfold ef at aQ;simp only[ba,fD]at aQ;have qy:0<=t.tmod (ib es y).length:=Int.tmod_nonneg _ aQ.1;have Cp:t.tmod (ib es y).length<(ib es y).length:=L5 _ al;have gr:(t.tmod (ib es y).length).toNat<(ib es y).length:=al;have aB:=ad5 ar y _ (ve gr);unfold uc;generalize(ib es y).getD (t.tmod (ib es y).length).toNat .J=a at aB⊢;obtain⟨q,aH,ak,bg,bq,hu,hm,ad7,Dj,ca⟩:=ad6 e9 aB;have pA:=ys ar aH bq;rw[<-ak]at pA;simp only[cU];grind[Int.toNat_natCast,asR]
  .exact ER
open IntKind
noncomputable def wL:Env:={pure:=[(5,aK AN),(6,aK Gt),(7,aK Gu),(8,aK tQ),(9,aK C9),(10,aK CU),(11,aK Dp),(12,aK FL),(13,aK Ge)],ext:=[1729]}
def g3:aM prog wL:=aM.flags (aq:={pure:=[(5,aK AN),(6,aK Gt),(7,aK Gu),(8,aK tQ),(9,aK C9),(10,aK CU),(11,aK Dp),(12,aK FL),(13,aK Ge)]}) (aM.br (aM.br (aM.br (aM.br (aM.br (aM.br (aM.br (aM.br (aM.br bV aro) anE) as3) anW) aq1) At) as4) as5) asv)
noncomputable def kq:Code:=((Tryz.f3.body.map c7).getD []).headD .skip
noncomputable def ad8:List AV->List (Option Row)->a6 cy
 |[.ab (.agg [.str,.slice (.agg [.str,.int .i64]),.str,.slice (.agg [.str,.str]),.slice (.int .u8)]) gs,.ab (.int .i64) ae,.bool z,.ptr 193 0,.int .i64 i],[some (.box false [.ab (.agg [.int .i64,.str,.slice (.agg [.str,.int .i64]),.str,.slice (.agg [.str,.str]),.slice (.int .u8),.int .i64,.int .i64,.int .i64,.slice (.agg [.str,.int .i64,.int .i64,.bool])]) es,.int .i64 nx,.ab (.int .u8) log,.ab (.agg [.str,.slice (.agg [.str,.int .i64]),.str,.slice (.agg [.str,.str]),.slice (.int .u8)]) LA,.ab (.agg [.int .i64,.int .i64,.int .i64]) eY,.bool ok])]=>
  .bt (bl gs.length i gs.length&&hv (gs.all jv=true/\(∀g∈gs,pZ g=false)/\pY (es,(nx,(log,ok))) (gs.length-i.toNat)))
   (.leaf (.exit 0,[.ab ln gs,.ab gm ae,.bool z,.ptr 193 0,.int .i64 gs.length],[some (.box false [.ab db ((gs.drop i.toNat).foldl pf (es,(nx,(log,ok)))).1,.int .i64 ((gs.drop i.toNat).foldl pf (es,(nx,(log,ok)))).2.1,.ab fv ((gs.drop i.toNat).foldl pf (es,(nx,(log,ok)))).2.2.1,.ab ln LA,.ab yw eY,.bool ((gs.drop i.toNat).foldl pf (es,(nx,(log,ok)))).2.2.2])]))
 |[.ab (.agg [.str,.slice (.agg [.str,.int .i64]),.str,.slice (.agg [.str,.str]),.slice (.int .u8)]) gs,.ab (.int .i64) ae,.bool z,.ptr 193 0,.int .i64 i],[some (.box false [.bf (.agg [.int .i64,.str,.slice (.agg [.str,.int .i64]),.str,.slice (.agg [.str,.str]),.slice (.int .u8),.int .i64,.int .i64,.int .i64,.slice (.agg [.str,.int .i64,.int .i64,.bool])]),.int .i64 0,.bf (.int .u8),.bf (.agg [.str,.slice (.agg [.str,.int .i64]),.str,.slice (.agg [.str,.str]),.slice (.int .u8)]),.bf (.agg [.int .i64,.int .i64,.int .i64]),.bool true])]=>
  .bt (bl gs.length i gs.length&&hv (gs.all jv=true/\(∀g∈gs,pZ g=false)/\pY ([],(0,([],true))) (gs.length-i.toNat)))
   (.cY (Nat.beq i.toNat gs.length) (.leaf (.exit 0,[.ab ln gs,.ab gm ae,.bool z,.ptr 193 0,.int .i64 gs.length],[some (.box false [.bf db,.int .i64 0,.bf fv,.bf ln,.bf yw,.bool true])]))
   (.leaf (.exit 0,[.ab ln gs,.ab gm ae,.bool z,.ptr 193 0,.int .i64 gs.length],[some (.box false [.ab db ((gs.drop i.toNat).foldl pf ([],(0,([],true)))).1,.int .i64 ((gs.drop i.toNat).foldl pf ([],(0,([],true)))).2.1,.ab fv ((gs.drop i.toNat).foldl pf ([],(0,([],true)))).2.2.1,.ab ln [],.ab yw [],.bool ((gs.drop i.toNat).foldl pf ([],(0,([],true)))).2.2.2])])))
 |_,_=>.no
noncomputable def fq:Ev.Loop:=⟨{len:=178,dr:=[0,1,4,5,6],rows:=[193]},dP ad8⟩
def as6(vs:List AV)(_:List (Option Row)):Nat:=match vs with
 |[.ab _ gs,_,_,_,.int _ i]=>((gs.length:Int)-i).toNat
 |_=>0
def as7(K:List (Nat×Ev.Loop)):dj prog wL K kq fq:=by
 refine ed g3.dX rfl (ch.nil aG) as6 (λaj vs rs k r h=>?_);unfold ad8 at h;split at h
 .rename_i gs ae z i es nx log LA eY ok;obtain⟨aa,ai⟩:=bz h;rw[ba]at aa;obtain⟨aa,aX⟩:=aa;obtain⟨cn,gx,bq⟩:=wC aX;obtain⟨_,an,j,rfl,aP⟩:=eA aa;rw[bK]at ai bq;refine bn (b:=have az:=(gs.getD j .J);have aZ:=(lC es nx (fZ az) (ev az) (fS az) (fT az) (fw az) (0:Int));have bd:=(pg log (0:Int) (fZ az) (ev az) (fS az) (fT az) (fw az));have av:=(aZ.fst,aZ.snd.fst,bd.fst,ok&&aZ.snd.snd==0&&bd.snd.fst==0);have bk:=(i64.wrap ((j:Int)+(1:Int)));have aI:=(List.foldl pf av (List.drop bk.toNat gs));have bF:=(gs.length:Int);have bI:=(Sh.int .u8);have aF:=(Sh.agg [Sh.str,(Sh.agg [Sh.str,Sh.int i64]).slice,Sh.str,(Sh.agg [Sh.str,Sh.str]).slice,bI.slice]);have aO:=(Sh.agg [Sh.int i64,Sh.str,(Sh.agg [Sh.str,Sh.int i64]).slice,Sh.str,(Sh.agg [Sh.str,Sh.str]).slice,bI.slice,Sh.int i64,Sh.int i64,Sh.int i64,(Sh.agg [Sh.str,Sh.int i64,Sh.int i64,Sh.bool]).slice]);have b3:=(Sh.agg [.int .i64,.int .i64,.int .i64]);bif decide ((j:Int)<bF)then bif inb (j:Int) gs.length then bif yj es nx (fZ az) (ev az) (fS az) (fT az) (fw az) (0:Int)&&vf log (0:Int) (fZ az) (ev az) (fS az) (fT az) (fw az)then bif decide ((bF-i64.wrap ((j:Int)+(1:Int))).toNat<(bF-(j:Int)).toNat)then bif bl bF bk gs.length&&hv (gs.all jv=true/\(∀(g:AV),g∈gs->pZ g=false)/\pY av (gs.length-bk.toNat))then k (.exit 0) [.ab aF gs,.ab (.int .i64) ae,.bool z,.ptr 193 0,.I bF] [some (.box false [.ab aO aI.fst,.I aI.snd.fst,.ab bI aI.snd.snd.fst,.ab aF LA,.ab b3 eY,.bool aI.snd.snd.snd])]else none else none else none else none else k (.exit 0) [.ab aF gs,.ab (.int .i64) ae,.bool z,.ptr 193 0,.I (j:Int)] [some (.box false [.ab aO es,.I nx,.ab bI log,.ab aF LA,.ab b3 eY,.bool ok])]) ?_;conv=>zeta
  rw[<-ai];by_cases aL:j<gs.length
  .obtain⟨aU,bc,bw,bQ,bN⟩:=ew aL an;have aB:jv (gs.getD j .J)=true:=jg cn aL;have ag:pZ (gs.getD j .J)=false:=gx _ (by rw[List.getD,fC aL];exact p3 aL);have tu:pY (es,(nx,(log,ok))) ((gs.length-(j+1))+1):=SU;have af:=adE tu aB ag;have ao:=adH tu aB ag;have a1:=RU tu aB ag;rw[tP pf _ gs j aL];exact Tj
  .obtain rfl:j=gs.length:=al;exact oQ
 .rename_i gs ae z i;obtain⟨aa,ai⟩:=bz h;rw[ba]at aa;obtain⟨aa,aX⟩:=aa;obtain⟨cn,gx,bq⟩:=wC aX;obtain⟨_,an,j,rfl,aP⟩:=eA aa;rw[bK]at ai bq;refine bn (b:=have az:=(gs.getD j .J);have aZ:=(lC [] (0:Int) (fZ az) (ev az) (fS az) (fT az) (fw az) (0:Int));have bd:=(pg [] (0:Int) (fZ az) (ev az) (fS az) (fT az) (fw az));have av:=(aZ.fst,aZ.snd.fst,bd.fst,true&&aZ.snd.snd==0&&bd.snd.fst==0);have bk:=(i64.wrap ((j:Int)+(1:Int)));have aI:=(List.foldl pf av (List.drop bk.toNat gs));have bF:=(gs.length:Int);have bI:=(Sh.int .u8);have aF:=(Sh.agg [Sh.str,(Sh.agg [Sh.str,Sh.int i64]).slice,Sh.str,(Sh.agg [Sh.str,Sh.str]).slice,bI.slice]);have aO:=(Sh.agg [Sh.int i64,Sh.str,(Sh.agg [Sh.str,Sh.int i64]).slice,Sh.str,(Sh.agg [Sh.str,Sh.str]).slice,bI.slice,Sh.int i64,Sh.int i64,Sh.int i64,(Sh.agg [Sh.str,Sh.int i64,Sh.int i64,Sh.bool]).slice]);have b3:=(Sh.agg [.int .i64,.int .i64,.int .i64]);bif decide ((j:Int)<bF)then bif inb (j:Int) gs.length then bif yj [] (0:Int) (fZ az) (ev az) (fS az) (fT az) (fw az) (0:Int)&&vf [] (0:Int) (fZ az) (ev az) (fS az) (fT az) (fw az)then bif decide ((bF-i64.wrap ((j:Int)+(1:Int))).toNat<(bF-(j:Int)).toNat)then bif bl bF bk gs.length&&hv (gs.all jv=true/\(∀(g:AV),g∈gs->pZ g=false)/\pY av (gs.length-bk.toNat))then k (.exit 0) [.ab aF gs,.ab (.int .i64) ae,.bool z,.ptr 193 0,.I bF] [some (.box false [.ab aO aI.fst,.I aI.snd.fst,.ab bI aI.snd.snd.fst,.ab aF [],.ab b3 [],.bool aI.snd.snd.snd])]else none else none else none else none else k (.exit 0) [.ab aF gs,.ab (.int .i64) ae,.bool z,.ptr 193 0,.I (j:Int)] [some (.box false [.bf aO,.I 0,.bf bI,.bf aF,.bf b3,.bool true])]) ?_;conv=>zeta
  rw[<-ai];by_cases aL:j<gs.length
  .obtain⟨aU,bc,bw,bQ,bN⟩:=ew aL an;have aB:jv (gs.getD j .J)=true:=jg cn aL;have ag:pZ (gs.getD j .J)=false:=gx _ (by rw[List.getD,fC aL];exact p3 aL);have tu:pY ([],(0,([],true))) ((gs.length-(j+1))+1):=SU;have af:=adE tu aB ag;have ao:=adH tu aB ag;have a1:=RU tu aB ag;have bO:Nat.beq j gs.length=false:=by
     cases aH:Nat.beq j gs.length
     .rfl
     .have:=cH aH;omega
   rw[tP pf _ gs j aL,bO];exact Tj
  .obtain rfl:j=gs.length:=al;rw[cZ al,b9];rfl
 .cases h
noncomputable def LB:Code:=((Tryz.f3.body.map c7).getD []).tail.headD .skip
noncomputable def R2:Code:=((c7 LB)).headD .skip
noncomputable def LC:Code:=((c7 LB)).tail.headD .skip
noncomputable def LD:Code:=((c7 LC)).headD .skip
def ad9:List AV->List (Option Row)->a6 cy
 |[.ab (.agg [.str,.slice (.agg [.str,.int .i64]),.str,.slice (.agg [.str,.str]),.slice (.int .u8)]) gs,.ab (.int .i64) ae,.bool z,.ptr 514 0,.own aea,.int .i64 y,.ptr 1667 0,.own p,.int .i64 i],[some (.box false [.ab (.agg [.int .i64,.str,.slice (.agg [.str,.int .i64]),.str,.slice (.agg [.str,.str]),.slice (.int .u8),.int .i64,.int .i64,.int .i64,.slice (.agg [.str,.int .i64,.int .i64,.bool])]) es,.int .i64 nx]),some (.box false [.int .i64 x,.str d,.ab (.int .i64) us]),some (.arr false (.agg [.int .i64,.str,.slice (.int .i64)]) 49 bs none),some (.arr false (.int .i64) 3 rs none)]=>
  .bt ((Nat.beq p 1795&&Nat.beq aea 9990)&&(inb y ae.length&&(bl rs.length i rs.length&&ef (aW (ae.getD y.toNat .J)) 0 1000)))
   (.leaf (.exit 4,[.ab ln gs,.ab gm ae,.bool z,.ptr 514 0,.own 9990,.int .i64 y,.ptr 1667 0,.own 1795,.int .i64 rs.length],[some (.box false [.ab db es,.int .i64 nx]),some (.box false [.int .i64 x,.str d,.ab gm us]),some (.arr false rF 49 bs none),some (.arr false gm 3 (rs.take i.toNat++hY (aW (ae.getD y.toNat .J)) (rs.length-i.toNat)) none)]))
 |_,_=>.no
def wM:Ev.Loop:=⟨{len:=178,dr:=[0,1,4,7,8,9,15,16,17],rows:=[514,1667,9990,1795],homes:=[(8,9990,49)]},dP ad9⟩
def as8(vs:List AV)(rs:List (Option Row)):Nat:=match vs,rs with
 |[_,_,_,_,_,_,_,_,.int _ i],[_,_,_,some (.arr _ _ _ rs _)]=>((rs.length:Int)-i).toNat
 |_,_=>0
def aeb(K:List (Nat×Ev.Loop)):dj prog wL K R2 wM:=by
 refine ed g3.dX rfl (ch.nil aG) as8 (λaj vs rs k r h=>?_);unfold ad9 at h;split at h
 .rename_i gs ae z aea y p i es nx x d us bs rs;obtain⟨aa,ai⟩:=bz h;simp only[ba]at aa;obtain⟨⟨au,as9⟩,aN,aa,aD⟩:=aa;obtain rfl:=cH as9;obtain rfl:=cH au;obtain⟨_,an,j,rfl,aP⟩:=eA aa;rw[bK]at ai;refine bn (b:=have az:=(Row.box false [AV.ab (Sh.agg [Sh.int i64,Sh.str,(Sh.agg [Sh.str,Sh.int i64]).slice,Sh.str,(Sh.agg [Sh.str,Sh.str]).slice,(Sh.int u8).slice,Sh.int i64,Sh.int i64,Sh.int i64,(Sh.agg [Sh.str,Sh.int i64,Sh.int i64,Sh.bool]).slice]) es,AV.int i64 nx]);have aF:=(Sh.agg [Sh.str,(Sh.agg [Sh.str,Sh.int i64]).slice,Sh.str,(Sh.agg [Sh.str,Sh.str]).slice,(Sh.int u8).slice]);have aO:=(Sh.int .i64);have aI:=(Row.arr false (.agg [.int .i64,.str,aO.slice]) 49 bs none);have aZ:=(i64.wrap ((j:Int)+(1:Int)));have bd:=(aW (ae.getD y.toNat .J));have av:=(rs.set j (dU aO [.I (i64.wrap ((1:Int)+(i64.wrap (bd.tdiv (2:Int))).tmod (4:Int)))]));have bk:=(Row.box false [.I x,.str d,.ab aO us]);have bF:=(av.length:Int);bif decide ((j:Int)<(rs.length:Int))then bif inb y ae.length then bif inb (j:Int) rs.length then bif decide (j<rs.length)then bif decide ((bF-i64.wrap ((j:Int)+(1:Int))).toNat<((rs.length:Int)-(j:Int)).toNat)then bif Nat.beq 1795 1795&&Nat.beq 9990 9990&&(inb y ae.length&&(bl bF aZ av.length&&ef bd (0:Int) (1000:Int)))then k (.exit 4) [.ab aF gs,.ab aO ae,.bool z,.ptr 514 0,.own 9990,.I y,.ptr 1667 0,.own 1795,.I bF] [some az,some bk,some aI,some (.arr false aO 3 (List.take aZ.toNat av++hY bd (av.length-aZ.toNat)) none)]else none else none else none else none else none else k (.exit 4) [.ab aF gs,.ab aO ae,.bool z,.ptr 514 0,.own 9990,.I y,.ptr 1667 0,.own 1795,.I (j:Int)] [some az,some bk,some aI,some (.arr false aO 3 rs none)]) ?_;conv=>zeta
  rw[<-ai];by_cases aL:j<rs.length
  .obtain⟨aU,bc,bw,bQ,bN⟩:=ew aL an;have tr:=aD;unfold ef at tr;simp only[ba,fD]at tr;have Dm:0<=(aW (ae.getD y.toNat .J)).tdiv 2:=Int.tdiv_nonneg al al;have Aa:(aW (ae.getD y.toNat .J)).tdiv 2<=aW (ae.getD y.toNat .J):=by rw[Int.tdiv_eq_ediv_of_nonneg al];omega
   have qy:0<=((aW (ae.getD y.toNat .J)).tdiv 2).tmod 4:=Int.tmod_nonneg _ Dm;have Cp:((aW (ae.getD y.toNat .J)).tdiv 2).tmod 4<4:=L5 _ al;have w1:i64.wrap ((aW (ae.getD y.toNat .J)).tdiv 2)=(aW (ae.getD y.toNat .J)).tdiv 2:=lT _ al al;have ga:i64.wrap (1+((aW (ae.getD y.toNat .J)).tdiv 2).tmod 4)=ub (aW (ae.getD y.toNat .J)):=lT _ al al;rw[aU,aN,bc,w1,ga,bw,aD];have ar:dU (Sh.int i64) [AV.int .i64 (ub (aW (ae.getD y.toNat .J)))]=.int .i64 (ub (aW (ae.getD y.toNat .J))):=rfl;rw[ar,oJ,bQ,bN,aS aL,bK,ab0 aL];have dA:rs.length-j=(rs.length-(j+1))+1:=al;have gB:rs.take j++hY (aW (ae.getD y.toNat .J)) (rs.length-j)=rs.take j++[.int .i64 (ub (aW (ae.getD y.toNat .J)))]++hY (aW (ae.getD y.toNat .J)) (rs.length-(j+1)):=by rw[dA];unfold hY;rw[yC,nm];rfl
   rw[gB];rfl
  .obtain rfl:j=rs.length:=al;rw[cZ al,AZ,DF];unfold hY;rw[List.replicate_zero,jy];rfl
 .cases h
noncomputable def aec:List AV->List (Option Row)->a6 cy
 |[.ab (.agg [.str,.slice (.agg [.str,.int .i64]),.str,.slice (.agg [.str,.str]),.slice (.int .u8)]) gs,.ab (.int .i64) ae,.bool z,.ptr 514 0,.own p,.int .i64 y,.int .i64 n,.ab .str ds,.int .i64 i],[some (.box false [.ab (.agg [.int .i64,.str,.slice (.agg [.str,.int .i64]),.str,.slice (.agg [.str,.str]),.slice (.int .u8),.int .i64,.int .i64,.int .i64,.slice (.agg [.str,.int .i64,.int .i64,.bool])]) es,.int .i64 nx]),some (.arr false (.agg [.int .i64,.str,.slice (.int .i64)]) 49 bs none)]=>
  .bt (Nat.beq p 9990&&(bl ds.length i ds.length&&(small es.length&&es.all hX&&hv (∀d,e4 es d<=2))))
   (.leaf (.exit 8,[.ab ln gs,.ab gm ae,.bool z,.ptr 514 0,.own 9990,.int .i64 y,.int .i64 n,.ab .str ds,.int .i64 ds.length],[some (.box false [.ab db es,.int .i64 nx]),some (.arr false rF 49 bs none)]))
 |_,_=>.no
noncomputable def vh:Ev.Loop:=⟨{len:=178,dr:=[0,1,4,7,8,9,21,22,24],rows:=[514,9990],homes:=[(8,9990,49)]},dP aec⟩
def ata(vs:List AV)(_:List (Option Row)):Nat:=match vs with
 |[_,_,_,_,_,_,_,.ab _ ds,.int _ i]=>((ds.length:Int)-i).toNat
 |_=>0
def R3(K:List (Nat×Ev.Loop)):dj prog wL K LD vh:=by
 refine ed g3.dX rfl (ch.nil aG) ata (λaj vs rs k r h=>?_);unfold aec at h;split at h
 .rename_i gs ae z p y n ds i es nx bs;obtain⟨aa,ai⟩:=bz h;simp only[ba]at aa;obtain⟨au,aa,⟨b2,bX⟩,aX⟩:=aa;obtain rfl:=cH au;have ay:=wC aX;obtain⟨_,an,j,rfl,aP⟩:=eA aa;refine bn (b:=have az:=(Sh.agg [Sh.str,(Sh.agg [Sh.str,Sh.int i64]).slice,Sh.str,(Sh.agg [Sh.str,Sh.str]).slice,(Sh.int u8).slice]);have aF:=(ds.length:Int);have aI:=(j:Int);have aO:=(Sh.int .i64);have av:=[some (Row.box false [.ab (.agg [.int .i64,.str,.slice (.agg [.str,.int .i64]),.str,.slice (.agg [.str,.str]),.slice (.int .u8),.int .i64,.int .i64,.int .i64,.slice (.agg [.str,.int .i64,.int .i64,.bool])]) es,.I nx]),some (.arr false (.agg [.int .i64,.str,aO.slice]) 49 bs none)];bif decide (aI<aF)then bif inb aI ds.length then bif small es.length&&es.all hX then bif decide (((e4 es ((ds.getD j .J).cells.headD .J).toStr):Int)>(2:Int))then k .ret [.ab az gs,.ab aO ae,.bool false,.ptr 514 0,.own 9990,.I y,.I n,.ab .str ds,.I aI] av else bif decide ((aF-i64.wrap (aI+(1:Int))).toNat<(aF-aI).toNat)then bif Nat.beq 9990 9990&&(bl aF (i64.wrap (aI+(1:Int))) ds.length&&(small es.length&&es.all hX&&hv (∀(d:List UInt8),e4 es d<=2)))then k (.exit 8) [.ab az gs,.ab aO ae,.bool z,.ptr 514 0,.own 9990,.I y,.I n,.ab .str ds,.I aF] av else none else none else none else none else k (.exit 8) [.ab az gs,.ab aO ae,.bool z,.ptr 514 0,.own 9990,.I y,.I n,.ab .str ds,.I aI] av) ?_;conv=>zeta
  rw[<-ai];by_cases aL:j<ds.length
  .obtain⟨aU,bc,bw,bQ,bN⟩:=ew aL an;have gB:decide (((e4 es ((ds.getD j AV.J).cells.headD AV.J).toStr:Nat):Int)>2)=false:=cZ (by have:=ay ((ds.getD j AV.J).cells.headD AV.J).toStr;omega);rw[aU,bc,b2,bX,gB,bw,bQ,bN,mN ay];rfl
  .obtain rfl:j=ds.length:=al;exact Hy
 .cases h
noncomputable def aed:List AV->List (Option Row)->a6 cy
 |[.ab (.agg [.str,.slice (.agg [.str,.int .i64]),.str,.slice (.agg [.str,.str]),.slice (.int .u8)]) gs,.ab (.int .i64) ae,.bool z,.ptr 514 0,.own p,.int .i64 y,.int .i64 i],[some (.box false [.ab (.agg [.int .i64,.str,.slice (.agg [.str,.int .i64]),.str,.slice (.agg [.str,.str]),.slice (.int .u8),.int .i64,.int .i64,.int .i64,.slice (.agg [.str,.int .i64,.int .i64,.bool])]) es,.int .i64 nx]),some (.arr false (.agg [.int .i64,.str,.slice (.int .i64)]) 49 bs none)]=>
  .bt (Nat.beq p 9990&&(bl gs.length i gs.length&&(gs.all jv&&(small es.length&&es.all hX&&hv (∀d,e4 es d<=2)))))
   (.leaf (.exit 6,[.ab ln gs,.ab gm ae,.bool z,.ptr 514 0,.own 9990,.int .i64 y,.int .i64 gs.length],[some (.box false [.ab db es,.int .i64 nx]),some (.arr false rF 49 bs none)]))
 |_,_=>.no
noncomputable def wN:Ev.Loop:=⟨{len:=178,dr:=[0,1,4,7,8,9,21],rows:=[514,9990],homes:=[(8,9990,49)]},dP aed⟩
def atb(vs:List AV)(_:List (Option Row)):Nat:=match vs with
 |[.ab _ gs,_,_,_,_,_,.int _ i]=>((gs.length:Int)-i).toNat
 |_=>0
def aee:∀(ae ds:List AV),(ae.foldl sI ds).length<=ds.length+ae.length
 |[],ds=>bb
 |t::ae,ds=>by have h:=aee ae (sI ds t);have af:=anA ds t;rw[jw,e5];omega
def aef:dj prog wL [(5,fq),(30,wM),(38,wN),(42,vh)] LC wN:=by
 refine ed g3.dX rfl (ch.all (bs:=[LD]) aG (λb ag=>?_)) atb (λaj vs rs k r h=>?_)
 .simp only[gv,mh,mi]at ag;subst ag;exact⟨vh,aG,R3 _⟩
 unfold aed at h;split at h
 .rename_i gs ae z p y i es nx bs;obtain⟨aa,ai⟩:=bz h;simp only[ba]at aa;obtain⟨au,aa,cn,⟨b2,bX⟩,aX⟩:=aa;have EY:=wC aX;obtain rfl:=cH au;obtain⟨_,an,j,rfl,aP⟩:=eA aa;refine bn (b:=have az:=[some (Row.box false [.ab (.agg [.int .i64,.str,.slice (.agg [.str,.int .i64]),.str,.slice (.agg [.str,.str]),.slice (.int .u8),.int .i64,.int .i64,.int .i64,.slice (.agg [.str,.int .i64,.int .i64,.bool])]) es,.I nx]),some (.arr false (.agg [.int .i64,.str,.slice (.int .i64)]) 49 bs none)];have aF:=(small es.length&&es.all hX&&hv (∀(d:List UInt8),e4 es d<=2));have aI:=(gs.getD j .J);have aO:=(Sh.agg [Sh.str,(Sh.agg [Sh.str,Sh.int i64]).slice,Sh.str,(Sh.agg [Sh.str,Sh.str]).slice,(Sh.int u8).slice]);have aZ:=(gs.length:Int);have av:=bif decide ((aZ-i64.wrap ((j:Int)+(1:Int))).toNat<(aZ-(j:Int)).toNat)then bif Nat.beq 9990 9990&&(bl aZ (i64.wrap ((j:Int)+(1:Int))) gs.length&&(gs.all jv&&aF))then k (.exit 6) [.ab aO gs,.ab (.int .i64) ae,.bool z,.ptr 514 0,.own 9990,.I y,.I aZ] az else none else none;have bd:=(List.foldl sI [] (ev aI));bif decide ((j:Int)<aZ)then bif inb (j:Int) gs.length then bif ee (fZ aI).length&&(small (ev aI).length&&((ev aI).all eh&&ee (fS aI).length))then bif(ky (fZ aI) (ev aI) (fS aI)).fst !=0 then bif Nat.beq 9990 9990&&(bl (([]:List AV).length:Int) (0:Int) ([]:List AV).length&&aF)then av else none else bif Nat.beq 9990 9990&&(bl (bd.length:Int) (0:Int) bd.length&&aF)then av else none else none else none else k (.exit 6) [.ab aO gs,.ab (.int .i64) ae,.bool z,.ptr 514 0,.own 9990,.I y,.I (j:Int)] az) ?_;conv=>zeta
  rw[<-ai];by_cases aL:j<gs.length
  .obtain⟨aU,bc,bw,bQ,bN⟩:=ew aL an;have aB:jv (gs.getD j .J)=true:=jg cn aL;unfold jv vc Av C2 at aB;simp only[ba]at aB;obtain⟨⟨⟨bJ,a2,a3,a4⟩,_⟩,a5,_⟩:=aB;have aJ:=aee (ev (gs.getD j .J)) [];have CM:small (List.foldl sI [] (ev (gs.getD j .J))).length=true:=aS (by have:=bH a3;rw[gw]at aJ;omega);have dV:bl (([]:List AV).length:Int) 0 ([]:List AV).length=true:=gn;rw[aU,bc,bJ,a3,a4,a5,e1 CM,dV,b2,bX,mN EY,bw,bQ,bN,cn];cases(ky (fZ (gs.getD j .J)) (ev (gs.getD j .J)) (fS (gs.getD j .J))).1 !=0<;>rfl
  .obtain rfl:j=gs.length:=al;exact Hy
 .cases h
noncomputable def aeg:List AV->List (Option Row)->a6 cy
 |[.ab (.agg [.str,.slice (.agg [.str,.int .i64]),.str,.slice (.agg [.str,.str]),.slice (.int .u8)]) gs,.ab (.int .i64) ae,.bool z,.ptr 514 0,.own p,.int .i64 y],[some (.box false [.ab (.agg [.int .i64,.str,.slice (.agg [.str,.int .i64]),.str,.slice (.agg [.str,.str]),.slice (.int .u8),.int .i64,.int .i64,.int .i64,.slice (.agg [.str,.int .i64,.int .i64,.bool])]) es,.int .i64 nx]),some (.arr false (.agg [.int .i64,.str,.slice (.int .i64)]) 49 bs none)]=>
  .bt (Nat.beq p 9990&&(bl ae.length y ae.length&&(gs.all jv&&(small gs.length&&hv (ae.length<=40/\oH nx y.toNat (es,bs))))))
   (.cY (mI nx (ae.drop y.toNat) y.toNat (es,bs)).1
    (.leaf (.ret,[.ab ln gs,.ab gm ae,.bool true,.ptr 514 0,.own 9990,.int .i64 ((mI nx (ae.drop y.toNat) y.toNat (es,bs)).2.2:Nat)],[some (.box false [.ab db (mI nx (ae.drop y.toNat) y.toNat (es,bs)).2.1.1,.int .i64 nx]),some (.arr false rF 49 (mI nx (ae.drop y.toNat) y.toNat (es,bs)).2.1.2 none)]))
    (.leaf (.exit 2,[.ab ln gs,.ab gm ae,.bool z,.ptr 514 0,.own 9990,.int .i64 ((mI nx (ae.drop y.toNat) y.toNat (es,bs)).2.2:Nat)],[some (.box false [.ab db (mI nx (ae.drop y.toNat) y.toNat (es,bs)).2.1.1,.int .i64 nx]),some (.arr false rF 49 (mI nx (ae.drop y.toNat) y.toNat (es,bs)).2.1.2 none)])))
 |[.ab (.agg [.str,.slice (.agg [.str,.int .i64]),.str,.slice (.agg [.str,.str]),.slice (.int .u8)]) gs,.ab (.int .i64) ae,.bool z,.ptr 514 0,.own p,.int .i64 y],[some (.box false [.bf (.agg [.int .i64,.str,.slice (.agg [.str,.int .i64]),.str,.slice (.agg [.str,.str]),.slice (.int .u8),.int .i64,.int .i64,.int .i64,.slice (.agg [.str,.int .i64,.int .i64,.bool])]),.int .i64 0]),some (.arr false (.agg [.int .i64,.str,.slice (.int .i64)]) 49 [] none)]=>
  .bt (Nat.beq p 9990&&(bl ae.length y ae.length&&(small gs.length&&decide (ae.length<=40))))
   (.cY (mI 0 (ae.drop y.toNat) y.toNat ([],[])).1
    (.leaf (.ret,[.ab ln gs,.ab gm ae,.bool true,.ptr 514 0,.own 9990,.int .i64 ((mI 0 (ae.drop y.toNat) y.toNat ([],[])).2.2:Nat)],[some (.box false [.bf db,.int .i64 0]),some (.arr false rF 49 [] none)]))
    (.leaf (.exit 2,[.ab ln gs,.ab gm ae,.bool z,.ptr 514 0,.own 9990,.int .i64 ((mI 0 (ae.drop y.toNat) y.toNat ([],[])).2.2:Nat)],[some (.box false [.bf db,.int .i64 0]),some (.arr false rF 49 [] none)])))
 |_,_=>.no
noncomputable def AU:Ev.Loop:=⟨{len:=178,dr:=[0,1,4,7,8,9],rows:=[514,9990],homes:=[(8,9990,49)]},dP aeg⟩
def atc(vs:List AV)(_:List (Option Row)):Nat:=match vs with
 |[_,.ab _ ae,_,_,_,.int _ i]=>((ae.length:Int)-i).toNat
 |_=>0
def aeh(nx:Int){j:Nat}(st:List AV×List AV)(h:j<ae.length):mI nx (ae.drop j) j st=bif !ef (aW (ae.getD j .J)) 0 1000 then(true,(st,j))else mI nx (ae.drop (j+1)) (j+1) (AO nx j (aW (ae.getD j .J)) st):=by rw[rP h,List.getD,fC h];rfl
def atd{α:Type}{a b:Bool}{x y:α}:(bif a then x else bif b then x else y)=bif(a||b)then x else y:=by cases a<;>cases b<;>rfl
def aei:oF [] 0:={len:=gn,wF:=λ_ h=>cM,ua:=rfl,sS:=rfl,vb:=rfl,wG:=rfl,jk:=rfl,yn:=λ_ h=>cM,oG:=ui _,yg:=gn}
def ate(h:y<=40):oH 0 y ([],[]) where
 q:=aei
 Lt:=h
 Dg:=iM _
 AP:=λ_ h=>cM
 uL:=λ_ h=>cM
 eK:=List.Pairwise.nil
 yp:=λ_=>iM _
def atf(y t:Int):AO 0 y t ([],[])=([],[]):=by
 have h:wH t ([]:List AV)=true:=by unfold wH;exact Bool.or_true _
 unfold AO;rw[h];rfl
def atg:dj prog wL [(5,fq),(11,AU),(30,wM),(38,wN),(42,vh)] LB AU:=by
 refine ed g3.dX rfl (ch.all (bs:=[R2,LC,LD]) aG (λb ag=>?_)) atc (λaj vs rs k r h=>?_)
 .simp only[gv,mh,mi]at ag;rcases ag with rfl|rfl|rfl
  .exact⟨wM,aG,aeb _⟩
  .exact⟨wN,aG,aef⟩
  .exact⟨vh,aG,R3 _⟩
 unfold aeg at h;split at h
 .rename_i gs ae z p y es nx bs;obtain⟨aa,ai⟩:=bz h;simp only[ba]at aa;obtain⟨au,aa,cn,k3,aX⟩:=aa;obtain⟨xb,ig⟩:=wC aX;obtain rfl:=cH au;obtain⟨_,an,j,rfl,aP⟩:=eA aa;rw[bK]at ai ig;refine bn (b:=have aO:=(Sh.agg [Sh.int i64,Sh.str,(Sh.agg [Sh.str,Sh.int i64]).slice,Sh.str,(Sh.agg [Sh.str,Sh.str]).slice,(Sh.int u8).slice,Sh.int i64,Sh.int i64,Sh.int i64,(Sh.agg [Sh.str,Sh.int i64,Sh.int i64,Sh.bool]).slice]);have bd:=(Sh.agg [Sh.str,(Sh.agg [Sh.str,Sh.int i64]).slice,Sh.str,(Sh.agg [Sh.str,Sh.str]).slice,(Sh.int u8).slice]);have bk:=(bs.getD 0 .J);have cJ:=(eo es nx (jj bk) (gT bk) (cW bk) true);have gO:=(aW (ae.getD j .J));have gu:=(j:Int);have bI:=(i64.wrap (gu+(1:Int)));have kZ:=(Sh.int .i64);have b3:=(Sh.agg [.int .i64,.str,kZ.slice]);have gZ:=[some (Row.box false [.ab aO es,.I nx]),some (.arr false b3 49 bs none)];have kY:=((cW bk).length:Int);have fM:=(List.replicate kY.toNat (lI prog 3));have aZ:=([]++hY gO (fM.length-Int.toNat (0:Int)));have ji:=(p9 es cJ.fst.toNat (cW bk) aZ gu);have ng:=(p9 es cJ.fst.toNat (cW bk) aZ gu,List.drop (Int.toNat (1:Int)) bs);have nh:=((ib es gu).length:Int);have av:=((ib es gu).getD (gO.tmod nh).toNat .J);have cd:=(eo es nx (jj av) (gT av) (cW av) false);have ft:=[AV.agg [.I (jj av),.str (gT av),.ab kZ (cW av)]];have mf:=(ae.length:Int);have dD:=decide ((mf-i64.wrap (gu+(1:Int))).toNat<(mf-gu).toNat);have pd:=(wx es cd.fst.toNat (cW av));have qN:=(Ex.exit 2);have rI:=(List.drop bI.toNat ae);have aF:=(mI nx rI bI.toNat ng);have bF:=(mI nx rI bI.toNat (es,bs));have gC:=[some (Row.box false [.ab aO aF.snd.fst.fst,.I nx]),some (.arr false b3 49 aF.snd.fst.snd none)];have fQ:=[some (Row.box false [.ab aO bF.snd.fst.fst,.I nx]),some (.arr false b3 49 bF.snd.fst.snd none)];have tZ:=(wx es cd.fst.toNat (cW av),bs++ft);have aI:=(mI nx rI bI.toNat tZ);have hN:=[some (Row.box false [.ab aO aI.snd.fst.fst,.I nx]),some (.arr false b3 49 aI.snd.fst.snd none)];have wE:=inb gu ae.length;have yl:=((8:Nat),(9990:Nat),(49:TypeId));have az:=bif AH es nx gu then bif nh==0 then bif dD then bif Nat.beq 9990 9990&&(bl mf bI ae.length&&(gs.all jv&&(small gs.length&&hv (ae.length<=40/\oH nx bI.toNat (es,bs)))))then bif bF.fst then k .ret [.ab bd gs,.ab kZ ae,.bool true,.ptr 514 0,.own 9990,.I (bF.snd.snd:Int)] fQ else k qN [.ab bd gs,.ab kZ ae,.bool z,.ptr 514 0,.own 9990,.I (bF.snd.snd:Int)] fQ else none else none else bif wE then bif decide (nh=(0:Int))then none else bif inb (gO.tmod nh) (ib es gu).length then bif CS es nx (jj av) (gT av) (cW av) cd.fst.toNat then bif roomB (bs.length+ft.length) (prog.bytesOf 49)then bif yl.snd.fst.beq 9990&&(bl (gs.length:Int) (0:Int) gs.length&&(gs.all jv&&(small pd.length&&pd.all hX&&hv (∀(d:List UInt8),e4 pd d<=2))))then bif dD then bif Nat.beq 9990 9990&&(bl mf bI ae.length&&(gs.all jv&&(small gs.length&&hv (ae.length<=40/\oH nx bI.toNat tZ))))then bif aI.fst then k .ret [.ab bd gs,.ab kZ ae,.bool true,.ptr 514 0,.own 9990,.I (aI.snd.snd:Int)] hN else k qN [.ab bd gs,.ab kZ ae,.bool z,.ptr 514 0,.own 9990,.I (aI.snd.snd:Int)] hN else none else none else none else none else none else none else none else none;bif decide (gu<mf)then bif wE then bif !ef gO (0:Int) (1000:Int)then k .ret [.ab bd gs,.ab kZ ae,.bool true,.ptr 514 0,.own 9990,.I gu] gZ else bif wE then bif gO.tmod (2:Int)==0 then az else bif(bs.length:Int)==0 then az else bif inb (0:Int) bs.length then bif decide (Int.toNat (0:Int)<bs.length)then bif decide ((0:Int)<=(1:Int))&&decide ((1:Int)<=(bs.length:Int))then bif kY==kY&&(decide ((0:Int)<=kY)&&roomB kY.toNat (prog.bytesOf 3))then bif(28*64+(0+1+1+1)).beq 1795&&yl.snd.fst.beq 9990&&(inb gu ae.length&&(bl (fM.length:Int) (0:Int) fM.length&&ef gO (0:Int) (1000:Int)))then bif Dl es nx (jj bk) (gT bk) (cW bk) aZ gu cJ.fst.toNat then bif Nat.beq 9990 9990&&(bl (gs.length:Int) (0:Int) gs.length&&(gs.all jv&&(small ji.length&&ji.all hX&&hv (∀(d:List UInt8),e4 ji d<=2))))then bif dD then bif Nat.beq 9990 9990&&(bl mf bI ae.length&&(gs.all jv&&(small gs.length&&hv (ae.length<=40/\oH nx bI.toNat ng))))then bif aF.fst then k .ret [.ab bd gs,.ab kZ ae,.bool true,.ptr 514 0,.own 9990,.I (aF.snd.snd:Int)] gC else k qN [.ab bd gs,.ab kZ ae,.bool z,.ptr 514 0,.own 9990,.I (aF.snd.snd:Int)] gC else none else none else none else none else none else none else none else none else none else none else none else k qN [.ab bd gs,.ab kZ ae,.bool z,.ptr 514 0,.own 9990,.I gu] gZ) ?_;conv=>zeta
  rw[<-ai];by_cases aL:j<ae.length
  .obtain⟨aU,bc,bw,bQ,bN⟩:=ew aL an;rw[aeh nx (es,bs) aL];cases qC:ef (aW (ae.getD j .J)) 0 1000
   .exact TO
   .have cG:=as2 ig (by omega:j<40) qC;have bp:bl (gs.length:Int) 0 gs.length=true:=e1 k3;rw[bw];refine aT (a' aU) (aT (a' bc) (aT (fP rfl) (aT (a' bc) (aT atd ?_))));have cu:AO nx j (aW (ae.getD j .J)) (es,bs)=bif wH (aW (ae.getD j .J)) bs then(bif((ib es j).length:Int)==0 then(es,bs)else
      (wx es (eo es nx (jj (uc es j (aW (ae.getD j .J)))) (gT (uc es j (aW (ae.getD j .J)))) (cW (uc es j (aW (ae.getD j .J)))) false).1.toNat (cW (uc es j (aW (ae.getD j .J)))),bs++[sR (uc es j (aW (ae.getD j .J)))]))
      else(p9 es (eo es nx (jj (bs.getD 0 .J)) (gT (bs.getD 0 .J)) (cW (bs.getD 0 .J)) true).1.toNat (cW (bs.getD 0 .J)) (hY (aW (ae.getD j .J)) (cW (bs.getD 0 .J)).length) j,bs.drop 1):=rfl
    rw[cu]at cG;simp only[cU,lY];rw[cu];cases ag:wH (aW (ae.getD j .J)) bs
    .rw[ag]at cG;unfold wH at ag;refine aT (fP ag) ?_;rw[mM]at ag;have hx:0<bs.length:=by have:=ag.2;simp at this;exact Be.2 this
     have hm:bs.getD 0 .J∈bs:=by rw[List.getD,fC hx];exact p3 hx
     have ca:=(ig.AP _ hm).2;have dS:=asJ ig hx qC;have b0:(((cW (bs.getD 0 .J)).length:Int)==((cW (bs.getD 0 .J)).length:Int))=true:=bb;have bS:(decide ((0:Int)<=((cW (bs.getD 0 .J)).length:Int))&&roomB ((cW (bs.getD 0 .J)).length:Int).toNat (prog.bytesOf 3))=true:=aV (aS al) (hW al (bH aG));rw[yL];refine aT (a' (ie al al)) (aT (a' (aS hx)) (aT (a' (aV (aS al) (aS al))) (aT (a' (aV b0 bS)) ?_)));refine aT (a' (aV rfl (aV bc (aV (e1 (aS ?_)) rfl)))) (aT (a' dS) ?_)
     .show(cW (bs.getD 0 .J)).length<=_;omega
     refine aT (a' (aV rfl (aV bp (aV cn (aV (aV (aS ?_) cG.q.sS) (mN cG.yp)))))) ?_
     .exact lp cG.q.len gn
     exact Tt
    .rw[ag]at cG;unfold wH at ag;refine aT (a' ag) (aT (a' (adB ig)) ?_);cases ay:((ib es j).length:Int)==0
     .rw[ay]at cG;have l5:0<(ib es j).length:=by simp at ay;exact Be.2 ay
      unfold ef at qC;simp only[ba,fD]at qC;have qy:0<=(aW (ae.getD j .J)).tmod (ib es j).length:=Int.tmod_nonneg _ qC.1;have Cp:(aW (ae.getD j .J)).tmod (ib es j).length<(ib es j).length:=L5 _ al;have gr:((aW (ae.getD j .J)).tmod (ib es j).length).toNat<(ib es j).length:=al;have bg:=as1 ig gr;have Ai:=ig.Dg;refine aT (fP rfl) (aT (a' bc) (aT (fP (cZ (by have:=l5;omega))) (aT (a' (ie qy al)) (aT (a' bg) (aT (a' (aax ?_)) ?_)))))
      .show bs.length+1<=1000001;have:bs.length<=j:=Ai;omega
      refine aT (a' (aV rfl (aV bp (aV cn (aV (aV (aS ?_) cG.q.sS) (mN cG.yp)))))) ?_
      .exact lp cG.q.len gn
      exact Tt
     .rw[ay]at cG;exact aT (a' rfl) (aT (a' bN) (aT (a' (aV rfl (aV bQ (aV cn (aV k3 (mN ⟨xb,cG⟩)))))) rfl))
  .obtain rfl:j=ae.length:=al;exact oQ
 .rename_i gs ae z p y;obtain⟨aa,ai⟩:=bz h;simp only[ba]at aa;obtain⟨au,aa,k3,aX⟩:=aa;have xb:=bH aX;obtain rfl:=cH au;obtain⟨_,an,j,rfl,aP⟩:=eA aa;rw[bK]at ai;refine bn (b:=have aF:=(Sh.agg [Sh.str,(Sh.agg [Sh.str,Sh.int i64]).slice,Sh.str,(Sh.agg [Sh.str,Sh.str]).slice,(Sh.int u8).slice]);have aZ:=(ae.length:Int);have bd:=(j:Int);have aO:=(i64.wrap (bd+(1:Int)));have aI:=(mI (0:Int) (List.drop aO.toNat ae) aO.toNat ([],[]));have bk:=(Sh.int .i64);have az:=[some (Row.box false [.bf (.agg [.int .i64,.str,.slice (.agg [.str,.int .i64]),.str,.slice (.agg [.str,.str]),.slice (.int .u8),.int .i64,.int .i64,.int .i64,.slice (.agg [.str,.int .i64,.int .i64,.bool])]),.I 0]),some (.arr false (.agg [.int .i64,.str,bk.slice]) 49 [] none)];have av:=bif AH [] (0:Int) bd then bif decide ((aZ-i64.wrap (bd+(1:Int))).toNat<(aZ-bd).toNat)then bif Nat.beq 9990 9990&&(bl aZ aO ae.length&&(small gs.length&&decide (ae.length<=40)))then bif aI.fst then k .ret [.ab aF gs,.ab bk ae,.bool true,.ptr 514 0,.own 9990,.I (aI.snd.snd:Int)] az else k (.exit 2) [.ab aF gs,.ab bk ae,.bool z,.ptr 514 0,.own 9990,.I (aI.snd.snd:Int)] az else none else none else none;bif decide (bd<aZ)then bif inb bd ae.length then bif !ef (aW (ae.getD j .J)) (0:Int) (1000:Int)then k .ret [.ab aF gs,.ab bk ae,.bool true,.ptr 514 0,.own 9990,.I bd] az else bif inb bd ae.length then bif(aW (ae.getD j .J)).tmod (2:Int)==0 then av else av else none else none else k (.exit 2) [.ab aF gs,.ab bk ae,.bool z,.ptr 514 0,.own 9990,.I bd] az) ?_;conv=>zeta
  rw[<-ai];by_cases aL:j<ae.length
  .obtain⟨aU,bc,bw,bQ,bN⟩:=ew aL an;rw[aeh 0 ([],[]) aL];have ah:AH [] 0 j=true:=adB (ate (by omega:j<=40));cases qC:ef (aW (ae.getD j .J)) 0 1000
   .exact TO
   .simp only[cU,lY];rw[atf,bw];refine aT (a' aU) (aT (a' bc) (aT (a' bc) ?_));cases(aW (ae.getD j .J)).tmod 2==0
    .exact aT (fP rfl) (aT (a' ah) (aT (a' bN) (aT (a' (aV rfl (aV bQ (aV k3 aX)))) rfl)))
    .exact aT (a' rfl) (aT (a' ah) (aT (a' bN) (aT (a' (aV rfl (aV bQ (aV k3 aX)))) rfl)))
  .obtain rfl:j=ae.length:=al;exact oQ
 .cases h
end Go.Proofs.YtijdnecnjenleaaGreatDoor
