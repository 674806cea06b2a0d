/-
  Calls that the model answers itself: two strings compared, two slices that do not overlap.
-/
import Derived.Test.YtijdnecnjenleaaGreatDoorEvQ
import Derived.ProofKit
import Derived.OpenShut
import Derived.Lib.Overlaps
set_option linter.all false
namespace Go.Ev
open Go.RowKit
variable{i:Nat}{e:dx}{rows:List (Nat×Row)}{o:Oper}{j:Nat}{x:Oper}{site:Nat}{y:Oper}{s t st:bC}{f:dx}{rows':List (Nat×Row)}{ty:TypeId}{aj:Type}{w0:World}{bh:Nat->Prop}{w:World}{ek lQ bi:List Nat}{listed:Array Bool}{fn:Func}{Q:Exit->Act->World->Prop}
section shape
variable{P:Program}{aq:Env}{site:Nat}
def Shape(aq:Env)(o:Oper)(rows:List (Nat×Row))(e:dx):Prop:=(changes aq o.op=false->e.mod=none/\e.del=none/\e.nu=[]/\e.nv=[]/\e.news=[])/\(gi aq o.op=false->e.new=none/\e.bW=[])/\∀id∈e.bW,∃r,lookup rows id=some r
theorem i'(o:Oper)(rows:List (Nat×Row))(v:AV):Shape aq o rows {v}:=⟨λ_=>⟨rfl,rfl,rfl,rfl,rfl⟩,λ_=>⟨rfl,rfl⟩,λid h=>k1⟩
theorem TM(o:Oper)(rows:List (Nat×Row)){t:TypeId}{cs:List AV}(h:lJ P t cs (λv=>some ({v}:dx))=some e):Shape aq o rows e:=by
 rw[II]at h;cases ay:lJ P t cs some with
 |none=>simp[ay]at h
 |some v=>grind[i']
theorem aid(o:Oper)(rows:List (Nat×Row)){op:BinOp}{t:TypeId}{x:AV}(h:s' P op t x (λv=>some ({v}:dx))=some e):Shape aq o rows e:=by
 rw[OE]at h;cases ay:s' P op t x some with
 |none=>simp[ay]at h
 |some v=>grind[i']
def zP{α:Type}{b:Bool}{x z:Option α}{r:α}(h:(bif b then x else z)=some r):x=some r\/z=some r:=bM
theorem aie(o:Oper)(rows:List (Nat×Row)){op:BinOp}{t:TypeId}{x:Option Row}(h:q9 P op t x (λv=>some ({v}:dx))=some e):Shape aq o rows e:=by
 have:∃v:AV,e={v}:=by
  unfold q9 at h;split at h
  .grind
  .cases h
 grind[i']
theorem aif(o:Oper)(rows:List (Nat×Row)){e':TypeId}{x:AV}{lo hi mx:Option AV}(h:te P e' x lo hi mx rows some=some e):Shape aq o rows e:=by
 have:∃v:AV,e={v}:=by
  unfold te at h
  repeat' split at h
  all_goals grind
 grind[i']
theorem V3{α:Type}{k:AV}{es:List AV}{f:AV->Nat->Option α}{z:Option α}{e:α}(h:r2 k es f z=some e):(∃v n,f v n=some e)\/z=some e:=by
 rcases HW k es f z with⟨n,e',_,_,af⟩|⟨_,af⟩
 .grind
 grind
theorem aih(o:Oper)(rows:List (Nat×Row)){op:BinOp}{t:TypeId}{x z:AV}(h:evBin P op t x z (λv=>some ({v}:dx))=some e):Shape aq o rows e:=by
 rw[OD]at h;cases ay:evBin P op t x z some with
 |none=>simp[ay]at h
 |some v=>grind[i']
theorem V4{F:jD}(hF:hA F){aA:List AV}(h:uv site F aA rows some=some e):∃p,dp (cB rows depth) aA=some p/\∃(v:AV)(r:Row),e={v:=v,new:=some r,bW:=p.2}:=by
 unfold uv at h;split at h
 .cases h
 .rename_i p au;rw[hF dx]at h;generalize F _ _ _ _=x at h;cases x with
  |none=>cases h
  |some t=>grind
theorem OL{op:Op}(h:gi aq op=false):changes aq op=false:=by
 cases op<;>first|rfl|(simp[gi]at h;done)|skip
 .rename_i c;obtain⟨callee,args,ae⟩:=c;cases callee with
  |builtin b=>simp[gi]at h
  |invoke r m=>simp[gi]at h
  |value f=>
   cases f with
   |func g=>simp_all[gi,changes]
   |tmp t=>simp[gi]at h
   |const t=>simp[gi]at h
   |global t=>simp[gi]at h
theorem aii:∀(n:Nat)(v:AV)(p:AV×List Nat),v.refs=[]->cB rows n v=some p->p.2=[]:=by
 intro n;induction n with
 |zero=>grind[cB]
 |succ n ih=>
  intro v p ar h;have eD:∀(cs:List AV)(q:List AV×List Nat),AV.rY cs=[]->dp (cB rows n) cs=some q->q.2=[]:=by
   intro cs;induction cs with
   |nil=>grind[dp]
   |cons c cs ah8=>grind[AV.rY,List.append_eq_nil_iff,dp]
  cases v<;>simp only[cB]at h
  case ptr=>simp[AV.refs]at ar
  case eptr=>simp[AV.refs]at ar
  case own=>simp[AV.refs]at ar
  case sub=>simp[AV.refs]at ar
  case agg cs=>
   cases au:dp (cB rows n) cs with
   |none=>simp[au]at h
   |some q=>simp[au]at h;subst h;exact eD cs q ar au
  case tup cs=>
   cases au:dp (cB rows n) cs with
   |none=>simp[au]at h
   |some q=>simp[au]at h;subst h;exact eD cs q ar au
  case fn f cs=>
   cases au:dp (cB rows n) cs with
   |none=>simp[au]at h
   |some q=>simp[au]at h;subst h;exact eD cs q ar au
  all_goals grind
theorem V5{rows:List (Nat×Row)}(n:Nat):∀(cs:List AV){q:List AV×List Nat},(∀c∈cs,c.refs=[])->dp (cB rows n) cs=some q->q.2=[]
 |[],q,_,h=>by grind[dp]
 |c::cs,q,aD,h=>by
  simp only[dp]at h;cases af:cB rows n c with
  |none=>simp[af]at h
  |some cF=>
   cases ao:dp (cB rows n) cs with
   |none=>simp[af,ao]at h
   |some d'=>simp[af,ao]at h;subst h;simp[aii n c cF (aD c bb) af,V5 n cs (λx ak=>aD x lv) ao]
theorem aij(cG:mY aq){tm:List AV}(h:b7 P aq site o tm rows some=some e):Shape aq o rows e:=by
 unfold b7 at h;split at h
 .grind[i']
 .grind[i']
 .grind[i']
 .rename_i t aw;split at h
  .exact Mz
  .cases h
 .rename_i t x aw;split at h
  .exact Mz
  .cases h
 .grind[i']
 .rename_i t len parts aw;split at h
  .split at h
   .grind[i']
   .split at h
    .cases h
    .split at h
     .split at h
      .rename_i q aH;split at h
       .split at h
        .cases h;exact⟨λ_=>⟨rfl,rfl,rfl,rfl,rfl⟩,λaa=>Mo,qa (rows:=rows) (qU depth) _ _ aH⟩
        .cases h
       .cases h
      .cases h
     .cases h
  .cases h
 .split at h
  .grind[TM]
  .exact Bt
  .exact Bt
  .split at h
   .obtain⟨_,h⟩:=e7 h;exact Bt
   .rcases zP h with h|h
    .exact Bt
    .split at h
     .cases h
     rcases zP h with h|h
     .exact Bt
     .obtain⟨_,h⟩:=e7 h;exact Bt
   .cases h
  .cases h
 .rename_i t x z aw;split at h
  .split at h
   .split at h
    .split at h
     .exact Tv
     .cases h
    .cases h
   .split at h
    .rcases zP h with h|h
     .split at h
      .exact Tv
      .cases h
     .split at h
      .cases h
      split at h
      .rename_i p au;split at h
       .rcases zP h with h|h
        .split at h
         .exact Ho
         .cases h
        .obtain⟨_,h⟩:=e7 h;split at h
         .exact Ho
         .cases h
       .cases h
      .cases h
    split at h
    .rename_i p au;split at h
     .split at h
      .obtain⟨_,h⟩:=e7 h;exact Ho
      .cases h
     .cases h
    .cases h
   .cases h
  .cases h
 .grind[i']
 .grind[aie,aid,aih]
 .grind[i']
 .rename_i src dst x aw;split at h
  .grind[i']
  .grind[i']
  .grind[uu,i']
  .cases h
 .grind[i']
 .rename_i t x lo hi mx aw;split at h
  .split at h
   .split at h
    .exact vw
    .cases h
   .split at h
    .split at h
     .rename_i au;split at h
      .exact Hp
      .cases h
     .cases h
    .cases h
   .split at h
    .exact aif _ _ h
    split at h
    .split at h
     .cases h
     .rename_i im s e' es sp _ _;split at h
      .rename_i oW;have OK:(!aq.ext.isEmpty)=true:=bM;split at h
       .exact Tq
       .cases h
      .split at h
       .rename_i oW;have OK:(!aq.ext.isEmpty)=true:=by
          cases he:aq.ext with
          |nil=>rw[he]at oW;simp at oW
          |cons a l=>rfl
        split at h
        .split at h
         .exact Tq
         .cases h
        .cases h
       .exact vw
    .cases h
    split at h
    .rename_i au;split at h
     .cases h
     .split at h
      .obtain⟨_,h⟩:=e7 h;exact Hp
      .split at h
       .obtain⟨_,h⟩:=e7 h;exact Hp
       .cases h
      grind[i']
    .cases h
   .cases h
  .cases h
 .grind[i']
 .split at h
  .split at h
   .grind[i']
   .cases h
  .cases h
 .split at h
  .split at h
   .split at h
    .exact vw
    .cases h
   .split at h
    .split at h
     .exact vw
     .cases h
    .split at h
     .exact vw
     .cases h
    .cases h
   .split at h
    .split at h
     .exact vw
     .cases h
    .cases h
   .split at h
    .exact vw
    .cases h
   .split at h
    .exact vw
    .cases h
   .cases h
  .cases h
 .split at h
  .split at h
   .exact vw
   .split at h
    .cases h
    .split at h
     .obtain⟨_,h⟩:=e7 h;cases h;exact i' _ _ _
     .cases h
   .cases h
  .cases h
 .split at h
  .split at h
   .cases h;exact i' _ _ _
   .cases h
  .cases h
 .rename_i t x aw;split at h
  .split at h
   .rename_i cs ids au;exact Hp
   .cases h
  .cases h
 .rename_i t l c aw;split at h
  .split at h
   .obtain⟨_,h⟩:=e7 h;exact Mz
   .cases h
  .cases h
 .rename_i t aw;split at h
  .split at h<;>(cases h;exact⟨λ_=>⟨rfl,rfl,rfl,rfl,rfl⟩,λaa=>Mo,λid h=>k1⟩)
  .cases h
 .rename_i t x k ok aw;split at h
  .split at h
   .simp only[AV.force_eq]at h;obtain⟨_,h⟩:=e7 h;rcases zP h with h|h
    .cases ok<;>(cases h;exact i' _ _ _)
    .split at h
     .cases ok<;>(cases h;exact i' _ _ _)
     .cases h
   .cases h
  grind[AV.force_eq,V3,i']
 .rename_i t m k x aw;split at h
  .split at h
   .split at h
    .rename_i p au;split at h
     .simp only[AV.force_eq]at h;obtain⟨_,h⟩:=e7 h;exact Ho
     .cases h
    .cases h
   .cases h
  .split at h
   .split at h
    .simp only[AV.force_eq]at h;rcases V3 h with⟨_,n,h⟩|h<;>(cases h;exact⟨λaa=>by simp[aw,changes]at aa,λaa=>Mo,λid h=>k1⟩)
    .cases h
   .cases h
  .cases h
 .rename_i b args ae aw;split at h
  .unfold ur at h;simp only[Bv]at h;split at h
   .have ir:changes aq o.op=true:=um;have uK:gi aq o.op=true:=um;have sd:∀e:dx,e.bW=[]->Shape aq o rows e:=λe he=>⟨λaa=>absurd (ir.symm.trans aa) bb,λaa=>absurd (uK.symm.trans aa) bb,λid h=>Mp⟩
    repeat' split at h
    all_goals first|(cases h;done)|(obtain⟨_,h⟩:=e7 h;cases h;exact sd _ rfl)
   .have ir:changes aq o.op=true:=um;have uK:gi aq o.op=true:=um;have sd:∀e:dx,e.bW=[]->Shape aq o rows e:=λe he=>⟨λaa=>absurd (ir.symm.trans aa) bb,λaa=>absurd (uK.symm.trans aa) bb,λid h=>Mp⟩
    repeat' split at h
    all_goals first|(cases h;done)|(obtain⟨_,h⟩:=e7 h;cases h;exact sd _ rfl)
   .cases h
  rw[q7]at h;unfold q6 at h;split at h
  .unfold tc at h
   repeat' split at h
   all_goals first|(cases h;exact i' _ _ _)|cases h
  .split at h<;>first|(cases h;exact i' _ _ _)|cases h
  .split at h<;>first|(cases h;exact i' _ _ _)|cases h
  .have ir:changes aq o.op=true:=um;have uK:gi aq o.op=true:=um;have sd:∀e:dx,e.bW=[]->Shape aq o rows e:=λe he=>⟨λaa=>absurd (ir.symm.trans aa) bb,λaa=>absurd (uK.symm.trans aa) bb,λid h=>Mp⟩
   repeat' split at h
   all_goals first|cases h|(obtain⟨_,h⟩:=e7 h;cases h;exact sd _ rfl)
  .have ir:changes aq o.op=true:=um;have uK:gi aq o.op=true:=um;grind[Shape,absurd]
  .cases h
 .rename_i f args ae aw;split at h
  .rename_i g gF gY;split at h
   .rename_i F hF;split at h
    .split at h
     .rename_i xH;refine⟨λ_=>?_,λaa=>?_,?_⟩
      .obtain⟨_,_,_,_,aU⟩:=V4 (cG.2.1 _ F (zI hF)) h;grind
      .exfalso;rw[aw]at aa;cases f with
       |tmp t=>simp[gi]at aa
       |const t=>simp[gi]at aa
       |global t=>simp[gi]at aa
       |func g0=>simp only[gi,mM,L4,GM]at aa;simp only[val,AV.fn.injEq]at gY;obtain⟨rfl,rfl⟩:=gY;have:q4 aq g0=some F:=hF;grind
      .obtain⟨p,au,_,_,aU⟩:=V4 (cG.2.1 _ F (zI hF)) h;rw[aU];exact qa (rows:=rows) (qU depth) _ _ au
     .rename_i xH;have ir:changes aq o.op=true:=by grind[changes,VU]
      have uK:gi aq o.op=true:=by
       cases mm:gi aq o.op with
       |true=>rfl
       |false=>rw[OL mm]at ir;cases ir
      refine⟨λaa=>absurd (ir.symm.trans aa) bb,λaa=>absurd (uK.symm.trans aa) bb,?_⟩;unfold nw at h;split at h
      .cases h
      .rename_i p au;split at h
       .cases h
       .rename_i q aH;split at h
        .rw[cG.2.1 _ F (zI hF) dx]at h;generalize F _ _ _ _=x at h;cases x with
         |none=>cases h
         |some x=>
          simp only[j0]at h;split at h
          .cases h;intro id hid;simp only[gD]at hid;rcases hid with hid|hid
           .exact Hw
           grind[BL]
          .cases h
        .cases h
    .cases h
   split at h
   .rename_i p au;split at h
    .rename_i F hF;split at h
     .rw[cG.1 _ F hF dx]at h;generalize F AV (AV.lG p.1) some=x at h;cases x with
      |none=>cases h
      |some x=>
      cases h;refine⟨λ_=>⟨rfl,rfl,rfl,rfl,rfl⟩,λaa=>?_,λid hid=>?_⟩
      .rw[aw]at aa;cases f with
       |tmp t=>simp[gi]at aa
       |const t=>simp[gi]at aa
       |global t=>simp[gi]at aa
       |func g0=>simp only[gi,mM,Bb]at aa;simp only[val,AV.fn.injEq]at gY;obtain⟨rfl,rfl⟩:=gY;rw[jy]at au;have:=V5 depth _ (IL tm ae.toList args.toList (by simpa using aa.2)) au;refine⟨rfl,?_⟩;show(if _ then _ else p.2)=[];rw[this];split<;>rfl
      simp only at hid;split at hid
      .simp at hid
      .exact qa (rows:=rows) (qU depth) _ _ au id hid
     .cases h
    .cases h
   .cases h
  .rename_i avP gY;split at h
   .rename_i key np F hF;have ir:changes aq o.op=true:=by grind[changes,VV]
    have uK:gi aq o.op=true:=by
     cases mm:gi aq o.op with
     |true=>rfl
     |false=>rw[OL mm]at ir;cases ir
    split at h
    .split at h
     .refine⟨λaa=>absurd (ir.symm.trans aa) bb,λaa=>absurd (uK.symm.trans aa) bb,?_⟩;unfold nw at h;split at h
      .cases h
      .rename_i p au;split at h
       .cases h
       .rename_i q aH;split at h
        .rw[cG.2.2 _ _ F hF dx]at h;generalize F _ _ _ _=x at h;cases x with
         |none=>cases h
         |some x=>
          simp only[j0]at h;split at h
          .cases h;intro id hid;simp only[gD]at hid;rcases hid with hid|hid
           .exact Hw
           grind[BL]
          .cases h
        .cases h
     .cases h
    .cases h
   .cases h
  .cases h
 .cases h
end shape
section steps
variable{P:Program}{aq:Env}{rid:Nat}{ops:Array Oper}{tab:List (List Nat)}
def vW(P:Program)(aq:Env)(rid:Nat)(tab:List (List Nat))(i:Nat)(o:Oper)(st:bC):Option bC:=(b7 P aq (rid*64+i) o st.tm (hQ rid (tab.getD i []) st.rows) some).bind λe=>if gX (rid*64+i) e st.used then some (apply (rid*64+i) o.dst e st)else none
def Ca(o:Oper)(st:bC):bC:=⟨hl st.tm o.dst .undef,st.rows,st.used⟩
def mz(P:Program)(aq:Env)(rid:Nat)(ops:Array Oper)(tab:List (List Nat))(i:Nat)(st:bC):Option bC:=
 match ops[i]?with
 |none=>some st
 |some o=>
  match o.guard with
  |none=>vW P aq rid tab i o st
  |some (j,want)=>
   match k6 ops.toList st.tm j with
   |.bool b=>if b==want then vW P aq rid tab i o st else some (Ca o st)
   |.undef=>some (Ca o st)
   |_=>none
def o5(P:Program)(aq:Env)(rid:Nat)(ops:Array Oper)(tab:List (List Nat)):List Nat->bC->Option bC
 |[],st=>some st
 |i::l,st=>(mz P aq rid ops tab i st).bind (o5 P aq rid ops tab l)
theorem IN(cG:mY aq){aj:Type}{k:bC->Option aj}{r:aj}:∀(l:List Oper)(i:Nat)(st:bC),(∀j,l[j]?=ops[i+j]?)->gI P aq rid ops.toList (some tab) k i l st=some r->∃bB,o5 P aq rid ops tab (List.range' i l.length) st=some bB/\k bB=some r
 |[],i,st,_,h=>⟨st,rfl,h⟩
 |o::rest,i,st,ay,h=>by
  have aw:ops[i]?=some o:=by have:=ay 0;simpa using this.symm
  have kr:∀j,rest[j]?=ops[i+1+j]?:=λj=>by have:=ay (j+1);grind
  have run:b7 P aq (rid*64+i) o st.tm (hQ rid (tab.getD i []) st.rows) (λe=>if gX (rid*64+i) e st.used then(apply (rid*64+i) o.dst e st).force λeU=>oT ops.toList i o.dst eU (gI P aq rid ops.toList (some tab) k (i+1) rest)else none)=some r->
    ∃s1,vW P aq rid tab i o st=some s1/\∃bB,o5 P aq rid ops tab (List.range' (i+1) rest.length) s1=some bB/\k bB=some r:=λaD=>by
   rw[OF cG]at aD;cases he:b7 P aq (rid*64+i) o st.tm (hQ rid (tab.getD i []) st.rows) some with
   |none=>rw[he]at aD;cases aD
   |some e=>
    simp only[he,j0]at aD;by_cases aR:gX (rid*64+i) e st.used=true
    .simp only[aR,kn,bC.force_eq]at aD;exact⟨_,by simp_all[vW],IN cG rest (i+1) _ kr (Vs aD)⟩
    .simp[aR]at aD
  simp only[gI]at h;simp only[e5,List.range'_succ,o5,mz,aw];split at h
  .grind
  .rename_i j want aB;split at h
   .rename_i b ag;cases p6:(b==want)with
    |true=>grind
    |false=>simp only[p6,cU]at h;simp only[aB,ag,p6];exact IN cG rest (i+1) _ kr h
   .rename_i ag;simp only[aB,ag,j0];exact IN cG rest (i+1) _ kr h
   .cases h
structure fO(s t:bC):Prop where
 tm:s.tm=t.tm
 rows:∀id,lookup s.rows id=lookup t.rows id
 used:∀id,id∈s.used↔id∈t.used
theorem fO.refl(s:bC):fO s s:=⟨rfl,λ_=>rfl,λ_=>Iff.rfl⟩
def fO.symm(h:fO s t):fO t s:=⟨h.tm.symm,λi=>(h.rows i).symm,λi=>(h.used i).symm⟩
def fO.trans{u:bC}(h:fO s t)(h':fO t u):fO s u:=⟨h.tm.trans h'.tm,λi=>(h.rows i).trans (h'.rows i),λi=>(h.used i).trans (h'.used i)⟩
def eX.eqv{B:Ctx}{a:Act}(h:eX w0 bh B s a w)(e:fO s t):eX w0 bh B t a w:=by obtain⟨S,β,og,ah,aY⟩:=h;exact⟨S,β,og,⟨e.tm▸ah.tm,ah.df,λid r aD=>ah.row id r ((e.rows id).trans aD),ah.inj,ah.lt,λid x ak=>(e.used id).1 (ah.used id x ak),ah.one,ah.dF,ah.dZ,ah.pid⟩,aY⟩
theorem rn(rid:Nat)(ek:List Nat)(rows:List (Nat×Row))(id:Nat):lookup (hQ rid ek rows) id=if !BC rid id||ek.contains (id%64)then lookup rows id else none:=by
 induction rows with
 |nil=>simp[hQ,lookup]
 |cons x rest ih=>
  obtain⟨i,r⟩:=x;simp only[hQ];by_cases ar:(!BC rid i||ek.contains (i%64))=true
  .rw[dE ar];simp only[lookup];grind
  .rw[c0 ar];simp only[lookup];grind
def fV(ids:List Nat)(id:Nat)(r:Row):Row:=if ids.contains id then r.freeze else r
def aik(r:Row):r.freeze.freeze=r.freeze:=by cases r<;>rfl
def OM:∀(l:List (Nat×Row)){a b:List (Nat×Row)},(∀id,lookup a id=lookup b id)->∀id,lookup (l.foldl (λrs p=>setRow rs p.1 p.2) a) id=lookup (l.foldl (λrs p=>setRow rs p.1 p.2) b) id
 |[],_,_,h,id=>h id
 |(i,r)::l,_,_,h,id=>OM l (λk=>by simp only[px,h]) id
theorem V6:∀(l:List Nat){a b:List (Nat×Row)},(∀id,lookup a id=lookup b id)->∀id,lookup (l.foldl mn a) id=lookup (l.foldl mn b) id
 |[],_,_,h,id=>h id
 |i::l,_,_,h,id=>V6 l (λk=>by grind[y7]) id
theorem zQ(site:Nat)(e:dx)(af:e.nu=[])(ao:e.nv=[])(a1:e.news=[])(rows:List (Nat×Row))(id:Nat):lookup (eI site e rows) id=
  match e.new with
  |some r=>if id=site then some r else(match e.mod with|some p=>if id=p.1 then some p.2 else(match e.del with|some d=>if id=d then none else lookup rows id|none=>lookup rows id)|none=>(match e.del with|some d=>if id=d then none else lookup rows id|none=>lookup rows id)).map (fV e.bW id)
  |none=>(match e.mod with|some p=>if id=p.1 then some p.2 else(match e.del with|some d=>if id=d then none else lookup rows id|none=>lookup rows id)|none=>(match e.del with|some d=>if id=d then none else lookup rows id|none=>lookup rows id)).map (fV e.bW id):=by
 have sj:∀x:Option Row,x.map (fV [] id)=x:=λx=>by cases x<;>rfl
 have ail:∀(i:Nat)(is:List Nat)(rs:List (Nat×Row)),lookup (il (i::is) rs) id=(lookup rs id).map (fV (i::is) id):=λi is rs=>by rw[yU];rfl
 unfold eI
 rw[af,ao,a1]
 cases aJ:e.new<;>cases hm:e.mod<;>cases aX:e.del<;>cases hi:e.bW<;>simp only[LO,px,ail,sj,y7]
theorem ON(site:Nat)(e:dx){a b:List (Nat×Row)}(h:∀id,lookup a id=lookup b id):∀id,lookup (eI site e a) id=lookup (eI site e b) id:=by unfold eI;refine OM _ (OM _ (V6 _ λid=>?_));cases e.new<;>cases e.mod<;>cases e.del<;>cases e.bW<;>simp only[px,yU,y7,h]
def aim(h:fO s t)(site:Nat)(dst:Option Tmp)(e:dx):fO (apply site dst e s) (apply site dst e t):=by
 refine⟨by simp only[apply,h.tm],ON site e h.rows,λid=>?_⟩;simp only[apply,gD];cases e.new with
 |none=>simp only[h.used id]
 |some r=>simp only[gv,h.used id]
theorem ain(h:fO s t)(site:Nat)(e:dx):gX site e s.used=gX site e t.used:=by
 have aa:∀i,s.used.contains i=t.used.contains i:=λi=>by rw[Bool.eq_iff_iff];simpa using h.used i
 grind[gX]
theorem V7{fF:bC}(h:fO s t)(aD:vW P aq rid tab i o s=some fF):∃b',vW P aq rid tab i o t=some b'/\fO fF b':=by
 unfold vW at aD⊢;have cc:b7 P aq (rid*64+i) o t.tm (hQ rid (tab.getD i []) t.rows) some=b7 P aq (rid*64+i) o s.tm (hQ rid (tab.getD i []) s.rows) some:=by rw[<-h.tm];exact IM (λid=>by rw[rn,rn,h.rows id]) o s.tm some
 rw[cc];cases he:b7 P aq (rid*64+i) o s.tm (hQ rid (tab.getD i []) s.rows) some with
 |none=>rw[he]at aD;cases aD
 |some e=>
  simp only[he,j0]at aD⊢;rw[<-ain h];split at aD
  .rename_i aR;cases aD;simp_all[aim]
  .cases aD
theorem aio(h:fO s t)(o:Oper):fO (Ca o s) (Ca o t):=⟨by simp only[Ca,h.tm],h.rows,h.used⟩
theorem aip{fF:bC}(h:fO s t)(aD:mz P aq rid ops tab i s=some fF):∃b',mz P aq rid ops tab i t=some b'/\fO fF b':=by
 unfold mz at aD⊢;split at aD
 .grind
 .rename_i o aw;split at aD
  .grind[V7]
  .rename_i j want aB;rw[h.tm]at aD;grind[V7,aio]
theorem V8:∀(l:List Nat){s t fF:bC},fO s t->o5 P aq rid ops tab l s=some fF->∃b',o5 P aq rid ops tab l t=some b'/\fO fF b'
 |[],s,t,fF,h,aD=>by grind[o5]
 |i::l,s,t,fF,h,aD=>by
  simp only[o5]at aD⊢;cases af:mz P aq rid ops tab i s with
  |none=>simp[af]at aD
  |some s1=>simp only[af,j0]at aD;obtain⟨t1,ao,a1⟩:=aip h af;obtain⟨b',ca,dA⟩:=V8 l a1 aD;grind
end steps
section swap
variable{P:Program}{aq:Env}{rid:Nat}{ops:Array Oper}{tab:List (List Nat)}
def fp(P:Program)(aq:Env)(rid:Nat)(ops:Array Oper)(tab:List (List Nat))(i:Nat)(o:Oper)(tm:List AV)(rows:List (Nat×Row)):Option dx:=
 match o.guard with
 |none=>b7 P aq (rid*64+i) o tm (hQ rid (tab.getD i []) rows) some
 |some (j,want)=>
  match k6 ops.toList tm j with
  |.bool b=>if b==want then b7 P aq (rid*64+i) o tm (hQ rid (tab.getD i []) rows) some else some {v:=.undef}
  |.undef=>some {v:=.undef}
  |_=>none
def E3(aw:ops[i]?=some o)(st:bC):mz P aq rid ops tab i st=(fp P aq rid ops tab i o st.tm st.rows).bind λe=>if gX (rid*64+i) e st.used then some (apply (rid*64+i) o.dst e st)else none:=by
 unfold mz fp;simp only[aw];cases aB:o.guard with
 |none=>rfl
 |some p=>
  obtain⟨j,want⟩:=p;simp only;cases avQ:k6 ops.toList st.tm j<;>simp only[Option.bind_none]
  all_goals first|rfl|skip
  .split<;>rfl
theorem xO(cG:mY aq){tm:List AV}(h:fp P aq rid ops tab i o tm rows=some e):Shape aq o (hQ rid (tab.getD i []) rows) e:=by unfold fp at h;grind[aij,i']
theorem Cb{tm:List AV}{dst:Option Tmp}{v:AV}{d:Nat}(h:dst≠some d):(hl tm dst v).getD d .J=tm.getD d .J:=by
 cases dst with
 |none=>rfl
 |some eZ=>grind[hl]
theorem aiq{t:Nat}(h:xk ops t=true)(aw:ops[i]?=some o):o.dst≠some t:=λaX=>by grind[xk]
def air(ops:Array Oper)(tm0:List AV)(o:Oper)(j:Nat):Prop:=∃ty s,o.op=.load ty (.tmp s)/\BE ops tm0 s j=true
def V9(ops:Array Oper)(tm0:List AV)(o:Oper)(j:Nat):Prop:=∃ty t z off,o.op=.store ty (.tmp t) z/\xk ops t=true/\tm0.getD t .J=.ptr j off
def OO(rid:Nat)(ek:List Nat)(v:AV):Prop:=Ub v=true\/(∃s,v=.bf s)\/∃k,k<64/\k∉ek/\v=.own (rid*64+k)
structure sk(rid:Nat)(ops:Array Oper)(tm0 tm:List AV):Prop where
 IP:∀t,xk ops t=true->tm.getD t .J=tm0.getD t .J
 uL:∀s,BF ops tm0 s=true->HD (tm.getD s .J)=true
 lc:∀ek s,D4 ops tm0 ek s=true->OO rid ek (tm.getD s .J)
 V':∀s j,BE ops tm0 s j=true->BD j (tm.getD s .J)=true
def ais(ops:Array Oper)(tm0:List AV)(o:Oper):Prop:=∃ty s,o.op=.load ty (.tmp s)/\BF ops tm0 s=true
def Wa(o:Oper):Prop:=∃args ae,o.op=.call {callee:=.builtin .append,args:=args,argTypes:=ae}
def Quiet(aq:Env)(ops:Array Oper)(tm0:List AV)(x y:Oper):Prop:=gi aq y.op=false\/(∃j,air ops tm0 y j/\V9 ops tm0 x j)\/(ais ops tm0 y/\Wa x)
theorem Wb{a:Operand}{tm:List AV}(aw:o.op=.load ty a)(h:b7 P aq site o tm rows some=some e):e.new=none/\e.bW=[]:=by
 have key:∀cs,lJ P ty cs (λv=>some ({v}:dx))=some e->e.new=none/\e.bW=[]:=λcs h=>by
  rw[II]at h;cases ay:lJ P ty cs some with
  |none=>simp[ay]at h
  |some v=>grind
 unfold b7 at h;simp only[aw]at h;split at h
 .grind
 .exact key _ h
 .exact key _ h
 .split at h
  .grind
  .grind
  .cases h
 .cases h
theorem ait{s off:Nat}{tm:List AV}{y:dx->Option aj}(aw:o.op=.load ty (.tmp s))(ar:tm.getD s .J=.ptr i off)(ay:lookup rows i=lookup rows' i):b7 P aq site o tm rows y=b7 P aq site o tm rows' y:=by grind[b7,val]
theorem aiu{s off:Nat}{tm:List AV}{y:dx->Option aj}(aw:o.op=.load ty (.tmp s))(ar:tm.getD s .J=.ptr i off)(ay:∀b cs,lookup rows i=some (.box b cs)↔lookup rows' i=some (.box b cs)):b7 P aq site o tm rows y=b7 P aq site o tm rows' y:=by grind[b7,val,lookup]
theorem OP{args:Array Operand}{ae:Array TypeId}{tm:List AV}(aw:o.op=.call {callee:=.builtin .append,args:=args,argTypes:=ae})(h:b7 P aq site o tm rows some=some e):
  e.mod=none/\e.bW=[]/\e.nu=[]/\e.nv=[]/\e.news=[]/\∀id,e.del=some id->∃b s e' es sp,lookup rows id=some (.arr b s e' es sp):=by
 unfold b7 at h
 simp only[aw]at h
 split at h
 .exact MH
 rw[q7]at h
 unfold q6 at h
 repeat' split at h
 all_goals first
  |contradiction
  |cases h;done
  |grind
theorem aiv{t off:Nat}{z:Operand}{tm:List AV}(aw:o.op=.store ty (.tmp t) z)(ar:tm.getD t .J=.ptr j off)(h:b7 P aq site o tm rows some=some e):e.new=none/\e.bW=[]/\e.del=none/\e.nu=[]/\e.nv=[]/\e.news=[]/\∃r,e.mod=some (j,r):=by grind[b7,val]
theorem uM{tm:List AV}(h:fp P aq rid ops tab i o tm rows=some e):b7 P aq (rid*64+i) o tm (hQ rid (tab.getD i []) rows) some=some e\/e={v:=.undef}:=by unfold fp at h;grind
def E4(cG:mY aq){tm0 tm:List AV}(aH:Quiet aq ops tm0 x y)(h:fp P aq rid ops tab i y tm rows=some f):changes aq y.op=false/\f.new=none/\f.bW=[]:=by
 rcases aH with aH|⟨_,⟨ty,s,aw,_⟩,_⟩|⟨⟨ty,s,aw,_⟩,_⟩
 .exact⟨OL aH,(xO cG h).2.1 aH⟩
 .refine⟨um,?_⟩;rcases uM h with h|rfl
  .exact Wb aw h
  .exact⟨rfl,rfl⟩
 .refine⟨um,?_⟩;rcases uM h with h|rfl
  .exact Wb aw h
  .exact⟨rfl,rfl⟩
theorem aiw{tm0 tm:List AV}{id:Nat}(gN:sk rid ops tm0 tm)(an:V9 ops tm0 x j)(h:fp P aq rid ops tab i x tm rows=some e)(bO:id≠j)(rows':List (Nat×Row)):lookup (eI (rid*64+i) e rows') id=lookup rows' id:=by
 obtain⟨ty,t,z,off,aw,aR,ar⟩:=an;have sj:∀x:Option Row,x.map (fV [] id)=x:=λx=>by cases x<;>rfl
 rcases uM h with h|rfl
 .obtain⟨af,ao,a1,ca,dA,gB,r,pO⟩:=aiv aw (by rw[gN.IP t aR];exact ar) h;simp_all[zQ]
 rfl
theorem aix{tm:List AV}(hm:HE o.op=true)(h:b7 P aq site o tm rows some=some e):(∃s,e.v=.bf s)\/e.v=.own site:=by
 unfold HE at hm;unfold b7 at h;split at hm
 .rename_i aw;simp only[aw]at h;grind
 .grind
 .rename_i aw;simp only[aw]at h;split at h
  .exact MH
  rw[q7]at h;unfold q6 at h
  repeat' split at h
  all_goals grind
 .cases hm
theorem Wc{ek:List Nat}{s:Nat}:∀(os:List Oper)(i j:Nat)(o:Oper),D3 ek s i os=true->os[j]?=some o->o.dst=some s->HE o.op=true/\i+j∉ek
 |[],_,_,_,_,h,_=>k1
 |o'::os,i,0,o,h,aw,aX=>by simp only[sY,ej]at aw;simp_all[D3]
 |o'::os,i,j+1,o,h,aw,aX=>by unfold D3 at h;simp only[ba]at h;have:=Wc os (i+1) j o h.2 (by simpa using aw) aX;grind
theorem Wd(hi:i<64){tm0:List AV}(gN:sk rid ops tm0 st.tm)(h:mz P aq rid ops tab i st=some s):sk rid ops tm0 s.tm:=by
 cases aw:ops[i]?with
 |none=>grind[mz]
 |some o=>
  rw[E3 aw]at h;cases he:fp P aq rid ops tab i o st.tm st.rows with
  |none=>rw[he]at h;cases h
  |some e=>
   simp only[he,j0]at h;split at h
   .cases h;refine⟨λt aQ=>?_,λs an=>?_,λek s an=>?_,λs j an=>?_⟩
    .show(hl st.tm o.dst e.v).getD t .J=_;rw[Cb (aiq aQ aw)];exact gN.IP t aQ
    .show HD ((hl st.tm o.dst e.v).getD s .J)=true;by_cases aX:o.dst=some s
     .have ag:=an;unfold BF at ag;simp only[ba]at ag;have ao:=ec.1 ag.2 o bM;rw[aX]at ao;simp only[ha,lY,qS]at ao;have aiy:HD e.v=true:=by
        split at ao
        .rename_i ty x f mv;simp only[ba]at ao;obtain⟨aR,au⟩:=ao;rw[<-gN.IP x aR]at au;rcases uM he with h|rfl
         .unfold b7 at h;simp only[mv,val]at h;split at h
          .split at h
           .cases h
           .split at h
            .cases h;rfl
            .exact Bs
            .exact Bs
            .exact Bs
            .cases h
          .cases h
         .rfl
        .cases ao
      rw[aX];by_cases aL:s<st.tm.length
      .grind[hl]
      .have:(hl st.tm (some s) e.v).getD s .J=.J:=by
         exact MA
       rw[this];rfl
     .rw[Cb aX];exact gN.uL s an
    .show OO rid ek ((hl st.tm o.dst e.v).getD s .J);by_cases aX:o.dst=some s
     .have ag:=an;unfold D4 at ag;simp only[ba]at ag;obtain⟨xH,IQ⟩:=Wc ops.toList 0 i o ag.2 (by simpa using aw) aX;rw[sX]at IQ;have cc:OO rid ek e.v:=by
        rcases uM he with h|rfl
        .rcases aix xH h with h|h
         .exact .inr (.inl h)
         .exact .inr (.inr ⟨i,hi,IQ,h⟩)
        .exact .inl rfl
      rw[aX];by_cases aL:s<st.tm.length
      .grind[hl]
      .have:(hl st.tm (some s) e.v).getD s .J=.J:=by
         exact MA
       rw[this];exact .inl rfl
     .rw[Cb aX];exact gN.lc ek s an
    .show BD j ((hl st.tm o.dst e.v).getD s .J)=true;by_cases aX:o.dst=some s
     .have ag:=an;unfold BE at ag;simp only[ba]at ag;have ao:=ec.1 ag.2 o bM;rw[aX]at ao;simp only[ha,lY,qS]at ao;have aiy:BD j e.v=true:=by
        split at ao
        .rename_i ty x f mv;simp only[ba]at ao;obtain⟨aR,au,OQ⟩:=ao;rw[<-gN.IP x aR]at au OQ;rcases uM he with h|rfl
         .unfold b7 at h;simp only[mv,val]at h;split at h
          .split at h
           .cases h
           .split at h
            .rename_i ar;rw[ar]at OQ;cases h;exact OQ
            .exact Bs
            .exact Bs
            .exact Bs
            .cases h
          .cases h
         .rfl
        .cases ao
      rw[aX];by_cases aL:s<st.tm.length
      .grind[hl]
      .have:(hl st.tm (some s) e.v).getD s .J=.J:=by
         exact MA
       rw[this];rfl
     .rw[Cb aX];exact gN.V' s j an
   .cases h
inductive Kind(aq:Env)(ops:Array Oper)(tab:List (List Nat))(tm0:List AV)(i j:Nat)(x y:Oper):Prop where
 |ld (b2:changes aq x.op=true->Quiet aq ops tm0 x y) (bX:changes aq y.op=true->Quiet aq ops tm0 y x)
 |loc (b2:changes aq x.op=true->xl ops tm0 (tab.getD j []) x.op=true) (bX:changes aq y.op=true->xl ops tm0 (tab.getD i []) y.op=true)
 |OR (af:uw y.op=true) (ao:zc x.op=true)
 |OS (af:uw x.op=true) (ao:zc y.op=true)
def Kind.symm{tm0:List AV}(h:Kind aq ops tab tm0 i j x y):Kind aq ops tab tm0 j i y x:=by
 cases h with
 |ld b2 bX=>exact .ld bX b2
 |loc b2 bX=>exact .loc bX b2
 |OR af ao=>exact .OS af ao
 |OS af ao=>exact .OR af ao
structure o6(aq:Env)(rid:Nat)(ops:Array Oper)(tab:List (List Nat))(tm0:List AV)(i j:Nat)(x y:Oper):Prop where
 ne:i≠j
 tz:i<64
 IS:j<64
 uN:i∉tab.getD j []
 IT:j∉tab.getD i []
 Cc:∀d,x.dst=some d->d∉y.looksAt ops
 IU:∀d,y.dst=some d->d∉x.looksAt ops
 vO:∀d,x.dst=some d->y.dst≠some d
 kind:Kind aq ops tab tm0 i j x y
 nL:rid<67108864
def o6.symm{tm0:List AV}(h:o6 aq rid ops tab tm0 i j x y):o6 aq rid ops tab tm0 j i y x:=⟨h.ne.symm,h.IS,h.tz,h.IT,h.uN,h.IU,h.Cc,λd aX ak=>h.vO d ak aX,h.kind.symm,h.nL⟩
theorem TX{rid:Nat}(aD:rid<67108864)(hi:i<64):BC rid (rid*64+i)=true:=by grind[aE,BC,Nat.blt_eq]
theorem We(aD:rid<67108864)(hi:i<64)(aJ:i∉tab.getD j [])(an:e.mod=none/\e.del=none/\e.nu=[]/\e.nv=[]/\e.news=[]):
  pN (hQ rid (tab.getD j []) (eI (rid*64+i) e rows)) (hQ rid (tab.getD j []) rows):=by
 obtain⟨hm,aX,aU,bc,bw⟩:=an
 intro id
 rw[rn,rn]
 split
 .rename_i ar;have bO:id≠rid*64+i:=by
    rintro rfl;have ao:(rid*64+i)%64=i:=al;exact TW
  rw[zQ _ _ aU bc bw];have gV:∀x:Option Row,(x.map (fV e.bW id)).map Row.core=x.map Row.core:=λx=>by
   cases x with
   |none=>rfl
   |some r=>
    simp only[jm,ej,fV];split
    .exact aik r
    .rfl
  grind
 .rfl
def apply_pure(an:e.mod=none/\e.del=none/\e.nu=[]/\e.nv=[]/\e.news=[])(aJ:e.new=none/\e.bW=[])(id:Nat):lookup (eI site e rows) id=lookup rows id:=by obtain⟨hm,aX,aU,bc,bw⟩:=an;obtain⟨aJ,hi⟩:=aJ;rw[zQ _ _ aU bc bw];simp only[aJ,hm,aX,hi];cases lookup rows id<;>rfl
theorem aiz{tm:List AV}(aD:rid<67108864)(hi:i<64)(aJ:i∉tab.getD j [])(cI:Wa x)(ke:fp P aq rid ops tab i x tm rows=some e)(id:Nat)(b:Bool)(cs:List AV):
  lookup (hQ rid (tab.getD j []) (eI (rid*64+i) e rows)) id=some (.box b cs)↔lookup (hQ rid (tab.getD j []) rows) id=some (.box b cs):=by
 obtain⟨args,ae,aw⟩:=cI
 have key:e.mod=none/\e.bW=[]/\e.nu=[]/\e.nv=[]/\e.news=[]/\∀id,e.del=some id->∃b s e' es sp,lookup rows id=some (.arr b s e' es sp):=by
  rcases uM ke with h|rfl
  .obtain⟨af,ao,a1,ca,dA,gB⟩:=OP aw h;grind[rn]
  grind
 obtain⟨hm,lL,aU,bc,bw,avR⟩:=key
 rw[rn,rn]
 split
 .rename_i ar;have bO:id≠rid*64+i:=by
    rintro rfl;have ao:(rid*64+i)%64=i:=al;exact TW
  rw[zQ _ _ aU bc bw,lL];have sj:∀x:Option Row,x.map (fV [] id)=x:=λx=>by cases x<;>rfl
  rw[sj];cases aX:e.del with
  |none=>grind
  |some d=>grind
 .rfl
theorem aiA(l gW:List Nat)(id:Nat)(r:Row):fV l id (fV gW id r)=fV gW id (fV l id r):=by grind[fV]
def Hid(rid:Nat)(ek:List Nat)(id:Nat):Prop:=BC rid id=true/\id%64∉ek
theorem IV{id:Nat}(h:Hid rid ek id)(rows:List (Nat×Row)):lookup (hQ rid ek rows) id=none:=by rw[rn,c0];simp only[h.1,lY,qS,List.contains_iff_mem];exact h.2
theorem IW{id:Nat}(h:¬Hid rid ek id)(rows:List (Nat×Row)):lookup (hQ rid ek rows) id=lookup rows id:=by simp_all[rn,Hid]
theorem Cd{id:Nat}{r:Row}(h:lookup (hQ rid ek rows) id=some r):¬Hid rid ek id:=λhh=>by grind[IV]
theorem xP{k:Nat}(aD:rid<67108864)(ai:k<64)(aJ:k∉ek):Hid rid ek (rid*64+k):=⟨TX aD ai,bM⟩
structure vX(rid:Nat)(bi lQ:List Nat)(rows:List (Nat×Row))(e:dx):Prop where
 d:e.nu=[]
 m:e.nv=[]
 n:e.news=[]
 del:∀id,e.del=some id->(∃r,lookup (hQ rid bi rows) id=some r)/\Hid rid lQ id
 mod:∀p,e.mod=some p->(∃r,lookup (hQ rid bi rows) p.1=some r)/\Hid rid lQ p.1
 bW:∀id∈e.bW,∃r,lookup (hQ rid bi rows) id=some r
def Wf(tm:List AV)(ae:List TypeId)(s:Nat)(xs:List Operand):∃vs,hz P tm ae (.tmp s::xs)=tm.getD s .J::vs:=by
 cases ae with
 |nil=>exact⟨_,rfl⟩
 |cons t ae=>exact⟨_,rfl⟩
theorem aiB{args:Array Operand}{ae:Array TypeId}{tm:List AV}(aw:o.op=.call {callee:=.builtin .append,args:=args,argTypes:=ae})(h:b7 P aq site o tm rows some=some e):
  ∀id,e.del=some id->∃x z,hz P tm ae.toList args.toList=[x,z]/\(x=.own id\/∃i,x=.sub id 0 i):=by
 unfold b7 at h
 simp only[aw]at h
 intro id aX
 generalize hz P tm ae.toList args.toList=aA at h⊢
 split at h
 .exact MH
 rw[q7]at h
 unfold q6 at h
 repeat' split at h
 all_goals grind
theorem Wg{src dst:TypeId}{x:Operand}{tm:List AV}(aw:o.op=.convert src dst x)(h:b7 P aq site o tm rows some=some e):
  e.del=none/\e.bW=[]/\e.nu=[]/\e.nv=[]/\e.news=[]/\∀p,e.mod=some p->cw P tm src x=.own p.1/\∃r,lookup rows p.1=some r:=by
 unfold b7 at h
 simp only[aw,uu]at h
 repeat' split at h
 all_goals first
  |contradiction
  |(cases h;done)
  |grind
  |(obtain⟨_,h⟩:=e7 h;cases h;refine⟨rfl,rfl,rfl,rfl,rfl,λp au=>?_⟩;cases au)
theorem E5{tm0 tm:List AV}(aD:rid<67108864)(gN:sk rid ops tm0 tm)(ay:xl ops tm0 lQ x.op=true)(h:fp P aq rid ops tab i x tm rows=some e):vX rid (tab.getD i []) lQ rows e/\e.bW=[]:=by
 rcases uM h with h|rfl
 .unfold xl at ay;split at ay
  .rename_i args ae aw;obtain⟨af,ao,a1,ca,dA,gB⟩:=OP aw h;refine⟨⟨a1,ca,dA,λid aX=>?_,λp au=>(by rw[af]at au;cases au),λid hid=>bM⟩,ao⟩;obtain⟨b,s,e',es,sp,ai⟩:=gB id aX;refine⟨⟨_,ai⟩,?_⟩;obtain⟨fL,z,bp,aiC⟩:=aiB aw h id aX;split at ay
   .rename_i fF rest jE;obtain⟨vs,ar⟩:=Wf (P:=P) tm ae.toList fF rest;rw[jE,ar]at bp;have nH:tm.getD fF .J=fL:=(List.cons.inj bp).1;rcases aiC with rfl|⟨i0,rfl⟩;rotate_left
    .rcases gN.lc _ _ ay with hu|⟨_,hu⟩|⟨k,ka,gr,hu⟩
     .rw[nH]at hu;cases hu
     .rw[nH]at hu;cases hu
     .rw[nH]at hu;cases hu
    have mT:=nH;rcases gN.lc _ _ ay with hu|⟨_,hu⟩|⟨k,ka,gr,hu⟩
    .rw[mT]at hu;cases hu
    .rw[mT]at hu;cases hu
    .rw[mT]at hu;cases hu;exact xP aD ka gr
   .cases ay
  .rename_i src dst fF aw;obtain⟨af,ao,a1,ca,dA,gB⟩:=Wg aw h;refine⟨⟨a1,ca,dA,λid aX=>(by rw[af]at aX;cases aX),λp au=>?_,λid hid=>bM⟩,ao⟩;obtain⟨ar,ai⟩:=gB p au;refine⟨ai,?_⟩;have mT:tm.getD fF .J=.own p.1:=ar;rcases gN.lc _ _ ay with hu|⟨_,hu⟩|⟨k,ka,gr,hu⟩
   .rw[mT]at hu;cases hu
   .rw[mT]at hu;cases hu
   grind[xP]
  .cases ay
 .exact⟨⟨rfl,rfl,rfl,λid aX=>(by cases aX),λp au=>(by cases au),λid hid=>(by cases hid)⟩,rfl⟩
theorem E6(cG:mY aq){tm:List AV}(lQ:List Nat)(aa:changes aq x.op=false)(h:fp P aq rid ops tab i x tm rows=some e):vX rid (tab.getD i []) lQ rows e:=by obtain⟨af,ao,a1⟩:=xO cG h;obtain⟨bJ,a2,a3,a4,a5⟩:=af aa;exact⟨a3,a4,a5,λid aX=>(by rw[a2]at aX;cases aX),λp au=>(by rw[bJ]at au;cases au),a1⟩
theorem E7(aR:vX rid lQ bi rows f){id:Nat}(hid:Hid rid lQ id)(bO:id≠rid*64+j)(R:List (Nat×Row)):lookup (eI (rid*64+j) f R) id=lookup R id:=by
 rw[zQ _ _ aR.d aR.m aR.n];have aX:∀d,f.del=some d->id≠d:=λd aX he=>by obtain⟨⟨r,aD⟩,_⟩:=aR.del d aX;grind[Cd]
 have hm:∀p,f.mod=some p->id≠p.1:=λp au he=>by obtain⟨⟨r,aD⟩,_⟩:=aR.mod p au;grind[Cd]
 have hi:∀r,fV f.bW id r=r:=λr=>by unfold fV;rw[c0];intro aa;obtain⟨jq,aD⟩:=aR.bW id wY;exact Cd aD hid
 have pw:∀x:Option Row,x.map (fV f.bW id)=x:=λx=>by
  cases x with
  |none=>rfl
  |some r=>rw[jm,hi]
 grind
theorem zR(af:e.nu=[])(ao:e.nv=[])(a1:e.news=[]){id:Nat}(an:id≠site)(aX:e.del≠some id)(hm:∀p,e.mod=some p->p.1≠id)(R:List (Nat×Row)):lookup (eI site e R) id=(lookup R id).map (fV e.bW id):=by grind[zQ,lookup]
theorem IX(af:e.nu=[])(ao:e.nv=[])(a1:e.news=[]){id:Nat}{R xQ:List (Nat×Row)}(h:lookup R id=lookup xQ id):lookup (eI site e R) id=lookup (eI site e xQ) id:=by grind[zQ]
theorem Wh(aD:rid<67108864)(hi:i<64)(aP:j<64)(bO:i≠j)(l4:i∉lQ)(sn:j∉bi)(he:vX rid bi lQ rows e)(aR:vX rid lQ bi rows f)(id:Nat):
  lookup (eI (rid*64+j) f (eI (rid*64+i) e rows)) id=lookup (eI (rid*64+i) e (eI (rid*64+j) f rows)) id:=by
 have Im:Hid rid lQ (rid*64+i):=xP aD hi l4
 have Wi:Hid rid bi (rid*64+j):=xP aD aP sn
 have Wj:Hid rid lQ id->id≠rid*64+j->lookup (eI (rid*64+j) f (eI (rid*64+i) e rows)) id=lookup (eI (rid*64+i) e (eI (rid*64+j) f rows)) id:=λaf ao=>by rw[E7 aR af ao];exact IX he.d he.m he.n (E7 aR af ao rows).symm
 have Wk:Hid rid bi id->id≠rid*64+i->lookup (eI (rid*64+j) f (eI (rid*64+i) e rows)) id=lookup (eI (rid*64+i) e (eI (rid*64+j) f rows)) id:=λaf ao=>by rw[E7 he af ao (eI (rid*64+j) f rows)];exact IX aR.d aR.m aR.n (E7 he af ao rows)
 by_cases aU:id=rid*64+i
 .grind
 by_cases bc:id=rid*64+j
 .grind
 by_cases bw:e.del=some id
 .exact Wj (he.del id bw).2 bc
 by_cases bQ:∃p,e.mod=some p/\p.1=id
 .obtain⟨p,au,rfl⟩:=bQ;exact Wj (he.mod p au).2 bc
 by_cases bN:f.del=some id
 .exact Wk (aR.del id bN).2 aU
 by_cases j9:∃p,f.mod=some p/\p.1=id
 .obtain⟨p,au,rfl⟩:=j9;exact Wk (aR.mod p au).2 aU
 have uI:∀p,e.mod=some p->p.1≠id:=λp au h=>bQ ⟨p,au,h⟩
 have Wl:∀p,f.mod=some p->p.1≠id:=λp au h=>j9 ⟨p,au,h⟩
 rw[zR aR.d aR.m aR.n bc bN Wl,zR he.d he.m he.n aU bw uI,zR he.d he.m he.n aU bw uI,zR aR.d aR.m aR.n bc bN Wl]
 cases lookup rows id with
 |none=>rfl
 |some r=>simp only[jm,aiA]
def Wm(aD:rid<67108864)(hi:i<64)(l4:i∉lQ)(he:vX rid bi lQ rows e)(lL:e.bW=[])(R:List (Nat×Row))(id:Nat):lookup (hQ rid lQ (eI (rid*64+i) e R)) id=lookup (hQ rid lQ R) id:=by
 by_cases h:Hid rid lQ id
 .rw[IV h,IV h]
 .have b0:id≠rid*64+i:=λaf=>h (by rw[af];exact xP aD hi l4);have bS:∀p,e.mod=some p->p.1≠id:=λp au af=>h (by rw[<-af];exact(he.mod p au).2);rw[IW h,IW h,zR he.d he.m he.n b0 (λaf=>h (he.del id af).2) bS,lL];cases lookup R id<;>rfl
def aiD(h:pN rows rows')(t b':TypeId)(z:AV):q5 P t b' rows z=q5 P t b' rows' z:=by unfold q5;rw[B' h]
theorem aiE{tm0 tm:List AV}{k:dx->Option dx}(aD:rid<67108864)(h:pN rows rows')(gN:sk rid ops tm0 tm)(ay:xl ops tm0 bi y.op=true)(ak:∀id,Hid rid bi id->lookup rows id=lookup rows' id):b7 P aq site y tm rows k=b7 P aq site y tm rows' k:=by
 unfold xl at ay;split at ay
 .rename_i args ae aw;split at ay
  .rename_i fF rest jE;obtain⟨vs,ar⟩:=Wf (P:=P) tm ae.toList fF rest;unfold b7;simp only[aw,jE,ar];by_cases hcut:aq.cut.contains site=true
   .rw[dE hcut,dE hcut];rcases gN.lc _ _ ay with hu|⟨_,hu⟩|⟨cl,ka,gr,hu⟩
    .generalize tm.getD fF .J=v at hu⊢;cases v<;>first|(cases hu;done)|skip
     all_goals
      generalize ae.toList=l
      match l,vs with
      |[t,b'],[z]=>rfl
      |[t,b'],[]=>rfl
      |[t,b'],_::_::_=>rfl
      |[],_=>rfl
      |[_],_=>rfl
      |_::_::_::_,_=>rfl
    .rw[hu];generalize ae.toList=l
     match l,vs with
     |[t,b'],[z]=>rfl
     |[t,b'],[]=>rfl
     |[t,b'],_::_::_=>rfl
     |[],_=>rfl
     |[_],_=>rfl
     |_::_::_::_,_=>rfl
    .rw[hu];generalize ae.toList=l
     match l,vs with
     |[t,b'],[z]=>rfl
     |[t,b'],[]=>rfl
     |[t,b'],_::_::_=>rfl
     |[],_=>rfl
     |[_],_=>rfl
     |_::_::_::_,_=>rfl
   rw[c0 hcut,c0 hcut];rw[q7,q7];have kL:=λt b' z=>aiD (P:=P) h t b' z;rcases gN.lc _ _ ay with hu|⟨_,hu⟩|⟨cl,ka,gr,hu⟩
   .generalize tm.getD fF .J=v at hu⊢;cases v<;>first|(cases hu;done)|skip
    all_goals
     unfold q6;grind
   .rw[hu];unfold q6;generalize ae.toList=l
    match l,vs with
    |[t,b'],[z]=>simp only[kL]
    |[t,b'],[]=>rfl
    |[t,b'],_::_::_=>rfl
    |[],_=>rfl
    |[_],_=>rfl
    |_::_::_::_,_=>rfl
   .rw[hu];have VG:=ak _ (xP aD ka gr);unfold q6;generalize ae.toList=l
    match l,vs with
    |[t,b'],[z]=>simp only[kL,VG]
    |[t,b'],[]=>rfl
    |[t,b'],_::_::_=>rfl
    |[],_=>rfl
    |[_],_=>rfl
    |_::_::_::_,_=>rfl
  .cases ay
 .grind[b7,uu,B']
 .cases ay
theorem aiF{tm:List AV}{k:dx->Option dx}(hm:uw o.op=true):b7 P aq site o tm rows k=b7 P aq site o tm rows' k:=by grind[uw,b7]
theorem aiG{tm:List AV}(hm:uw o.op=true)(h:b7 P aq site o tm rows some=some e):e.mod=none/\e.del=none/\e.bW=[]/\e.nu=[]/\e.nv=[]/\e.news=[]:=by
 unfold uw at hm;unfold b7 at h;split at hm
 .grind
 .grind
 .cases hm
def IY{tm:List AV}(lQ:List Nat)(hm:uw x.op=true)(h:fp P aq rid ops tab i x tm rows=some e):vX rid (tab.getD i []) lQ rows e/\e.bW=[]/\e.mod=none/\e.del=none:=by
 rcases uM h with h|rfl
 .obtain⟨af,ao,a1,ca,dA,gB⟩:=aiG hm h;exact⟨⟨ca,dA,gB,λid aX=>(by rw[ao]at aX;cases aX),λp au=>(by rw[af]at au;cases au),λid hid=>bM⟩,a1,af,ao⟩
 .exact⟨⟨rfl,rfl,rfl,λid aX=>(by cases aX),λp au=>(by cases au),λid hid=>(by cases hid)⟩,rfl,rfl,rfl⟩
theorem aiH{a z:Operand}{tm:List AV}(aw:o.op=.store ty a z)(h:b7 P aq site o tm rows some=some e):e.new=none/\e.del=none/\e.nu=[]/\e.nv=[]/\e.news=[]/\∀p,e.mod=some p->∃r,lookup rows p.1=some r:=by
 have avS:∀{id:Nat}{q},BB rows id=some q->∃r,lookup rows id=some r:=λ{id q} h=>by grind[BB]
 unfold b7 at h;simp only[aw]at h
 repeat' split at h
 all_goals first
  |contradiction
  |(cases h;done)
  |grind
  |grind
  |skip
 all_goals
  rcases zP h with h|h
  .grind
  .repeat' split at h
   grind
   all_goals
    rcases zP h with h|h
    .grind
    .obtain⟨_,h⟩:=e7 h;grind
theorem OT{tm:List AV}(hm:zc x.op=true)(h:fp P aq rid ops tab i x tm rows=some e):e.nu=[]/\e.nv=[]/\e.news=[]/\(∀id,e.del=some id->∃r,lookup (hQ rid (tab.getD i []) rows) id=some r)/\∀p,e.mod=some p->∃r,lookup (hQ rid (tab.getD i []) rows) p.1=some r:=by
 rcases uM h with h|rfl
 .unfold zc at hm;split at hm
  .rename_i aw;obtain⟨_,ao,a1,ca,dA,gB⟩:=aiH aw h;grind
  .rename_i aw;obtain⟨af,_,a1,ca,dA,gB⟩:=Wg aw h;grind
  .rename_i aw;obtain⟨af,ao,a1,ca,dA,gB⟩:=OP aw h;grind
  .cases hm
 grind
theorem Wn(cG:mY aq){tm tm':List AV}(aD:rid<67108864)(aP:j<64)(bO:i≠j)(sn:j∉tab.getD i [])(an:zc x.op=true)(hm:uw y.op=true)(he:fp P aq rid ops tab i x tm rows=some e)(aR:fp P aq rid ops tab j y tm' rows=some f)(id:Nat):
  lookup (eI (rid*64+j) f (eI (rid*64+i) e rows)) id=lookup (eI (rid*64+i) e (eI (rid*64+j) f rows)) id:=by
 obtain⟨s1,s2,vY,xR,avT⟩:=OT an he
 obtain⟨Ce,m1,m2,m3⟩:=IY (P:=P) (tab:=tab) [] hm aR
 have Wi:Hid rid (tab.getD i []) (rid*64+j):=xP aD aP sn
 have ai:∀R:List (Nat×Row),∀id,id≠rid*64+j->lookup (eI (rid*64+j) f R) id=lookup R id:=λR id h=>by rw[zR Ce.d Ce.m Ce.n h bM (λp au=>(by rw[m2]at au;cases au)),m1];cases lookup R id<;>rfl
 by_cases bc:id=rid*64+j
 .subst bc;have lL:∀r,fV e.bW (rid*64+j) r=r:=λr=>by unfold fV;rw[c0];intro aa;obtain⟨jq,aD⟩:=(xO cG he).2.2 _ wY;exact Cd aD Wi
  have pw:∀x:Option Row,x.map (fV e.bW (rid*64+j))=x:=λx=>by
   cases x with
   |none=>rfl
   |some r=>rw[jm,lL]
  have ak:∀R:List (Nat×Row),lookup (eI (rid*64+i) e R) (rid*64+j)=lookup R (rid*64+j):=λR=>by rw[zR s1 s2 vY al (λh=>by grind[Cd]) (λp au h=>by grind[Cd]),pw]
  rw[ak];exact IX Ce.d Ce.m Ce.n (ak rows)
 grind[IX]
theorem IZ(bO:i≠j)(he:e.news=[])(aR:f.news=[]):gX (rid*64+j) f (apply (rid*64+i) x.dst e st).used=gX (rid*64+j) f st.used:=by grind[gX,apply]
theorem Wo(cG:mY aq){tm0:List AV}(h:o6 aq rid ops tab tm0 i j x y)(gN:sk rid ops tm0 st.tm)(ke:fp P aq rid ops tab i x st.tm st.rows=some e):
  fp P aq rid ops tab j y (hl st.tm x.dst e.v) (eI (rid*64+i) e st.rows)=fp P aq rid ops tab j y st.tm st.rows:=by
 have he:=xO cG ke
 have mv:∀z∈y.op.operands.toList,∀t,z=Operand.tmp t->(hl st.tm x.dst e.v).getD t .J=st.tm.getD t .J:=λz bp t aQ=>by refine Cb λaX=>h.Cc t aX ?_;grind[Oper.looksAt]
 have cc:b7 P aq (rid*64+j) y (hl st.tm x.dst e.v) (hQ rid (tab.getD j []) (eI (rid*64+i) e st.rows)) some=b7 P aq (rid*64+j) y st.tm (hQ rid (tab.getD j []) st.rows) some:=by
  rw[OG y _ some mv];rcases h.kind with⟨b2,bX⟩|⟨b2,bX⟩|⟨af,ao⟩|⟨af,ao⟩
  .cases I0:gi aq y.op with
   |false=>grind[aib]
   |true=>
    cases qu:changes aq y.op with
    |true=>obtain⟨q1,cO⟩:=E4 cG (bX qu) ke;exact IM (λid=>by rw[rn,rn,apply_pure (he.1 q1) cO]) y st.tm some
    |false=>
     cases aa:changes aq x.op with
     |false=>exact OI (We h.nL h.tz h.uN (he.1 aa)) y qu st.tm some
     |true=>
      rcases b2 aa with aH|⟨et,⟨ty,s,aw,ag⟩,an⟩|⟨⟨ty,s,aw,ag⟩,cI⟩
      .rw[aH]at I0;cases I0
      .have zS:=gN.V' s _ ag;cases ar:st.tm.getD s .J<;>rw[ar]at zS<;>try(cases zS;done)
       .grind[b7,val]
       .grind[b7,val]
       grind[BD,ait,rn,aiw]
      .have zS:=gN.uL s ag;cases ar:st.tm.getD s .J<;>rw[ar]at zS<;>try(cases zS;done)
       .grind[b7,val]
       .grind[b7,val]
       .exact aiu aw ar (aiz h.nL h.tz h.uN cI ke _)
  .cases aa:changes aq x.op with
   |true=>obtain⟨m1,m2⟩:=E5 h.nL gN (b2 aa) ke;exact IM (Wm h.nL h.tz h.uN m1 m2 st.rows) y st.tm some
   |false=>
    have aiI:=We (rows:=st.rows) h.nL h.tz h.uN (he.1 aa);cases qu:changes aq y.op with
    |false=>grind[OI]
    |true=>
     refine aiE h.nL aiI gN (bX qu) λid hid=>?_;by_cases aP:Hid rid (tab.getD j []) id
     .grind[IV]
     .rw[IW aP,IW aP];exact E7 (E6 cG (tab.getD j []) aa ke) hid (λaf=>aP (af▸xP h.nL h.tz h.uN)) st.rows
  .exact aiF af
  .obtain⟨m1,m2,_⟩:=IY (P:=P) (tab:=tab) (tab.getD j []) af ke;exact IM (Wm h.nL h.tz h.uN m1 m2 st.rows) y st.tm some
 have aB:∀g want,y.guard=some (g,want)->k6 ops.toList (hl st.tm x.dst e.v) g=k6 ops.toList st.tm g:=λg want sc=>by
  unfold k6;simp only[yB];cases dQ:ops[g]?with
  |none=>rfl
  |some og=>
   simp only;cases avU:og.dst with
   |none=>rfl
   |some d=>simp only;refine Cb λaX=>h.Cc d aX ?_;grind[Oper.looksAt]
 unfold fp
 grind
def put_comm{tm:List AV}{d eZ:Option Tmp}{v da:AV}(h:∀x,d=some x->eZ≠some x):hl (hl tm d v) eZ da=hl (hl tm eZ da) d v:=by
 cases d with
 |none=>cases eZ<;>rfl
 |some x=>
  cases eZ with
  |none=>rfl
  |some gH=>have bO:x≠gH:=λe=>h x rfl w7;exact List.set_comm _ _ bO
theorem aiJ(cG:mY aq){tm0:List AV}(h:o6 aq rid ops tab tm0 i j x y)(gN:sk rid ops tm0 st.tm)(ke:fp P aq rid ops tab i x st.tm st.rows=some e)(qv:fp P aq rid ops tab j y st.tm st.rows=some f):
  fO (apply (rid*64+j) y.dst f (apply (rid*64+i) x.dst e st)) (apply (rid*64+i) x.dst e (apply (rid*64+j) y.dst f st)):=by
 have he:=xO cG ke
 have aR:=xO cG qv
 refine⟨put_comm h.vO,λid=>?_,λid=>?_⟩
 .show lookup (eI _ f (eI _ e st.rows)) id=lookup (eI _ e (eI _ f st.rows)) id;have calm:changes aq x.op=false->changes aq y.op=false->lookup (eI (rid*64+j) f (eI (rid*64+i) e st.rows)) id=lookup (eI (rid*64+i) e (eI (rid*64+j) f st.rows)) id:=λak aN=>Wh h.nL h.tz h.IS h.ne h.uN h.IT (E6 cG (tab.getD j []) ak ke) (E6 cG (tab.getD i []) aN qv) id;rcases h.kind with⟨b2,bX⟩|⟨b2,bX⟩|⟨af,ao⟩|⟨af,ao⟩
  .cases tt:changes aq x.op with
   |true=>obtain⟨q1,cO⟩:=E4 cG (b2 tt) qv;have au:∀rows id,lookup (eI (rid*64+j) f rows) id=lookup rows id:=λrows id=>apply_pure (aR.1 q1) cO id;grind[ON]
   |false=>
    cases qu:changes aq y.op with
    |true=>obtain⟨q1,cO⟩:=E4 cG (bX qu) ke;have au:∀rows id,lookup (eI (rid*64+i) e rows) id=lookup rows id:=λrows id=>apply_pure (he.1 q1) cO id;grind[ON]
    |false=>exact calm tt qu
  .have aiK:vX rid (tab.getD i []) (tab.getD j []) st.rows e:=by
     cases tt:changes aq x.op with
     |true=>exact(E5 h.nL gN (b2 tt) ke).1
     |false=>grind[E6]
   have aiL:vX rid (tab.getD j []) (tab.getD i []) st.rows f:=by
    cases qu:changes aq y.op with
    |true=>exact(E5 h.nL gN (bX qu) qv).1
    |false=>grind[E6]
   exact Wh h.nL h.tz h.IS h.ne h.uN h.IT aiK aiL id
  .exact Wn cG h.nL h.IS h.ne h.IT ao af ke qv id
  .exact(Wn cG h.nL h.tz h.ne.symm h.uN ao af qv ke id).symm
 .simp only[apply,gD];cases e.new<;>cases f.new<;>simp only[gv,gD]
  .grind
  .grind
  .grind
  grind
theorem Wp(cG:mY aq){tm0:List AV}(h:o6 aq rid ops tab tm0 i j x y){tm tm':List AV}(gN:sk rid ops tm0 tm)(aiM:sk rid ops tm0 tm')(ke:fp P aq rid ops tab i x tm rows=some e)(qv:fp P aq rid ops tab j y tm' rows'=some f):gX (rid*64+j) f (apply (rid*64+i) x.dst e st).used=gX (rid*64+j) f st.used:=by
 have he:=xO cG ke;have aR:=xO cG qv;rcases h.kind with⟨b2,bX⟩|⟨b2,bX⟩|⟨af,ao⟩|⟨af,ao⟩
 .cases tt:changes aq x.op with
  |true=>obtain⟨q1,cO⟩:=E4 cG (b2 tt) qv;obtain⟨_,_,_,_,f5⟩:=aR.1 q1;grind[gX]
  |false=>
   obtain⟨_,_,_,_,bN⟩:=he.1 tt;cases gE:e.new with
   |none=>grind[apply]
   |some jq=>
    have qu:changes aq y.op=false:=by
     cases aa:changes aq y.op with
     |false=>rfl
     |true=>rw[(E4 cG (bX aa) ke).2.1]at gE;cases gE
    obtain⟨_,_,_,_,f5⟩:=aR.1 qu;exact IZ h.ne bN f5
 .have bN:e.news=[]:=by
    cases tt:changes aq x.op with
    |true=>exact(E5 h.nL gN (b2 tt) ke).1.n
    |false=>exact(he.1 tt).2.2.2.2
  have f5:f.news=[]:=by
   cases qu:changes aq y.op with
   |true=>exact(E5 h.nL aiM (bX qu) qv).1.n
   |false=>exact(aR.1 qu).2.2.2.2
  exact IZ h.ne bN f5
 .exact IZ h.ne (OT ao ke).2.2.1 (IY (P:=P) (tab:=tab) [] af qv).1.n
 .exact IZ h.ne (IY (P:=P) (tab:=tab) [] af ke).1.n (OT ao qv).2.2.1
theorem swap(cG:mY aq){tm0:List AV}(ak:ops[i]?=some x)(aN:ops[j]?=some y)(h:o6 aq rid ops tab tm0 i j x y){s1 s2:bC}(gN:sk rid ops tm0 st.tm)(af:mz P aq rid ops tab i st=some s1)(ao:mz P aq rid ops tab j s1=some s2):
  ∃t1 t2,mz P aq rid ops tab j st=some t1/\mz P aq rid ops tab i t1=some t2/\fO s2 t2:=by
 rw[E3 ak]at af
 rw[E3 aN]at ao
 cases he:fp P aq rid ops tab i x st.tm st.rows with
 |none=>rw[he]at af;cases af
 |some e=>
  simp only[he,j0]at af
  split at af
  .rename_i ly;cases af;have aP:fp P aq rid ops tab j y (apply (rid*64+i) x.dst e st).tm (apply (rid*64+i) x.dst e st).rows=fp P aq rid ops tab j y st.tm st.rows:=Wo cG h gN he;rw[aP]at ao;cases aR:fp P aq rid ops tab j y st.tm st.rows with
   |none=>rw[aR]at ao;cases ao
   |some f=>
    simp only[aR,j0,Wp cG h gN gN he aR]at ao;split at ao
    .rename_i qv;cases ao;have hi:fp P aq rid ops tab i x (apply (rid*64+j) y.dst f st).tm (apply (rid*64+j) y.dst f st).rows=fp P aq rid ops tab i x st.tm st.rows:=Wo cG h.symm gN aR;refine⟨apply (rid*64+j) y.dst f st,apply (rid*64+i) x.dst e (apply (rid*64+j) y.dst f st),?_,?_,aiJ cG h gN he aR⟩
     .simp_all[E3]
     .rw[E3 ak,hi];simp only[he,j0,Wp cG h.symm gN gN aR he,ly,kn]
    .cases ao
  .cases af
theorem toFront(cG:mY aq){tm0:List AV}{i:Nat}{x:Oper}(ak:ops[i]?=some x):∀(b1 cS:List Nat)(st f:bC),sk rid ops tm0 st.tm->(∀j∈b1,∃y,ops[j]?=some y/\o6 aq rid ops tab tm0 j i y x)->o5 P aq rid ops tab (b1++i::cS) st=some f->
  ∃t tx,mz P aq rid ops tab i st=some t/\o5 P aq rid ops tab (b1++cS) t=some tx/\fO f tx
 |[],cS,st,f,_,_,h=>by
  simp only[pj,o5]at h;cases af:mz P aq rid ops tab i st with
  |none=>rw[af]at h;cases h
  |some t=>grind[fO.refl]
 |j::b1,cS,st,f,gN,hi,h=>by
  simp only[A1,o5]at h;cases af:mz P aq rid ops tab j st with
  |none=>rw[af]at h;cases h
  |some s1=>rw[af,j0]at h;obtain⟨y,aN,I1⟩:=hi j bb;obtain⟨s2,f1,ao,a1,ca⟩:=toFront cG ak b1 cS s1 f (Wd I1.tz gN af) (λk ai=>hi k (by simp[ai])) h;obtain⟨t1,t2,dA,gB,pO⟩:=swap cG aN ak I1 gN af ao;obtain⟨f2,vZ,tA⟩:=V8 _ pO a1;exact⟨t1,f2,dA,by grind[o5],ca.trans tA⟩
end swap
theorem Wq{l:List Nat}{x y:Nat}:y∈union1 l x↔y=x\/y∈l:=by grind[union1]
theorem aiN(cm:List Nat):∀(s:List Nat)(y:Nat),y∈cm.foldl union1 s↔y∈cm\/y∈s:=by
 induction cm with
 |nil=>intro s y;simp
 |cons z dL ih=>grind[Wq]
theorem aiO(acc:List (List Nat))(es:List Edge):∀(s:List Nat)(y:Nat),y∈es.foldl (λs e=>if Region.binds .any e then(acc.getD e.on []).foldl union1 (union1 s e.on)else s) s->
  y∈s\/∃e∈es,Region.binds .any e=true/\(y=e.on\/y∈acc.getD e.on []):=by
 induction es with
 |nil=>intro s y h;exact .inl h
 |cons e es ih=>grind[aiN,Wq]
theorem OU:∀(os:List Oper)(acc:List (List Nat))(i:Nat),i<acc.length->(zb os acc).getD i []=acc.getD i []
 |[],acc,i,_=>rfl
 |o::os,acc,i,h=>by simp only[zb];rw[OU os _ i lu];grind
theorem Wr:∀(os:List Oper)(acc:List (List Nat))(j:Nat)(o:Oper)(y:Nat),acc.length<=j->os[j-acc.length]?=some o->y∈(zb os acc).getD j []->
  ∃e∈o.after,Region.binds .any e=true/\(y=e.on\/y∈(zb os acc).getD e.on [])
 |[],acc,j,o,y,_,h,_=>k1
 |x::os,acc,j,o,y,aP,aw,aN=>by
  simp only[zb]at aN⊢;by_cases e:j=acc.length
  .subst e;simp only[DF,sY,ej]at aw;subst aw;rw[OU os _ acc.length bb]at aN;simp only[List.getD,Bi (dc _),DF,sY,Dy]at aN;rcases aiO acc x.after.toList [] y aN with h|⟨e,he,af,ao⟩
   .cases h
   grind[OU]
  .have qh:(acc++[x.after.toList.foldl (λs e=>if Region.binds .any e then(acc.getD e.on []).foldl union1 (union1 s e.on)else s) []]).length<=j:=bM;refine Wr os _ j o y qh ?_ aN;grind
def aM.dX{P:Program}{aq:Env}(h:aM P aq):mY aq:=⟨h.xI,h.nat,λkey np F hF=>(h.iq key np F hF).2.2⟩
section draw
variable{R:Option Nat}{P:Program}{aq:Env}{rid:Nat}{ops:Array Oper}
theorem tab_spec{y:Nat}(aw:ops[j]?=some o)(aN:y∈(ancTab ops.toList).getD j []):∃e∈o.after,Region.binds .any e=true/\(y=e.on\/y∈(ancTab ops.toList).getD e.on []):=Wr ops.toList [] j o y (iM _) (by simpa using aw) aN
theorem OV{tm0:List AV}(h:xm aq ops tm0=true)(aw:ops[j]?=some o):∀e∈o.after,Region.binds .any e=true->e.on<j:=by
 intro e he ag;have aL:=(s0.1 aw).1;simp only[xm,ec,List.mem_range,ba]at h;have af:=(h j aL).1;rw[aw]at af;simp only[jm,Dy,Array.all_eq_true_iff_forall_mem,nr,jZ]at af;rcases af e he with ao|ao
 .rw[ag]at ao;cases ao
 simp_all
theorem aiP{tm0:List AV}(h:xm aq ops tm0=true)(ak:ops[i]?=some x)(aN:ops[j]?=some y)(l4:i<j)(aJ:i∉(ancTab ops.toList).getD j []):HG aq ops tm0 ((ancTab ops.toList).getD i []) ((ancTab ops.toList).getD j []) x y=true:=by have aL:=(s0.1 aN).1;simp only[xm,ec,List.mem_range,ba]at h;grind
theorem aiQ{tm0:List AV}(h:xm aq ops tm0=true):∀(j y:Nat),j<ops.size->y∈(ancTab ops.toList).getD j []->y<j:=by
 intro j;induction j using Nat.strongRecOn with
 |ind j ih=>intro y aP aN;obtain⟨e,he,ag,ao⟩:=tab_spec (Bf aP) aN;have aL:=OV h (Bf aP) e he ag;grind
theorem Ws{tm0:List AV}{s t:Nat}(h:HC ops tm0 s t=true):xk ops t=true/\∃j E8,tm0.getD t .J=.ptr j E8/\BE ops tm0 s j=true:=by grind[HC]
theorem aiR(aD:rid<67108864){tm0:List AV}(au:HG aq ops tm0 ((ancTab ops.toList).getD i []) ((ancTab ops.toList).getD j []) x y=true)(bO:i≠j)(hi:i<64)(aP:j<64)(l4:i∉(ancTab ops.toList).getD j [])(sn:j∉(ancTab ops.toList).getD i []):o6 aq rid ops (ancTab ops.toList) tm0 i j x y:=by
 simp only[HG,ba,nr,jZ]at au;obtain⟨af,ao⟩:=au;obtain⟨bJ,a2,a3⟩:=Oper.apart_spec af;refine⟨bO,hi,aP,l4,sn,bJ,a3,a2,?_,aD⟩;rcases ao with(⟨ao,a1⟩|ao)|(ao|ao)
 .refine .ld (λaa=>.inl ?_) λaa=>.inl ?_
  .grind
  grind
 .unfold Ua at ao;split at ao
  .rename_i ty s OW t z ex v7;obtain⟨f2,et,E8,bc,aJ⟩:=Ws ao;exact .ld (λaa=>(by rw[ex]at aa;cases aa)) λ_=>.inr (.inl ⟨et,⟨ty,s,ex,aJ⟩,⟨OW,t,z,E8,v7,f2,bc⟩⟩)
  .rename_i ty t z OW s ex v7;obtain⟨f2,et,E8,bc,aJ⟩:=Ws ao;exact .ld (λ_=>.inr (.inl ⟨et,⟨OW,s,v7,aJ⟩,⟨ty,t,z,E8,ex,f2,bc⟩⟩)) λaa=>(by rw[v7]at aa;cases aa)
  .rename_i ty s args ae ex v7;exact .ld (λaa=>(by rw[ex]at aa;cases aa)) λ_=>.inr (.inr ⟨⟨ty,s,ex,ao⟩,⟨args,ae,v7⟩⟩)
  .rename_i args ae ty s ex v7;exact .ld (λ_=>.inr (.inr ⟨⟨ty,s,v7,ao⟩,⟨args,ae,ex⟩⟩)) λaa=>(by rw[v7]at aa;cases aa)
  .cases ao
 .simp only[Ud,ba,nr]at ao;rcases ao with⟨ao,a1⟩|⟨ao,a1⟩
  .exact .OR ao a1
  .exact .OS ao a1
 .simp only[Uc,ba,nr,jZ]at ao;obtain⟨ao,a1⟩:=ao;refine .loc (λaa=>?_) λaa=>?_
  .grind
  grind
theorem aiS{B:Ctx}{K:Act->World->Prop}{tab:List (List Nat)}(bR:aM P aq){a:Act}
  (an:mz P aq rid ops tab i st=some t)(eE:eX w0 bh B st a w)(bg:∀cL w',eX w0 bh B t cL w'->K cL w'):wpOpIn (l7 R) 0 P ops Q i K a w:=by
 unfold wpOpIn
 unfold mz at an
 cases aw:ops[i]?with
 |none=>grind
 |some o=>
  simp only[aw]at an⊢
  obtain⟨S,β,og,ah,aY⟩:=eE
  have run:vW P aq rid tab i o st=some t->o.cX R P a w K Q:=λaD=>by
   unfold vW at aD;cases he:b7 P aq (rid*64+i) o st.tm (hQ rid (tab.getD i []) st.rows) some with
   |none=>rw[he]at aD;cases aD
   |some e=>
    simp only[he,j0]at aD;split at aD
    .rename_i aR;cases aD;refine EM bR ah aY (λid x ak=>?_) (λe' xc=>?_) he (λe' cL w' xc ak=>?_)
     .grind[rn]
     .cases xc;exact aR
     grind
    .cases aD
  have skip:Ca o st=t->K (a.put o.dst undef) w:=λaD=>by subst aD;exact bg _ _ ⟨S,β,og,ah.put o.dst (.undef _),aY⟩
  cases aB:o.guard with
  |none=>
   simp only[aB]at an
   simp only[Region.wanted,aB,kn]
   exact run an
  |some p=>
   obtain⟨j,want⟩:=p
   simp only[aB]at an
   obtain⟨zJ,zK⟩:=EN ah.tm ops j
   simp only[Region.wanted,aB]
   split at an
   .rename_i b ag;rw[zJ b ag];split at an
    .rename_i p6;have pM:b=want:=wZ;simp only[pM,ha,kn];exact run an
    .rename_i p6;have pM:¬(some b==some want)=true:=wZ;rw[c0 pM];exact⟨λ_ _=>trivial,skip DR⟩
   .rename_i ag;rw[zK ag];have:¬((none:Option Bool)==some want)=true:=bb;rw[c0 this];exact⟨λ_ _=>trivial,skip DR⟩
   .cases an
def VRels.world{w':World}{S:Nat->Prop}{β:cD}{cs:List AV}{vs:List Value}(h:VRels w S β cs vs)(hh:w'.heap=w.heap):VRels w' S β cs vs:=h.mono (λ_ h=>h) (λb _=>by rw[hh]) (λ_ _ h=>h)
def eX.world{B:Ctx}{a:Act}{w':World}(h:eX w0 bh B st a w)(hh:w'.heap=w.heap)(aw:w'.os=w.os)(aQ:w'.tape=w.tape)(au:w'.output=w.output):eX w0 bh B st a w':=by obtain⟨S,β,og,ah,aY⟩:=h;refine⟨S,β,og,⟨ah.tm.world hh,ah.df,λid r aD=>?_,ah.inj,λid g aB=>by rw[hh];exact ah.lt id g aB,ah.used,ah.one,λb ag=>by rw[hh];exact ah.dF b ag,by rw[hh];exact ah.dZ,ah.pid⟩,⟨⟨⟨aw.trans aY.gL.os,aQ.trans aY.gL.tape,au.trans aY.gL.output,by rw[hh];exact aY.gL.size,λk ai=>by rw[hh];exact aY.gL.block k ai⟩,aY.gL.js⟩,aY.sin,aY.sub⟩⟩;exact(ah.row id r aD).gJ (λ_ _ h=>h) (λ_ h=>h) (λ_ _ h=>h) (λb _=>by rw[hh]) (λb _=>by rw[hh])
def rem(listed:Array Bool)(n:Nat):List Nat:=(List.range n).filter λi=> !listed.getD i true
theorem mem_rem{n:Nat}:i∈rem listed n↔i<n/\listed.getD i true=false:=by grind[rem]
theorem rem_split{n:Nat}(an:listed.size=n)(hi:i<n)(hu:listed.getD i true=false):
  ∃b1 cS,rem listed n=b1++i::cS/\rem (listed.setIfInBounds i true) n=b1++cS/\∀j∈b1,j<i/\listed.getD j true=false:=by
 have aD:List.range n=List.range i++i::List.range' (i+1) (n-i-1):=by
  rw[List.range_eq_range',List.range_eq_range'];have:n=i+(1+(n-i-1)):=al;conv=>lhs;rw[this]
  rw[<-List.range'_append_1,sX,<-List.range'_append_1];rfl
 have ER:∀(l:List Nat),(∀j∈l,j≠i)->l.filter (λj=> !(listed.setIfInBounds i true).getD j true)=l.filter (λj=> !listed.getD j true):=λl ay=>List.filter_congr λj aP=>by rw[getD_set_ne true (Ne.symm (ay j aP))]
 refine⟨(List.range i).filter λj=> !listed.getD j true,(List.range' (i+1) (n-i-1)).filter λj=> !listed.getD j true,?_,?_,λj aP=>?_⟩
 .simp_all[rem]
 .unfold rem;simp_all;grind
 grind
def getD_tf(h:listed.getD i false=true):listed.getD i true=true:=bM
def getD_ft(hi:i<listed.size)(h:listed.getD i true=true):listed.getD i false=true:=bM
theorem aiT(aD:rid<67108864){B:Ctx}(bR:aM P aq){tm0:List AV}(hT:xm aq ops tm0=true)(cx:ops.size<=64){fin:bC}(e9:∀a w,eX w0 bh B fin a w->Q .normal a w):
  ∀(fuel:Nat)(listed:Array Bool)(st f:bC)(a:Act)(w:World),sk rid ops tm0 st.tm->listed.size=ops.size->(rem listed ops.size).length<=fuel->
   (∀j,j<ops.size->listed.getD j false=true->∀y∈(ancTab ops.toList).getD j [],listed.getD y false=true)->
   o5 P aq rid ops (ancTab ops.toList) (rem listed ops.size) st=some f->fO fin f->eX w0 bh B st a w->wpAnyIn (l7 R) 0 P .any ops Q fuel listed a w:=by
 have done:∀(listed:Array Bool)(st f:bC)(a:Act)(w:World),listed.size=ops.size->Region.ready .any ops listed=[]->
   o5 P aq rid ops (ancTab ops.toList) (rem listed ops.size) st=some f->fO fin f->eX w0 bh B st a w->Q .normal a w:=by
  intro listed st f a w kO aD bu cg eE
  have sj:rem listed ops.size=[]:=by
   by_cases bO:rem listed ops.size=[]
   .exact bO
   .exfalso;have hex:∃i,i<ops.size/\listed.getD i true=false:=SG;have key:∀i,i<ops.size->listed.getD i true=false->False:=by
      intro i;induction i using Nat.strongRecOn with
      |ind i ih=>intro hi hu;have:i∈Region.ready .any ops listed:=mem_ready.2 ⟨hu,_,Bf hi,λe he ag=>by have aL:=OV hT (Bf hi) e he ag;grind⟩;grind
    grind
  rw[sj]at bu
  simp only[o5,ej]at bu
  subst bu
  exact e9 a w (eE.eqv cg.symm)
 intro fuel
 induction fuel with
 |zero=>
  intro listed st f a w gN kO hlen di bu cg eE
  have sj:rem listed ops.size=[]:=pn al
  have aD:Region.ready .any ops listed=[]:=by refine List.eq_nil_iff_forall_not_mem.2 λi hi=>?_;obtain⟨hu,o,aw,_⟩:=mem_ready.1 hi;have:i∈rem listed ops.size:=mem_rem.2 ⟨(s0.1 aw).1,hu⟩;rw[sj]at this;cases this
  exact⟨aD,done listed st f a w kO aD bu cg eE⟩
 |succ fuel ih=>
  intro listed st f a w gN kO hlen di bu cg eE
  refine⟨λaD=>done listed st f a w kO aD bu cg eE,λi hi=>?_⟩
  obtain⟨hu,o,aw,cn⟩:=mem_ready.1 hi
  have dt:=(s0.1 aw).1
  obtain⟨b1,cS,hI,nK,mU⟩:=rem_split kO dt hu
  have aiU:∀y∈(ancTab ops.toList).getD i [],listed.getD y false=true:=λy aN=>by grind[tab_spec,OV]
  rw[hI]at bu
  obtain⟨t,tx,af,ao,a1⟩:=toFront bR.dX (tm0:=tm0) aw b1 cS st f gN (λj aP=>by
   obtain⟨sn,avV⟩:=mU j aP;have Wt:j<ops.size:=al;have aJ:j∉(ancTab ops.toList).getD i []:=λhm=>bM;have j3:i∉(ancTab ops.toList).getD j []:=λhm=>by have:=aiQ hT j i Wt hm;omega
   grind[aiR,aiP]) bu
  refine aiS bR af eE λcL w' zT=>?_
  refine ih (listed.setIfInBounds i true) t tx cL w' (Wd al gN af) (by simpa using kO) ?_ ?_ (by rw[nK];exact ao) (cg.trans a1) zT
  .grind
  .intro j aP E9 y aN;by_cases sn:i=j
   .grind[getD_set_true]
   .rw[getD_set_ne false sn]at E9;grind[getD_set_true]
theorem rem_none(n:Nat):rem (Array.replicate n false) n=List.range' 0 n:=by simp_all[rem,List.range_eq_range']
theorem so(bR:aM P aq)(hm:P.follows .mixedOrders=true):uG P aq:=by
 intro aj w0 bh B id ops k r st a w Q R cx hT hid h eE ai;obtain⟨fin,af,ao⟩:=IN bR.dX (tab:=ancTab ops.toList) (ops:=ops) ops.toList 0 st (λj=>bb) h;refine wpIn_region_any hm ?_;refine aiT (rid:=id) hid bR hT cx (fin:=fin) (λa w zT=>ai fin a w ao zT) ops.size _ st fin a _ ⟨λ_ _=>rfl,λs an=>by simp_all[BF],λek s an=>.inl (by simp_all[D4]),λs j an=>by simp_all[BE]⟩ bb (by rw[rem_none];simp) (λj aP ay=>?_) ?_ (fO.refl _) (eE.world rfl rfl rfl rfl)
 .simp[aP]at ay
 grind[rem_none]
end draw
open Go.RowKit Go.WideShapes Go.ChangeShapes
mutual
def Sh.wt:Sh->Nat
 |.str=>16
 |.slice _=>24
 |.agg l=>Sh.Wu l
 |_=>1
def Sh.Wu:List Sh->Nat
 |[]=>0
 |s::l=>s.wt+Sh.Wu l
end
inductive Fit:AV->Prop where
 |int (k:IntKind) (n:Int) (h:(Lit.int k n).wf=true):Fit (.int k n)
 |bool (b:Bool):Fit (.bool b)
 |str (s:List UInt8) (h:s.length<=reachBytes):Fit (.str s)
 |agg (cs:List AV) (h:∀c∈cs,Fit c):Fit (.agg cs)
 |ab (s:Sh) (es:List AV) (h:es.length<=reachBytes) (hw:es.length*s.wt<=reachBytes) (an:∀e∈es,cb s e=true) (aR:∀e∈es,Fit e):Fit (.ab s es)
mutual
def AV.kP:AV->Nat
 |.str s=>s.length+1
 |.agg cs=>AV.ks cs
 |.ab _ es=>AV.ks es+1
 |_=>1
def AV.ks:List AV->Nat
 |[]=>0
 |c::cs=>c.kP+AV.ks cs
end
def Wv(l r:List AV):AV.ks (l++r)=AV.ks l+AV.ks r:=by
 induction l with
 |nil=>simp[AV.ks]
 |cons c l ih=>simp only[A1,AV.ks,ih];omega
structure Cf(H:Type) where
 ns:DataW H->Nat
 all:List (DataW H)->Nat
 str:∀b,ns (.lit (.string b))=b.length+1
 lit:∀l,1<=ns (.lit l)
 nil:1<=ns .nil
 agg:∀l,ns (.agg l)=all l+1
 slice:∀e s,ns (.slice e s)=all e+all s+1
 Ww:all []=0
 I2:∀d l,all (d::l)=ns d+all l
def Cf.app{H:Type}(B:Cf H)(l r:List (DataW H)):B.all (l++r)=B.all l+B.all r:=by
 induction l with
 |nil=>simp[B.Ww]
 |cons c l ih=>simp only[A1,B.I2,ih];omega
def zU(P:Program)(ok:TypeId->Bool)(fy:TypeId->Sh):Nat->List Field->Nat->Bool
 |off,[],total=>off==total
 |off,f::aC,total=>(f.offset==off)&&((P.cellsOf f.type==(fy f.type).width)&&(ok f.type&&zU P ok fy (off+P.cellsOf f.type) aC total))
def rp(P:Program):Nat->TypeId->Bool
 |0,_=>false
 |n+1,t=>
  match P.underlying t with
  |some (.int _)=>true
  |some .bool=>true
  |some .string=>true
  |some (.slice e)=>(P.cellsOf e==(shOf P n e).width)&&((Nat.blt 0 (P.cellsOf e)&&(Nat.blt 0 (P.bytesOf e)&&Nat.ble (shOf P n e).wt (P.bytesOf e)))&&rp P n e)
  |some (.struct aC)=>zU P (rp P n) (shOf P n) 0 aC.toList (P.cellsOf t)
  |_=>false
def Wx:∀(l gW:List Sh),Sh.q0 l l=true->Sh.q0 gW gW=true->Sh.q0 (l++gW) (l++gW)=true
 |[],gW,_,h=>h
 |a::l,gW,h,h'=>by simp only[Sh.q0,ba]at h;simp only[A1,Sh.q0,ba];exact⟨h.1,Wx l gW h.2 h'⟩
theorem aiV{s:Sh}(h:Sh.beq s s=true):Sh.q0 s.cells s.cells=true:=by cases s<;>simp_all[Sh.cells,Sh.q0,Sh.beq]
def Wy{P:Program}{ok:TypeId->Bool}{fy:TypeId->Sh}(hT:∀t,ok t=true->Sh.beq (fy t) (fy t)=true):∀(aC:List Field)(off total:Nat),zU P ok fy off aC total=true->
  Sh.q0 (aC.flatMap λf=>(fy f.type).cells) (aC.flatMap λf=>(fy f.type).cells)=true
 |[],_,_,_=>rfl
 |f::aC,off,total,h=>by simp only[zU,ba]at h;rw[mg];exact Wx _ _ (aiV (hT _ h.2.2.1)) (Wy hT aC _ _ h.2.2.2)
def MI{P:Program}:∀(n:Nat)(t:TypeId),rp P n t=true->Sh.beq (shOf P n t) (shOf P n t)=true
 |0,_,h=>by simp[rp]at h
 |n+1,t,h=>by
  simp only[rp]at h;simp only[shOf];cases hu:P.underlying t with
  |none=>simp[hu]at h
  |some d=>
   simp only[hu]at h;cases d<;>simp only[p2]at h<;>simp only[Sh.beq,decide_true]
   case slice e=>simp only[ba]at h;exact MI n e h.2.2
   case struct aC=>exact Wy (λt aQ=>MI n t aQ) aC.toList _ _ h
section open_
variable{H:Type}{enc:TypeId×Value->H}{P:Program}{w:World}{sp:Nat->Bool}{held:Bool}(B:Cf H)
def here(w:World):Nat->Prop:=λb=>b<w.heap.size
structure OX(P:Program)(w:World)(s:Sh)(cs:List Value)(aA:List AV)(m:Nat):Prop where
 rel:VRels w (here w) cq aA cs
 has:gg s.cells aA=true
 fit:∀c∈aA,Fit c
 one:∀u∈cs,u.oneCell'=true
 kP:AV.ks aA<=m
def Wz{s:Sh}{aA:List AV}(h:gg s.cells aA=true)(aR:∀c∈aA,Fit c):Fit (dU s aA):=by
 have aa:=Ii h;cases s with
 |agg l=>exact .agg _ aR
 |_=>
  cases aA with
  |nil=>simp[Sh.cells,gg]at h
  |cons c cs=>exact aR c bb
def WA{s:Sh}{aA:List AV}(h:gg s.cells aA=true):(dU s aA).kP<=AV.ks aA:=by
 cases s with
 |agg l=>simp[dU,AV.kP]
 |_=>
  cases aA with
  |nil=>simp[Sh.cells,gg]at h
  |cons c cs=>simp[dU,AV.ks]
def WB{a:Addr}{u:Value}(h:w.cell? a=some u):a.block<w.heap.size:=by
 unfold World.cell? at h;rcases Bc a.block w.heap.size with h'|h'
 .exact h'
 .simp[Array.getElem?_eq_none h']at h
def aiW{a:Addr}:∀{n:Nat}{cs:List Value},w.cells? 0 a n=some cs->cs.length=n/\∀(j:Nat)(u:Value),cs[j]?=some u->w.cell? (a.add j)=some u:=by
 intro n;unfold World.cells?;simp only[iM,kn];induction n with
 |zero=>intro cs h;simp at h;subst h;simp
 |succ n ih=>
  intro cs h;rw[List.range_succ,List.mapM_append]at h;cases af:(List.range n).mapM λi=>w.cell? (a.add i)with
  |none=>simp[af]at h
  |some l=>
   simp only[af,Option.bind_eq_bind,j0,List.mapM_cons,List.mapM_nil,Option.pure_def]at h;cases ao:w.cell? (a.add n)with
   |none=>simp[ao]at h
   |some u=>
    simp only[ao,j0,ej]at h;subst h;obtain⟨a1,ca⟩:=ih af;refine⟨by simp[a1],λj x ak=>?_⟩;rcases Bc j l.length with aP|aP
    .rw[GA aP]at ak;exact ca j x ak
    .rw[Bi aP]at ak;have:j-l.length=0:=by
       rcases vl (j-l.length)with h|h
       .exact h
       .rw[GI lu]at ak;cases ak
     rw[this]at ak;simp at ak;have:j=n:=al;subst this;rw[<-ak];exact ao
def WC{e:TypeId}:∀{l:List (DataW H)}{d:DataW H},d∈l->∀n∈d.weights P e,n∈DataW.weightsAll P e l
 |d0::l,d,h,n,aJ=>by
  simp only[DataW.weightsAll,gD];rcases gv.1 h with rfl|h
  .exact .inl aJ
  .exact .inr (WC h n aJ)
def WD{s:Sh}{c:Nat}{a:Addr}{f:List Value->Option (DataW H×List MemPlace)}(aa:c=s.width){elems:List (DataW H×List MemPlace)}(aR:∀cs x,x∈elems->f cs=some x->∃aA,OX P w s cs aA (B.ns x.1))
  (he:∀i,i<elems.length->(w.cells? 0 (a.add (i*c)) c).bind f=elems[i]?):
  ∀(len:Nat),len<=elems.length->
   ∃(es:List AV)(xs:List Value),es.length=len/\(∀e∈es,cb s e=true)/\(∀e∈es,Fit e)/\VRels w (here w) cq (flat es) xs/\(∀u∈xs,u.oneCell'=true)/\
    (∀(j:Nat)(u:Value),xs[j]?=some u->w.cell? (a.add j)=some u)/\xs.length=len*c/\AV.ks es<=B.all ((elems.take len).map (·.1))
 |0,_=>⟨[],[],rfl,bb,bb,VRels.nil,bb,bb,bb,by simp[AV.ks]⟩
 |len+1,hle=>by
  have aL:len<elems.length:=al;have h:=he len aL;rw[fC aL]at h;cases ao:w.cells? 0 (a.add (len*c)) c with
  |none=>simp[ao]at h
  |some cs=>
   simp only[ao,j0]at h;obtain⟨es,xs,i1,i2,i3,i4,i5,i6,i7,i8⟩:=WD aa aR he len al;obtain⟨aA,aY⟩:=aR cs _ (p3 aL) h;obtain⟨b2,bX⟩:=aiW ao;obtain⟨m1,m2⟩:=Ii aY.has;refine⟨es++[dU s aA],xs++cs,by simp[i1],?_,?_,?_,?_,?_,?_,?_⟩
   .intro e he;simp only[gD,oM]at he;rcases he with he|rfl
    .exact i2 e he
    .exact m2
   .intro e he;simp only[gD,oM]at he;rcases he with he|rfl
    .exact i3 e he
    .exact Wz aY.has aY.fit
   .have:flat (es++[dU s aA])=flat es++aA:=by simp[flat,m1]
    rw[this];exact i4.append aY.rel
   .intro u hu;simp only[gD]at hu;rcases hu with hu|hu
    .exact i5 u hu
    .exact aY.one u hu
   .intro j u hu;rcases Bc j xs.length with aP|aP
    .rw[GA aP]at hu;exact i6 j u hu
    .rw[Bi aP]at hu;have:=bX _ u hu;rw[add_add,i7]at this;have e:len*c+(j-len*c)=j:=by rw[i7]at aP;omega
     rwa[e]at this
   .simp only[fu,i7,b2];rw[Nat.succ_mul]
   .rw[Wv,LS,fC aL,yK,B.app];simp only[AV.ks,Option.toList_some,iZ,Dw,B.I2,B.Ww];have:=WA aY.has;have:=aY.kP;omega
def WE{fy:TypeId->Sh}{ok:TypeId->Bool}{f:TypeId->List Value->Option (DataW H×List MemPlace)}(aR:∀t cs x,ok t=true->(∀n∈x.1.weights P t,n<=reachBytes)->f t cs=some x->∃aA,OX P w (fy t) cs aA (B.ns x.1))(cs:List Value):
  ∀(aC:List Field)(off:Nat)(xs:List (DataW H×List MemPlace)),zU P ok fy off aC cs.length=true->xs.length=aC.length->(∀n∈DataW.weightsEach P (aC.map (·.type)) (xs.map (·.1)),n<=reachBytes)->(∀(i:Nat)(g:Field),aC[i]?=some g->f g.type ((cs.drop g.offset).take (P.cellsOf g.type))=xs[i]?)->
   ∃aA,VRels w (here w) cq aA (cs.drop off)/\gg (aC.flatMap λg=>(fy g.type).cells) aA=true/\(∀c∈aA,Fit c)/\(∀u∈cs.drop off,u.oneCell'=true)/\AV.ks aA<=B.all (xs.map (·.1))
 |[],off,xs,ay,_,_,h=>by simp only[zU,h0]at ay;have aX:cs.drop off=[]:=List.drop_eq_nil_of_le al;rw[aX];exact⟨[],VRels.nil,rfl,bb,bb,by simp[AV.ks]⟩
 |g::aC,off,[],ay,hlen,_,h=>by simp at hlen
 |g::aC,off,x::cm,ay,hlen,bp,h=>by
  simp only[zU,ba,h0]at ay;obtain⟨af,ao,a1,ca⟩:=ay;have aU:f g.type ((cs.drop g.offset).take (P.cellsOf g.type))=some x:=h 0 g rfl;have bc:∀(i:Nat)(g:Field),aC[i]?=some g->f g.type ((cs.drop g.offset).take (P.cellsOf g.type))=cm[i]?:=λi g aB=>h (i+1) g aB;obtain⟨aA,aY⟩:=aR _ _ _ a1 (λn aJ=>bp n (by simp only[iZ,DataW.weightsEach,gD];exact .inl aJ)) aU;obtain⟨aiX,i1,i2,i3,i4,i5⟩:=WE aR cs aC _ cm ca (by simpa using hlen) (λn aJ=>bp n (by simp only[iZ,DataW.weightsEach,gD];exact .inr aJ)) bc;have gA:cs.drop off=(cs.drop g.offset).take (P.cellsOf g.type)++cs.drop (off+P.cellsOf g.type):=by rw[af,<-AY,uh]
  refine⟨aA++aiX,?_,?_,?_,?_,?_⟩
  .rw[gA];exact aY.rel.append i1
  .rw[mg];have EB:∀(l gW:List Sh)(a b:List AV),gg l a=true->gg gW b=true->gg (l++gW) (a++b)=true:=by
     intro l;induction l with
     |nil=>intro gW a b cI ag;cases a<;>simp[gg]at cI;exact ag
     |cons s l ih=>
      intro gW a b cI ag;cases a with
      |nil=>simp[gg]at cI
      |cons c a=>simp only[gg,ba]at cI;simp only[A1,gg,ba];exact⟨cI.1,ih gW a b cI.2 ag⟩
   exact EB _ _ _ _ aY.has i2
  .intro c aa;simp only[gD]at aa;rcases aa with aa|aa
   .exact aY.fit c aa
   .exact i3 c aa
  .intro u hu;rw[gA,gD]at hu;rcases hu with hu|hu
   .exact aY.one u hu
   .exact i4 u hu
  .rw[Wv];simp only[iZ,B.I2];have:=aY.kP;omega
def OY:∀(fuel n:Nat)(t:TypeId)(cs:List Value)(x:DataW H×List MemPlace),rp P n t=true->(∀m∈x.1.weights P t,m<=reachBytes)->DataW.trod enc P w 0 sp held fuel t cs=some x->∃aA,OX P w (shOf P n t) cs aA (B.ns x.1)
 |0,n,t,cs,x,_,_,h=>by simp[DataW.trod]at h
 |fuel+1,0,t,cs,x,aJ,_,_=>by simp[rp]at aJ
 |fuel+1,n+1,t,cs,x,aJ,bp,h=>by
  simp only[rp]at aJ;cases hu:P.underlying t with
  |none=>simp[hu]at aJ
  |some d=>
   simp only[hu]at aJ;cases d<;>simp only[p2]at aJ
   case bool=>
    obtain⟨b,rfl,rfl⟩:=DataW.trod_bool hu h;refine⟨[.bool b],VRels.cons (.bool _ b) VRels.nil,Mc,?_,?_,?_⟩
    .intro c aa;simp at aa;subst aa;exact .bool b
    .exact DW
    .simp only[AV.ks,AV.kP];exact B.lit _
   case int k=>
    obtain⟨m,rfl,rfl,hw⟩:=DataW.trod_int hu h;refine⟨[.int k m],VRels.cons (.int _ k m) VRels.nil,Mc,?_,?_,?_⟩
    .intro c aa;simp at aa;subst aa;exact .int k m hw
    .exact DW
    .simp only[AV.ks,AV.kP];exact B.lit _
   case string=>
    obtain⟨s,rfl,rfl,an⟩:=DataW.trod_string hu h;have ar:VRel w (here w) cq (.str s.data.toList) (.string s):=by have:=VRel.str (w:=w) (S:=here w) cq s.data.toList;simpa using this
    refine⟨[.str s.data.toList],VRels.cons ar VRels.nil,Mc,?_,?_,?_⟩
    .intro c aa;simp at aa;subst aa;exact .str _ (bp _ (by simp[DataW.weights]))
    .exact DW
    .simp only[AV.ks,AV.kP,B.str];omega
   case slice e=>
    simp only[ba,h0]at aJ;obtain⟨b0,⟨bS,n4,I3⟩,n3⟩:=aJ;have dd:shOf P (n+1) t=.slice (shOf P n e):=by simp[shOf,hu]
    rw[dd];rcases DataW.trod_slice hu h with⟨rfl,rfl⟩|⟨a,len,cap,elems,rest,m,hm,rfl,rfl,_,xx,U0,gp,pA,_,_⟩
    .refine⟨[.ab (shOf P n e) []],VRels.cons (.ab _ _ [] none 0 ⟨0,0,none⟩ [] bb (dc _) (iM _) (λh=>absurd rfl h) rfl bb bb bb) VRels.nil,?_,?_,?_,?_⟩
     .exact T0
     .intro c aa;simp at aa;subst aa;exact .ab _ _ (iM _) bb bb bb
     .exact DW
     .simp only[AV.ks,AV.kP];exact B.nil
    .obtain rfl:fuel=m:=al;subst gp;have aiY:∀x∈elems,∀m∈x.1.weights P e,m<=reachBytes:=λx ak m hm=>bp m (by simp only[DataW.weights,hu,gv,gD];exact .inr (.inl (WC (uj.2 ⟨x,ak,rfl⟩) m hm)));have EL:elems.length*P.bytesOf e<=reachBytes:=by have af:=bp ((elems.map (·.1)).length*P.bytesOf e+(rest.map (·.1)).length*P.bytesOf e) (by simp only[DataW.weights,hu,gv];exact .inl (kB _ _ _).symm);rw[g']at af;omega
     have N7:elems.length<=reachBytes:=by have ao:0<P.bytesOf e:=kA n4;have a1:=Nat.le_mul_of_pos_right elems.length ao;omega
     have zH:elems.length*(shOf P n e).wt<=reachBytes:=lp (Nat.mul_le_mul_left _ (kA I3)) EL;obtain⟨es,xs,i1,i2,i3,i4,i5,i6,i7,i8⟩:=WD (a:=a) B b0 (elems:=elems) (λcs x hm ak=>OY fuel n e cs x n3 (aiY x hm) ak) (λi hi=>pA i hi) elems.length (dc _);have fU:(flat es).length=xs.length:=i4.1.symm;have ar:VRel w (here w) cq (.ab (shOf P n e) es) (.slice (some a) es.length cap):=by
      refine .ab _ _ es (some a) cap a xs i2 al U0 (λbO=>⟨rfl,?_⟩) fU.symm i5 i6 (λj c u aa hu=>i4.2 j c u aa hu);have dJ:0<xs.length:=by rw[i7];have:0<es.length:=Be.2 bO;exact Nat.mul_pos al (kA bS)
      have:=i6 0 xs[0] (fC dJ);have:=WB this;rwa[Mt]at this
     rw[i1]at ar;refine⟨[.ab (shOf P n e) es],VRels.cons ar VRels.nil,?_,?_,?_,?_⟩
     .exact T0
     .intro c aa;simp at aa;subst aa;exact .ab _ _ (by rw[i1];exact N7) (by rw[i1];exact zH) i2 i3
     .exact DW
     .simp only[AV.ks,AV.kP,B.slice];rw[nn (dc _)]at i8;omega
   case struct aC=>
    obtain⟨xs,m,hm,rfl,hlen,kp,pA⟩:=DataW.trod_struct hu h;obtain rfl:fuel=m:=al;rw[<-hlen]at aJ;obtain⟨aA,i1,i2,i3,i4,i5⟩:=WE B (f:=λt cs=>DataW.trod enc P w 0 sp held fuel t cs) (λt cs x aQ bp ak=>OY fuel n t cs x aQ bp ak) cs aC.toList 0 xs aJ (by simpa using kp) (λm hm=>bp m (by simp only[DataW.weights,hu];exact hm)) (λi g aB=>pA i g (by simpa using aB));refine⟨aA,by simpa using i1,?_,i3,by simpa using i4,?_⟩
    .simpa[shOf,hu,Sh.cells]using i2
    .rw[B.agg];omega
theorem aiZ{n:Nat}{t:TypeId}{v:Value}{d:DataW H}{bj:List MemPlace}{r:Reach}{jB:Nat}(aJ:rp P n t=true)(q':Value.okWide P w r jB t v)(bp:∀m∈d.weights P t,m<=reachBytes)(h:DataW.Trod enc P w 0 sp held t v d bj):
  ∃h3,VRel w (here w) cq h3 v/\cb (shOf P n t) h3=true/\Fit h3/\h3.kP<=B.ns d:=by
 obtain⟨fuel,h⟩:=h
 obtain⟨aA,aY⟩:=OY B fuel n t _ _ aJ bp h
 have hm:=Ii aY.has
 refine⟨dU (shOf P n t) aA,?_,hm.2,Wz aY.has aY.fit,lp (WA aY.has) aY.kP⟩
 cases n with
 |zero=>simp[rp]at aJ
 |succ n=>
  have one:(∃u,v=u/\v.cells.toList=[v])->(dU (shOf P (n+1) t) aA=aA.headD .J)->VRel w (here w) cq (dU (shOf P (n+1) t) aA) v:=by
   rintro⟨u,_,ar⟩ xH;have hrel:=aY.rel;rw[ar]at hrel;rw[xH];cases aA with
   |nil=>simpa using hrel.1
   |cons c cs=>obtain⟨da,fr,af,ao,_⟩:=hrel.inv;cases af;exact ao
  simp only[rp]at aJ
  cases hu:P.underlying t with
  |none=>simp[hu]at aJ
  |some vO=>
   simp only[hu]at aJ
   cases vO<;>simp only[p2]at aJ
   case bool=>obtain⟨b,rfl⟩:=okWide_bool hu q';exact one ⟨_,rfl,rfl⟩ DM
   case int k=>obtain⟨b,rfl⟩:=okWide_int hu q';exact one ⟨_,rfl,rfl⟩ DM
   case string=>obtain⟨b,rfl⟩:=okWide_string hu q';exact one ⟨_,rfl,rfl⟩ DM
   case slice e=>
    refine one ⟨_,rfl,?_⟩ DM
    simp only[Value.okWide,hu,Cell.okWide]at q'
    cases v<;>simp_all[Cell.ok,Value.cells]
   case struct aC=>
    obtain⟨cs,rfl,_⟩:=okWide_struct hu q'
    have xH:dU (shOf P (n+1) t) aA=.agg aA:=DM
    rw[xH]
    have:=VRel.agg (w:=w) (S:=here w) cq aA cs.toList aY.rel.1 (λu hu=>aY.one u hu) (λj c u aa hu=>aY.rel.2 j c u aa hu)
    simpa using this
end open_
def hasAll:List Sh->List AV->Bool
 |[],[]=>true
 |s::l,c::cs=>cb s c&&hasAll l cs
 |_,_=>false
structure WG(en:List Sh)(aA:List AV)(m:Nat):Prop where
 has:hasAll en aA=true
 fit:∀a∈aA,Fit a
 kP:AV.ks aA<=m
section
variable{H:Type}{enc:TypeId×Value->H}{P:Program}
theorem WH(B:Cf H){n:Nat}{w:World}{sp:Nat->Bool}{held:Bool}{r:Reach}{jB:Nat}:∀(ae:List TypeId)(vs:List Value)(ds:List (DataW H))(bj:List MemPlace),(∀t∈ae,rp P n t=true)->
  (∀(j:Nat)(t:TypeId)(v:Value),ae[j]?=some t->vs[j]?=some v->Value.okWide P w r jB t v)->(∀m∈DataW.weightsEach P ae ds,m<=reachBytes)->DataW.TrodAll enc P w 0 sp held ae vs ds bj->
  ∃aA,VRels w (here w) cq aA vs/\WG (ae.map (shOf P n)) aA (B.all ds)/\ds.length=ae.length
 |[],[],[],bj,_,_,_,_=>⟨[],VRels.nil,⟨rfl,bb,by simp[AV.ks]⟩,rfl⟩
 |[],[],_::_,bj,_,_,_,h=>h.elim
 |[],_::_,_,bj,_,_,_,h=>GW
 |_::_,[],_,bj,_,_,_,h=>GW
 |_::_,_::_,[],bj,_,_,_,h=>h.elim
 |t::ae,v::vs,d::ds,bj,aQ,ar,bp,h=>by
  obtain⟨p,q,af,ao,rfl⟩:=h;obtain⟨h3,bJ,a2,a3,a4⟩:=aiZ B (aQ t bb) (ar 0 t v rfl rfl) (λm hm=>bp m (by grind[DataW.weightsEach])) af;obtain⟨aA,i1,i2,i3⟩:=WH B ae vs ds q (λb' h'=>aQ b' (by simp[h'])) (λj b' da af ao=>ar (j+1) b' da af ao) (λm hm=>bp m (by grind[DataW.weightsEach])) ao;refine⟨h3::aA,VRels.cons bJ i1,⟨?_,?_,?_⟩,by simp[i3]⟩
  .simp only[iZ,hasAll,ba];exact⟨a2,i2.has⟩
  .intro a cI;simp only[gv]at cI;rcases cI with rfl|cI
   .exact a3
   .exact i2.fit a cI
  .simp only[AV.ks,B.I2];have:=i2.kP;omega
def WI{W pP:World}{sp:Nat->Bool}(ay:laidOutB P=true)(ag:Below W.heap.size W pP):∀(ae:List TypeId)(vs:List Value)(ds:List (DataW H))(bj:List MemPlace),(∀t∈ae,P.readableRec t=true/\t<P.types.size)->
  DataW.TrodAll enc P W 0 (λ_=>true) true ae vs ds bj->(∀x∈bj,x.block<W.heap.size)->(∀x∈bj,sp x.block=true)->DataW.TrodAll enc P pP 0 sp true ae vs ds bj
 |[],[],[],bj,_,h,_,_=>h
 |[],[],_::_,bj,_,h,_,_=>h.elim
 |[],_::_,_,bj,_,h,_,_=>GW
 |_::_,[],_,bj,_,h,_,_=>GW
 |_::_,_::_,[],bj,_,h,_,_=>h.elim
 |t::ae,v::vs,d::ds,bj,aQ,h,aL,an=>by obtain⟨p,q,af,ao,rfl⟩:=h;refine⟨p,q,?_,WI ay ag ae vs ds q (λb' h'=>aQ b' (by simp[h'])) ao (λx ak=>aL x lv) (λx ak=>an x lv),rfl⟩;obtain⟨r1,cQ⟩:=aQ t bb;exact WideElems.Trod_stays ay r1 cQ af (λx ak=>ag.same (aL x lv)) (λx ak=>an x lv)
theorem ai0{f:Func}{s:ChangeSpec}{apart fresh handsOn again:Bool}{W pP:World}{args:Array Value}{v:Value}{ds gs:List (DataW H)}{before pa pv:List MemPlace}
  (kt:DataW.Whole enc P f.params.toList s.vars apart W args.toList ds gs before)
  (ts:∀(b:Nat)(sp:Nat->Bool)(aX:Bool),DataW.TrodAll enc P pP b sp aX f.resultTypes.toList (v.resultList f.resultTypes.size) (s.fn H (ds++gs)).results [])
  (jE:∀sp:Nat->Bool,(∀p∈before,sp p.block=true)->DataW.TrodAll enc P pP 0 sp true f.params.toList args.toList (s.fn H (ds++gs)).args pa)
  (WJ:∀sp:Nat->Bool,(∀p∈before,sp p.block=true)->DataW.TrodVars enc P pP sp s.vars (s.fn H (ds++gs)).vars pv)
  (zE:before=pa++pv)(ag:Below W.heap.size W pP)
  (hT:∀(j:Nat)(t:TypeId)(r:Value),f.resultTypes[j]?=some t->(v.resultList f.resultTypes.size)[j]?=some r->Value.okWide P pP .any 0 t r):
  s.post enc P f apart fresh handsOn again W args v pP:=by
 have aL:∀p∈before,p.block<W.heap.size:=λp au=>kt.lt p au
 have hold:∀p∈before,(λb=>decide (b<W.heap.size)) p.block=true:=λp au=>by simpa using aL p au
 refine⟨ds,gs,before,[],pa,pv,kt,ts _ _ _,jE _ hold,WJ _ hold,World.keptBut_mono (λp au=>⟨au,?_⟩) (ag.frame (·∈before)),λ_=>?_⟩
 .grind
 .obtain⟨_,_,_,_,_,bp,aJ⟩:=kt;refine⟨hT,_,_,([]++pa)++pv,⟨[]++pa,pv,trodAll_append (jE _ (λ_ _=>rfl)) (ts _ _ _),WJ _ (λ_ _=>rfl),rfl,?_,?_⟩,?_⟩
  .intro b off au;have dt:MemPlace.cell b off∈before:=by rw[zE];simpa using au
   rw[ag.frozen (aL _ dt)];exact bp b off dt
  .grind
  grind
def WK(P:Program)(n:Nat)(ae:List TypeId):Bool:=ae.all λt=>rp P n t&&(P.readableRec t&&Nat.blt t P.types.size)
theorem ai1(B:Cf H){n:Nat}{f:FuncId}{s:ChangeSpec}{F:Summ}{tb:TypeId}(ay:laidOutB P=true)(au:WK P n fn.params.toList=true)(ai2:hasBody P f=true)(ar:s.vars=[])(aD:fn.resultTypes= #[tb])(B4:P.underlying tb=some .bool)
  (an:∀ds:List (DataW H),ds.length=fn.params.size->s.fn H ds={results:=[.lit (.bool true)],args:=ds})(hF:SumOK P f F)
  {W:World}{base:Nat}{args:Array Value}{ds gs:List (DataW H)}{before:List MemPlace}
  (ai3:∀aA,WG (fn.params.toList.map (shOf P n)) aA (B.all (ds++gs))->F AV aA some=some (.bool true))
  (q':∀(j:Nat) t v,fn.params[j]?=some t->args[j]?=some v->Value.okWide P W .any base t v)
  (bp:(DataW.weightsEach P (fn.params.toList++s.plain.varTypes P) (ds++gs)).all (·<=reachBytes)=true)
  (kt:DataW.Whole enc P fn.params.toList s.vars false W args.toList ds gs before)(iG:Glb (λb=>b<W.heap.size) W:=by exactλ_ _=>trivial):
  Calls P f args W λe pP=>∃v,e=.returned v/\s.post enc P fn false true false false W args v pP:=by
 have WL:=kt
 obtain⟨p,q,bq,E',rfl,gV,zj⟩:=kt
 rw[ar]at E'
 have ai4:gs=[]/\q=[]:=by
  cases gs with
  |nil=>exact⟨rfl,E'⟩
  |cons=>exact E'.elim
 obtain⟨rfl,rfl⟩:=ai4
 simp only[WK,ec,ba]at au
 have sf:∀m∈DataW.weightsEach P fn.params.toList ds,m<=reachBytes:=by
  have ai5:s.plain.varTypes P=[]:=by show s.vars.filterMap _=_;rw[ar];rfl
  rw[ai5,jy,jy]at bp;grind
 obtain⟨aA,i1,i2,i3⟩:=WH B fn.params.toList args.toList ds p (λt aQ=>(au t aQ).1) (λj t v af ao=>q' j t v s5 vt) sf bq
 have EL:=ai3 aA (by simpa using i2)
 have aa:=(hF AV W (here W) aA args.toList some _ ⟨λb ag=>ag,iG⟩ i1 EL).calls ai2
 have aL:∀x∈p,x.block<W.heap.size:=λx ak=>WL.lt x G'
 have OZ:=an ds (by simpa using i3)
 simp only[GG]at aa
 refine aa.mono λe pP he=>?_
 obtain⟨v,h3,S',rfl,ai,ag,_,_,kc⟩:=he
 cases ai
 have fo:v=.bool true:=kc.oP
 subst fo
 refine⟨_,rfl,ai0 (pa:=p) (pv:=[]) WL ?_ ?_ ?_ bb ag ?_⟩
 .intro b sp aX;rw[jy,OZ,aD];exact⟨[],[],⟨1,by simp[DataW.trod,Value.cells,B4]⟩,rfl,rfl⟩
 .intro sp gA;rw[jy,OZ];exact WI ay ag _ _ _ _ (λt aQ=>⟨(au t aQ).2.1,kA (au t aQ).2.2⟩) bq aL (λx ak=>gA x G')
 .intro sp _;rw[jy,OZ,ar];rfl
 .intro j t r af ao;rw[aD]at af ao;cases j with
  |zero=>simp[Value.resultList]at af ao;subst af;subst ao;simp_all[Value.okWide,Cell.okWide,Cell.ok]
  |succ j=>simp at af
end
section nat
variable{P:Program}{aq:Env}{K:List (Nat×Loop)}
def ai6(ops:List Oper)(i:Nat)(dst:Option Tmp)(st:bC)(f:bC->Option bC)(g:bC->Option aj)(k:bC->Option aj)(h:∀s,g s=(f s).bind k):oT ops i dst st g=(oT ops i dst st f).bind k:=by
 unfold oT;split
 .split
  .split
   .rename_i b _;cases b<;>simp only[b4,cU,h]
   .rfl
  .rfl
 .exact h st
def Fa(cG:mY aq){aj:Type}(rid:Nat)(ops:List Oper)(ek:Option (List (List Nat)))(k:bC->Option aj):∀(l:List Oper)(i:Nat)(st:bC),gI P aq rid ops ek k i l st=(gI P aq rid ops ek some i l st).bind k
 |[],i,st=>rfl
 |o::rest,i,st=>by
  have ih:=Fa cG rid ops ek k rest (i+1);have run:∀rows,b7 P aq (rid*64+i) o st.tm rows (λe=>if gX (rid*64+i) e st.used then(apply (rid*64+i) o.dst e st).force λeU=>oT ops i o.dst eU (gI P aq rid ops ek k (i+1) rest)else none)=
    (b7 P aq (rid*64+i) o st.tm rows (λe=>if gX (rid*64+i) e st.used then(apply (rid*64+i) o.dst e st).force λeU=>oT ops i o.dst eU (gI P aq rid ops ek some (i+1) rest)else none)).bind k:=λrows=>by
   rw[OF cG,OF cG (y:=λe=>if gX (rid*64+i) e st.used then(apply (rid*64+i) o.dst e st).force λeU=>oT ops i o.dst eU (gI P aq rid ops ek some (i+1) rest)else none)];cases b7 P aq (rid*64+i) o st.tm rows some with
   |none=>rfl
   |some e=>
    simp only[j0,bC.force_eq];split
    .exact ai6 ops i o.dst _ _ _ k ih
    .rfl
  have fin:∀rows,(match o.guard with
    |none=>b7 P aq (rid*64+i) o st.tm rows λe=>if gX (rid*64+i) e st.used then(apply (rid*64+i) o.dst e st).force λeU=>oT ops i o.dst eU (gI P aq rid ops ek k (i+1) rest)else none
    |some (j,want)=>
     match k6 ops st.tm j with
     |.bool b=>bif b==want then
       b7 P aq (rid*64+i) o st.tm rows λe=>if gX (rid*64+i) e st.used then(apply (rid*64+i) o.dst e st).force λeU=>oT ops i o.dst eU (gI P aq rid ops ek k (i+1) rest)else none
      else gI P aq rid ops ek k (i+1) rest ⟨hl st.tm o.dst .undef,st.rows,st.used⟩
     |.undef=>gI P aq rid ops ek k (i+1) rest ⟨hl st.tm o.dst .undef,st.rows,st.used⟩
     |_=>none)=Option.bind (match o.guard with
    |none=>b7 P aq (rid*64+i) o st.tm rows λe=>if gX (rid*64+i) e st.used then(apply (rid*64+i) o.dst e st).force λeU=>oT ops i o.dst eU (gI P aq rid ops ek some (i+1) rest)else none
    |some (j,want)=>
     match k6 ops st.tm j with
     |.bool b=>bif b==want then
       b7 P aq (rid*64+i) o st.tm rows λe=>if gX (rid*64+i) e st.used then(apply (rid*64+i) o.dst e st).force λeU=>oT ops i o.dst eU (gI P aq rid ops ek some (i+1) rest)else none
      else gI P aq rid ops ek some (i+1) rest ⟨hl st.tm o.dst .undef,st.rows,st.used⟩
     |.undef=>gI P aq rid ops ek some (i+1) rest ⟨hl st.tm o.dst .undef,st.rows,st.used⟩
     |_=>none) k:=λrows=>by
   cases o.guard with
   |none=>exact run _
   |some p=>
    obtain⟨j,want⟩:=p;simp only;cases k6 ops st.tm j<;>try rfl
    .exact ih _
    .rename_i b;simp only;generalize(b==want)=c;cases c
     .exact ih _
     .exact run _
  exact fin _
def WM{f:(aj:Type)->bC->(Ex->bC->Option aj)->Option aj}(aR:∀(aj:Type)(st:bC)(k:Ex->bC->Option aj),f aj st k=(f (Ex×bC) st λe bB=>some (e,bB)).bind λp=>k p.1 p.2):
  ∀(n:Nat)(aj:Type)(st:bC)(k:Ex->bC->Option aj),BJ f n aj st k=(BJ f n (Ex×bC) st λe bB=>some (e,bB)).bind λp=>k p.1 p.2
 |0,_,_,_=>rfl
 |n+1,aj,st,k=>by
  unfold BJ;refine aT (aR aj st _) (Eq.symm (aT (dh (λo=>Option.bind o _) (aR (Ex×bC) st _)) ?_));cases f (Ex×bC) st λe bB=>some (e,bB)with
  |none=>rfl
  |some p=>
   obtain⟨e,bB⟩:=p;cases e with
   |normal=>exact(WM aR n aj bB k).symm
   |exit id=>rfl
   |ret=>rfl
def O0(cG:mY aq)(uO:aq.fork=false):∀(c:Code),ch P aq K c->∀(aj:Type)(st:bC)(k:Ex->bC->Option aj),er P aq K c aj st k=(er P aq K c (Ex×bC) st λe bB=>some (e,bB)).bind λp=>k p.1 p.2:=by
 intro c;induction c with
 |skip=>intro _ aj st k;rfl
 |label l=>intro _ aj st k;rfl
 |region id ops draw=>
  intro _ aj st k;simp only[er];split
  .split
   .split
    .rw[Fa cG,Fa cG (k:=λbB=>some (Ex.normal,bB))];cases gI P aq id ops.toList (some (ancTab ops.toList)) some 0 ops.toList st<;>rfl
    .rfl
   .rw[Fa cG,Fa cG (k:=λbB=>some (Ex.normal,bB))];cases gI P aq id ops.toList none some 0 ops.toList st<;>rfl
  .rfl
 |seq x z rm sh=>
  intro bg aj st k;simp only[er];refine aT (rm bg.ES aj st _) (Eq.symm (aT (dh (λo=>Option.bind o _) (rm bg.ES (Ex×bC) st _)) ?_));cases er P aq K x (Ex×bC) st λe bB=>some (e,bB)with
  |none=>rfl
  |some p=>
   obtain⟨e,bB⟩:=p;cases e with
   |normal=>exact(sh bg.IC aj bB k).symm
   |exit i=>rfl
   |ret=>rfl
 |cond c x z rm sh=>
  intro bg aj st k;simp only[er];split
  .rename_i t _;cases t
   .exact sh bg.B7 aj st k
   .exact rm bg.B6 aj st k
  .rw[uO];rfl
  .rfl
 |block id b ih=>
  intro bg aj st k;simp only[er];refine aT (ih bg.block aj st _) (Eq.symm (aT (dh (λo=>Option.bind o _) (ih bg.block (Ex×bC) st _)) ?_));cases er P aq K b (Ex×bC) st λe bB=>some (e,bB)with
  |none=>rfl
  |some p=>
   obtain⟨e,bB⟩:=p;cases e with
   |normal=>rfl
   |ret=>rfl
   |exit i=>simp only[j0];split<;>rfl
 |loop b ih=>
  intro bg aj st k;simp only[er];split
  .rename_i l ay;split
   .rw[bC.force_eq,bC.force_eq];have aJ:=(bg b (by simp[c7]) l ay).2;rw[aJ,aJ (k:=λe vs rs=>some (e,expand l.N vs rs))];generalize l.L _ _ _ _=x;cases x<;>rfl
   .rfl
  .exact WM (λaj st k=>ih bg.loop aj st k) aq.vy aj st k
 |exit id=>intro _ aj st k;rfl
 |ret=>intro _ aj st k;rfl
 |rangeFunc g bj assign body _ _=>
  intro bg aj st k;simp only[er];split
  .rename_i key site VI;split
   .rename_i iB gF aB;split
    .rename_i F hF;split
     .rw[IJ (cG.2.1 _ F hF),IJ (cG.2.1 _ F hF) (y:=λe=>if gX site e (site::st.used)then(apply site none e ⟨st.tm,setRow st.rows site (vB key st),site::st.used⟩).force λhG=>D6 site hG (λe bB=>some (e,bB))else none)];cases nw site F (.own site::gF) (setRow st.rows site (vB key st)) some with
      |none=>rfl
      |some e=>
       simp only[j0];split
       .rw[bC.force_eq,bC.force_eq];unfold D6;split<;>rfl
       .rfl
     .rfl
    .rfl
   .rfl
  .rfl
 |scope b _=>intro _ aj st k;rfl
 |goto l=>intro _ aj st k;rfl
 |refuse VJ=>intro _ aj st k;rfl
def after(l:Loop)(v8:List AV->List (Option Row)->Nat)(m:Nat)(k:Ex->List AV->List (Option Row)->Option aj)(e:Ex)(st:bC):Option aj:=
 if Nat.beq st.tm.length l.N.len then(norm l.N st).force λeU=>(match e with
  |.normal=>bif decide (v8 (tf l.N eU) (ux l.N eU)<m)then l.L aj (tf l.N eU) (ux l.N eU) k else none
  |e=>k e (tf l.N eU) (ux l.N eU))else none
def WN(cG:mY aq)(uO:aq.fork=false){b:Code}{l:Loop}(bg:ch P aq K b)(v8:List AV->List (Option Row)->Nat)
  (Ei:∀(aj:Type)(vs:List AV)(rs:List (Option Row))(k:Ex->List AV->List (Option Row)->Option aj)(r:aj),l.L aj vs rs k=some r->er P aq K b aj (expand l.N vs rs) (after l v8 (v8 vs rs) k)=some r)
  (I4:∀(aj:Type)(vs:List AV)(rs:List (Option Row))(k:Ex->List AV->List (Option Row)->Option aj),l.L aj vs rs k=(l.L (Ex×List AV×List (Option Row)) vs rs λe v x=>some (e,v,x)).bind λq=>k q.1 q.2.1 q.2.2):dj P aq K b l:=by
 refine⟨?_,I4⟩
 intro aj vs rs k r h
 generalize hm:v8 vs rs=m
 induction m using Nat.strongRecOn generalizing vs rs with
 |ind m ih=>
  subst hm
  have af:=Ei aj vs rs k r h
  rw[O0 cG uO b bg]at af
  cases ag:er P aq K b (Ex×bC) (expand l.N vs rs) λe bB=>some (e,bB)with
  |none=>rw[ag]at af;cases af
  |some q=>
   rw[ag,j0]at af
   obtain⟨e,bB⟩:=q
   unfold after at af
   split at af
   .rename_i hlen;rw[bC.force_eq]at af;have fin:∀(e':Ex),e'≠ .normal->e=e'->k e' (tf l.N (norm l.N bB)) (ux l.N (norm l.N bB))=some r->∃m p,iter l.N (λst=>er P aq K b (Ex×bC) st λe bB=>some (e,bB)) m vs rs=some p/\k p.1 p.2.1 p.2.2=some r:=by
      intro e' bO he ai;subst he;refine⟨1,(e,tf l.N (norm l.N bB),ux l.N (norm l.N bB)),?_,ai⟩;cases e with
      |normal=>exact absurd rfl bO
      |exit i=>simp only[iter,ag,hlen,kn]
      |ret=>simp only[iter,ag,hlen,kn]
    cases e with
    |normal=>obtain⟨aL,ao⟩:=e7 af;have DV:=bH aL;obtain⟨m,p,i1,i2⟩:=ih _ DV _ _ ao rfl;exact⟨m+1,p,by simp only[iter,ag,hlen,kn];exact i1,i2⟩
    |exit i=>exact fin _ bb rfl af
    |ret=>exact fin _ bb rfl af
   .cases af
def WO(fn:Func)(st:bC)(k:AV->Option aj):finish P fn st k=(finish P fn st some).bind k:=by
 rw[MO,MO];unfold HH
 repeat' split
 all_goals rfl
def ai7(cG:mY aq)(uO:aq.fork=false)(bg:∀c,fn.body=some c->ch P aq K c):b5 (jc P aq K fn):=by
 intro aj aA k;unfold jc;split
 .rfl
 .rename_i c aa;rw[bC.force_eq,bC.force_eq];refine aT (O0 cG uO c (bg c aa) aj _ _) (Eq.symm (aT (dh (λo=>Option.bind o _) (O0 cG uO c (bg c aa) AV _ _)) ?_));cases er P aq K c (Ex×bC) (bC.mk (aA++List.replicate (fn.ntmps-aA.length) .undef) [] []) λe bB=>some (e,bB)with
  |none=>rfl
  |some p=>
   obtain⟨e,bB⟩:=p;cases e with
   |normal=>exact(WO fn bB k).symm
   |ret=>exact(WO fn bB k).symm
   |exit i=>rfl
def ai8(bR:aM P aq)(dS:uG P aq){f:FuncId}(dW:P.funcs[f]?=some fn)(bg:∀c,fn.body=some c->ch P aq K c)(jF:aq.j4=[]:=by rfl):SumOK P f (jc P aq K fn):=E1 bR dS dW (λ_ _ _ _ h=>⟨K,bg,h⟩) jF
theorem aM.cons{f:Nat}{F:Summ}(bR:aM P aq)(hF:SumOK P f F)(aJ:b5 F):aM P {aq with pure:=(f,F)::aq.pure}:=by
 refine⟨λg G h=>?_,λg G h=>?_,bR.opens,bR.nat,bR.iq⟩
 .simp only[find,lH]at h;split at h
  .rename_i e;cases h;subst e;exact hF
  .exact bR.pure g G h
 .simp only[find,lH]at h;split at h
  .cases h;exact aJ
  .exact bR.xI g G h
def aM.ai9{f:Nat}{F:jD}(bR:aM P aq)(hF:fH P f F)(aJ:hA F):aM P {aq with opens:=(f,F)::aq.opens}:=by
 refine⟨bR.pure,bR.xI,λg G h=>?_,λg G h=>?_,bR.iq⟩
 .simp only[q4,lH]at h;split at h
  .rename_i e;cases h;subst e;exact hF
  .exact bR.opens g G h
 .simp only[q4,lH]at h;split at h
  .cases h;exact aJ
  .exact bR.nat g G h
def aM.empty:aM P {pure:=[]}:=⟨λ_ _ h=>cM,λ_ _ h=>cM,λ_ _ h=>cM,λ_ _ h=>cM,λ_ _ _ h=>cM⟩
def aM.flags{t aja tB ay:Bool}{e mk ajb:List Nat}{rg:List (Nat×Int×Nat)}{ajc:Nat}(bR:aM P aq):aM P {aq with D1:=t,ext:=e,fork:=aja,conv:=tB,hole:=ay,j4:=rg,vy:=ajc,D2:=mk,cut:=ajb}:=⟨bR.pure,bR.xI,bR.opens,bR.nat,bR.iq⟩
def aM.ajd{key:Int}{np:Nat}{F:jD}(bR:aM P aq)(aJ:np=(ra key).1.size)(h:Eh P key F/\hA F):aM P {aq with iq:=some (key,np,F)}:=⟨bR.pure,bR.xI,bR.opens,bR.nat,λr4 avW xS e=>by cases e;exact⟨aJ,h.1,h.2⟩⟩
theorem ch.nil{c:Code}(h:c7 c=[]):ch P aq K c:=λb ag=>by rw[h]at ag;cases ag
theorem ch.one{c b:Code}{l:Loop}(h:c7 c=[b])(aR:lH K (mP b)=some l)(ay:dj P aq K b l):ch P aq K c:=λkE cp gW kr=>by rw[h]at cp;simp at cp;subst cp;rw[aR]at kr;cases kr;exact ay
def ch.all{c:Code}{bs:List Code}(h:c7 c=bs)(ay:∀b∈bs,∃l,lH K (mP b)=some l/\dj P aq K b l):ch P aq K c:=λb ag l aR=>by rw[h]at ag;obtain⟨gW,af,ao⟩:=ay b ag;rw[af]at aR;cases aR;exact ao
end nat
theorem WQ{P:Program}{f:FuncId}(dW:P.funcs[f]?=some fn)(ag:fn.body.isNone=true):hasBody P f=false:=by unfold hasBody;rw[dW];cases h:fn.body<;>simp_all
end Go.Ev
