/-
  A slice of the call's own is cut off in place: append within its array, what lies behind it cleared.
-/
import Derived.Test.YtijdnecnjenleaaGreatDoorEvMB
import Derived.RangeFuncRecord
import Derived.Laws.Cover4
set_option linter.all false
namespace Go.Ev
open Go.RowKit
variable{es:List AV}{t bE:TypeId}{u:Value}{xs:List MapEntry}{w:World}{S:Nat->Prop}{β:cD}{im:Bool}{args:Array Operand}{ae:Array TypeId}{g:Nat}{ey:TypeId}{k:AV}{ja s:Sh}{x:Operand}{e:TypeId}{v:AV}{bD:cD}{ids:List Nat}{F:jD}{dm:Option (List AV)}{m:Nat->Option Nat}{S':Nat->Prop}{aC:Array Field}{d:TypeDesc}{f':List AV}{lo hi:Option Operand}
theorem HJ(m:Nat->Option Nat):∀(cs:List AV)(j:Nat)(c:AV),(AV.nt m cs)[j]?=some c->∃c',cs[j]?=some c'/\c=c'.iN m:=by
 intro cs;induction cs with
 |nil=>grind[AV.nt]
 |cons x cs ih=>grind[AV.nt]
theorem SO(m:Nat->Option Nat):∀cs:List AV,(AV.nt m cs).length=cs.length:=by
 intro cs;induction cs with
 |nil=>rfl
 |cons x cs ih=>simp[AV.nt,ih]
theorem Ug(h:VRel w S β v u):∀{bD:cD},(∀id x j,β id=some x->m id=some j->bD j=some x)->VRel w S bD (v.iN m) u:=by
 induction h with
 |J β v=>intro bD _;exact .J _ v
 |undef=>intro bD _;exact .undef _
 |int β k n=>intro bD _;exact .int _ k n
 |bool β b=>intro bD _;exact .bool _ b
 |jC β b=>intro bD _;exact .jC _ b
 |nl β v h=>intro bD _;exact .nl _ v h
 |str β s=>intro bD _;exact .str _ s
 |agg β cs vs ay af _ ih=>intro bD hm;refine .agg _ _ vs G6 af λj c u aa hu=>?_;grind[HJ]
 |tup β cs vs ay _ ih=>intro bD hm;refine .tup _ _ vs G6 λj c u aa hu=>?_;grind[HJ]
 |ab β s es A c a xs an aa hm bq ay af ak hh _=>intro bD _;exact .ab _ s es A c a xs an aa hm bq ay af ak hh
 |bf β s A=>intro bD _;exact .bf _ s A
 |hP β s es i off a xs hi an iC ay af ak hh _=>intro bD _;exact .hP _ s es i off a xs hi an iC ay af ak hh
 |ref β cs a xs iC ay af ak hh _=>intro bD _;exact .ref _ cs a xs iC ay af ak hh
 |lE β t cs v hh _=>intro bD _;exact .lE _ t cs v hh
 |lF=>intro bD _;exact .lF _
 |ct β es vs ay hh _=>intro bD _;exact .ct _ es vs ay hh
 |ptr β id off g wd bP=>
  intro bD hm;simp only[AV.iN];split
  .rename_i j aP;exact .ptr _ j off g wd (hm _ _ _ bP aP)
  .exact .J _ _
 |eptr β id i off g n c wd o bP=>
  intro bD hm;simp only[AV.iN];split
  .rename_i j aP;exact .eptr _ j i off g n c wd o (hm _ _ _ bP aP)
  .exact .J _ _
 |own β id v wd bP=>
  intro bD hm;simp only[AV.iN];split
  .rename_i j aP;exact .own _ j v wd (hm _ _ _ bP aP)
  .exact .J _ _
 |sub β id lo len A n c wd bP=>
  intro bD hm;simp only[AV.iN];split
  .rename_i j aP;exact .sub _ j lo len A n c wd (hm _ _ _ bP aP)
  .exact .J _ _
 |fn β f cs vs ay _ ih=>intro bD hm;refine .fn _ f _ vs G6 λj c u aa hu=>?_;grind[HJ]
def HK(hm:∀id x j,β id=some x->m id=some j->bD j=some x){cs:List AV}{vs:List Value}(h:VRels w S β cs vs):VRels w S bD (AV.nt m cs) vs:=by refine⟨by rw[SO];exact h.1,λj c u aa hu=>?_⟩;obtain⟨c',iD,rfl⟩:=HJ m cs j c aa;exact Ug (h.2 j c' u iD hu) hm
theorem eb.iN{B j5:Nat->Prop}{id eg:Nat}{o:Option Nat}{r:Row}(h:eb w S B β id o r)(hm:∀id x j,β id=some x->m id=some j->bD j=some x)(hid:∀x,β id=some x->bD eg=some x)(dy:∀g,o=some g->¬B g->¬j5 g):
  eb w S j5 bD eg o (r.iN m):=by
 cases r with
 |box bW cs=>
  obtain⟨g,vs,t,aw,ag,hh,ar,hi,aP,fj⟩:=h
  exact⟨g,vs,t,aw,hid _ ag,hh,HK hm ar,hi,aP,dy g aw fj⟩
 |arr bW s e es dm=>
  obtain⟨au,v,sp,xs,dd,gh,ag,af,ar,e2⟩:=h
  refine⟨au,v,sp,xs,dd,gh,hid _ ag,af,ar,?_⟩
  grind
 |cj bW s e pre cs post=>
  obtain⟨au,di,g,bj,sp,xs,us,cm,af,ao,aw,ag,a1,iE,hR,jr,fj,rest⟩:=h
  exact⟨au,G6,g,bj,sp,xs,us,cm,af,ao,aw,hid _ ag,a1,iE,HK hm hR,jr,dy g aw fj,rest⟩
def eb.forget{B:Nat->Prop}{id:Nat}{o:Option Nat}{r:Row}(h:eb w S B β id o r):eb w S B β id o r.forget:=by
 cases r with
 |box bW cs=>exact h
 |arr bW s e es dm=>obtain⟨au,v,sp,xs,dd,gh,rest⟩:=h;exact⟨au,v,sp,xs,dd,(λc h=>cM),rest⟩
 |cj bW s e pre cs post=>exact h
theorem eb.place{B:Nat->Prop}{id:Nat}{o:Option Nat}{r:Row}(h:eb w S B β id o r):(∃x,β id=some x)/\∀g,o=some g->¬B g:=by
 cases r with
 |box bW cs=>obtain⟨g,vs,t,aw,ag,hh,ar,hi,aP,fj⟩:=h;grind
 |arr bW s e es dm=>obtain⟨au,v,sp,xs,dd,gh,ag,af,ar,e2⟩:=h;grind
 |cj bW s e pre cs post=>obtain⟨au,di,g,bj,sp,xs,us,cm,af,ao,aw,ag,a1,iE,hR,jr,fj,rest⟩:=h;grind
def Row.bW:Row->Bool
 |.box i _=>i
 |.arr i _ _ _ _=>i
 |.cj i _ _ _ _ _=>i
def eb.free{B:Nat->Prop}{id:Nat}{o:Option Nat}{r:Row}(h:eb w S B β id o r)(hi:r.bW=false):∀g,o=some g->¬S g:=by
 cases r with
 |box bW cs=>obtain⟨g,vs,t,aw,ag,hh,ar,eC,aP,fj⟩:=h;intro fm dK;rw[aw]at dK;cases dK;exact eC hi
 |arr bW s e es dm=>
  obtain⟨au,v,sp,xs,dd,gh,ag,af,ar,e2⟩:=h;intro fm dK;rcases e2 with⟨_,_,aw,_⟩|⟨g,bj,aw,fo,fj,_,_,eC,_⟩
  .rw[aw]at dK;cases dK
  .rw[aw]at dK;cases dK;exact eC hi
 |cj bW s e pre cs post=>obtain⟨au,di,g,bj,sp,xs,us,cm,af,ao,aw,ag,a1,iE,hR,jr,fj,hh,hm,eC,_⟩:=h;intro fm dK;rw[aw]at dK;cases dK;exact eC hi
section opn
variable{w:World}{S B:Nat->Prop}{β:cD}{og:Nat->Option Nat}{rows:List (Nat×Row)}
def BK{f:AV->Option (AV×List Nat)}(aR:∀v da ids u,f v=some (da,ids)->VRel w S β v u->VRel w (cr S og ids) β da u):
  ∀(cs:List AV)(ea:List AV)(ids:List Nat){vs:List Value},dp f cs=some (ea,ids)->VRels w S β cs vs->VRels w (cr S og ids) β ea vs
 |[],ea,ids,vs,h,ar=>by simp[dp]at h;obtain⟨rfl,rfl⟩:=h;rw[ar.gf];exact VRels.nil
 |c::cs,ea,ids,vs,h,ar=>by
  simp only[dp]at h;cases aa:f c with
  |none=>simp[aa]at h
  |some q=>
   cases aH:dp f cs with
   |none=>simp[aa,aH]at h
   |some mo=>simp[aa,aH]at h;obtain⟨rfl,rfl⟩:=h;obtain⟨u,us,rfl,hu,e6⟩:=ar.inv;exact VRels.cons ((aR c q.1 q.2 u aa hu).hk λb=>cr.sub (λi hi=>by simp[hi])) ((BK aR cs mo.1 mo.2 aH e6).hk λb=>cr.sub (λi hi=>by simp[hi]))
theorem HL(eN:∀id r,lookup rows id=some r->eb w S B β id (og id) r):∀(n:Nat)(v da:AV)(ids:List Nat)(u:Value),ij rows n v=some (da,ids)->VRel w S β v u->VRel w (cr S og ids) β da u:=by
 intro n;induction n with
 |zero=>grind[ij]
 |succ n ih=>
  intro v da ids u h ar;have eD:=BK (w:=w) (S:=S) (β:=β) (og:=og) (f:=ij rows n) ih;have pure:∀x,cB rows depth x=some (da,ids)->VRel w S β x u->VRel w (cr S og ids) β da u:=λx ak ar=>(oU (w:=w) (S:=S) (B:=B) (β:=β) (og:=og) (rows:=rows) eN depth _ _ _ _ ak ar).mono (λ_ h=>h) (λ_ _=>rfl) (λ_ _ h=>cM);cases v<;>simp only[ij]at h
  case ptr i off=>
   split at h
   .exact y8
   .exact pure _ h ar
   .cases h
  case eptr i j off=>
   split at h
   .exact y8
   .exact pure _ h ar
   .exact y8
   .cases h
  case own i=>
   split at h
   .exact y8
   .exact pure _ h ar
   .exact y8
   .exact pure _ h ar
   .exact y8
   .cases h
  case sub i lo m=>
   split at h
   .exact y8
   .exact pure _ h ar
   .cases h
  case agg cs=>
   cases au:dp (ij rows n) cs with
   |none=>simp[au]at h
   |some q=>
    simp[au]at h;obtain⟨rfl,rfl⟩:=h;cases ar with
    |agg _ _ vs ay af hh=>have:=eD cs q.1 q.2 au ⟨ay,hh⟩;exact .agg _ _ _ this.1 af this.2
  case tup cs=>
   cases au:dp (ij rows n) cs with
   |none=>simp[au]at h
   |some q=>
    simp[au]at h;obtain⟨rfl,rfl⟩:=h;cases ar with
    |tup _ _ vs ay hh=>have:=eD cs q.1 q.2 au ⟨ay,hh⟩;exact .tup _ _ _ this.1 this.2
  case fn f cs=>
   cases au:dp (ij rows n) cs with
   |none=>simp[au]at h
   |some q=>
    simp[au]at h;obtain⟨rfl,rfl⟩:=h;cases ar with
    |fn _ _ _ vs ay hh=>have:=eD cs q.1 q.2 au ⟨ay,hh⟩;exact .fn _ _ _ _ this.1 this.2
  all_goals(cases h;exact ar.hk λ_=>cr.left)
theorem MB:∀(n:Nat)(v:AV)(p:AV×List Nat),ij rows n v=some p->∀id∈p.2,∃r,lookup rows id=some r:=by
 intro n;induction n with
 |zero=>grind[ij]
 |succ n ih=>
  intro v p h id hid;have eD:=qa (rows:=rows) (f:=ij rows n) ih;have pure:∀x,cB rows depth x=some p->∃r,lookup rows id=some r:=λx ak=>qU _ _ _ ak id hid;cases v<;>simp only[ij]at h
  case ptr i off=>grind
  case eptr i j off=>grind
  case own i=>grind
  case sub i lo m=>grind
  case agg cs=>
   cases au:dp (ij rows n) cs with
   |none=>simp[au]at h
   |some q=>grind
  case tup cs=>
   cases au:dp (ij rows n) cs with
   |none=>simp[au]at h
   |some q=>grind
  case fn f cs=>
   cases au:dp (ij rows n) cs with
   |none=>simp[au]at h
   |some q=>grind
  all_goals(cases h;simp at hid)
theorem BL:∀(ids:List Nat)(q:List Row×List Nat),q2 rows ids=some q->∀id∈q.2,∃r,lookup rows id=some r
 |[],q,h,id,hid=>by grind[q2]
 |i::is,q,h,id,hid=>by
  simp only[q2]at h;split at h
  .cases h
  .rename_i mo aH;split at h
   .rename_i cs ay;split at h
    .rename_i p au;cases h;simp only[gD]at hid;rcases hid with hid|hid
     .exact Hw
     .exact BL is mo aH id hid
    .cases h
   .cases h;exact BL is mo aH id hid
   .split at h
    .rename_i p au;cases h;simp only[gD]at hid;rcases hid with hid|hid
     .exact Hw
     .exact BL is mo aH id hid
    .cases h
   .cases h
theorem Uh(eN:∀id r,lookup rows id=some r->eb w S B β id (og id) r)(inj:∀id eg g,og id=some g->og eg=some g->id=eg):∀(ids:List Nat)(rs:List Row)(fz oV:List Nat),q2 rows ids=some (rs,fz)->(∀i∈fz,i∈oV)->(∀i∈oV,i∉ids)->
  rs.length=ids.length/\∀(j i:Nat),ids[j]?=some i->∃r bo,rs[j]?=some r/\lookup rows i=some bo/\bo.bW=false/\eb w (cr S og oV) B β i (og i) r/\r.bW=false
 |[],rs,fz,oV,h,_,_=>by grind[q2]
 |i::is,rs,fz,oV,h,gV,aX=>by
  have key:∀(r:Row),lookup rows i=some r->r.bW=false->eb w (cr S og oV) B β i (og i) r:=λr aD lL=>
   (eN i r aD).gJ (λ_ _ h=>h) (λ_=>cr.left) (λg aB an=>by
    rcases an with an|⟨fG,eC,dK⟩
    .exact an
    grind) (λ_ _=>rfl) (λ_ _=>rfl)
  simp only[q2]at h;split at h
  .cases h
  .rename_i mo aH;obtain⟨kG,zh⟩:=mo;have step:∀(r bo:Row),lookup rows i=some bo->bo.bW=false->eb w (cr S og oV) B β i (og i) r->r.bW=false->rs=r::kG->(∀x∈zh,x∈oV)->rs.length=(i::is).length/\∀(j fG:Nat),(i::is)[j]?=some fG->∃r bo,rs[j]?=some r/\lookup rows fG=some bo/\bo.bW=false/\eb w (cr S og oV) B β fG (og fG) r/\r.bW=false:=by intro r bo ay a7 aD hi he MQ;subst he;obtain⟨i1,i2⟩:=Uh eN inj is kG zh oV aH MQ (λx ak dt=>aX x ak (by simp[dt]));refine⟨by simp[i1],λj fG aP=>?_⟩;grind
   split at h
   .rename_i cs ay;split at h
    .rename_i p au;cases h;refine step _ _ ay rfl ?_ rfl rfl (λx ak=>gV x lv);obtain⟨g,vs,t,aw,ag,hh,ar,hi,aP,fj⟩:=eN i _ ay;obtain⟨_,_,_,hb,_,_,_,eC,_,_⟩:=key _ ay rfl;rw[aw]at hb;cases hb;obtain⟨cF,d'⟩:=p;exact⟨g,vs,t,aw,ag,hh,(BK (HL eN depth) cs cF d' au ar).hk λb=>cr.sub (λx ak=>gV x lv),eC,(λh=>cM),fj⟩
    .cases h
   .rename_i s e es sp ay;cases h;exact step _ _ ay rfl (key _ ay rfl) rfl rfl gV
   .rename_i s e pre cs post ay;split at h
    .rename_i p au;cases h;refine step _ _ ay rfl ?_ rfl rfl (λx ak=>gV x lv);obtain⟨q1,cO,g,bj,sp,xs,us,cm,af,ao,aw,ag,a1,iE,hR,jr,fj,hh,hm,hi,aP⟩:=eN i _ ay;obtain⟨_,_,_,_,_,_,_,_,_,_,hb,_,_,_,_,_,_,_,_,eC,_⟩:=key _ ay rfl;rw[aw]at hb;cases hb;have hlen:=MR cs p au;obtain⟨cF,d'⟩:=p;exact⟨q1,hlen.trans cO,g,bj,sp,xs,us,cm,af,ao,aw,ag,a1,iE.hk λb=>cr.left,(BK (HL eN depth) cs cF d' au hR).hk λb=>cr.sub (λx ak=>gV x lv),jr.hk λb=>cr.left,fj,hh,hm,eC,(λh=>cM)⟩
    .cases h
   .cases h
end opn
theorem BM:∀(l:List Nat)(i j:Nat),idx l i=some j->l[j]?=some i
 |[],i,j,h=>by simp[idx]at h
 |x::l,i,j,h=>by
  simp only[idx]at h;split at h
  .grind
  .cases hi:idx l i with
   |none=>simp[hi]at h
   |some k=>simp[hi]at h;subst h;simpa using BM l i k hi
theorem MS:∀(l:List Nat),nodupB l=true->∀(j et i:Nat),l[j]?=some i->l[et]?=some i->j=et
 |[],_,j,et,i,h,_=>k1
 |x::l,h,j,et,i,aP,qh=>by
  simp only[nodupB,ba,jZ]at h;have ak:x∉l:=by simpa using h.1
  cases j<;>cases et<;>simp at aP qh
  .rfl
  .grind
  .grind
  .rw[MS l h.2 _ _ i aP qh]
theorem Hv:∀(rs:List Row)(b id:Nat)(r:Row),lookup (ik b rs) id=some r->b<=id/\rs[id-b]?=some r
 |[],b,id,r,h=>by grind[ik,lookup]
 |x::rs,b,id,r,h=>by
  simp only[ik,lookup]at h;split at h
  .grind
  .obtain⟨af,ao⟩:=Hv rs (b+1) id r h;grind
theorem MT:∀(l:List (Nat×Row))(rows:List (Nat×Row))(id:Nat)(r:Row),lookup (l.foldl (λrs p=>setRow rs p.1 p.2) rows) id=some r->(id,r)∈l\/((∀p∈l,p.1≠id)/\lookup rows id=some r)
 |[],rows,id,r,h=>.inr ⟨bb,h⟩
 |(i,x)::l,rows,id,r,h=>by
  simp only[jw]at h;rcases MT l _ id r h with h|⟨af,ao⟩
  .exact .inl (by simp[h])
  grind[px]
theorem Ui:∀(l:List Nat)(rows:List (Nat×Row))(id:Nat)(r:Row),lookup (l.foldl mn rows) id=some r->id∉l/\lookup rows id=some r
 |[],rows,id,r,h=>⟨bb,h⟩
 |i::l,rows,id,r,h=>by simp only[jw]at h;obtain⟨af,ao⟩:=Ui l _ id r h;simp_all[y7]
theorem Uj:∀(ids:List Nat)(rs:List (Option Row))(j i:Nat),ids[j]?=some i->rs[j]?=some none->i∈xg ids rs
 |[],_,j,i,h,_=>k1
 |_::_,[],j,i,_,h=>k1
 |x::ids,y::rs,j,i,h,h'=>by
  cases j with
  |zero=>grind[xg]
  |succ j=>have:=Uj ids rs j i qT (by simpa using h');cases y<;>simp[xg,this]
theorem Uk(m:Nat->Option Nat):∀(ids:List Nat)(rs:List (Option Row))(j i:Nat)(r:Row),ids[j]?=some i->rs[j]?=some (some r)->(i,r.iN m)∈qf m ids rs
 |[],_,j,i,r,h,_=>k1
 |_::_,[],j,i,r,_,h=>k1
 |x::ids,y::rs,j,i,r,h,h'=>by
  cases j with
  |zero=>grind[qf]
  |succ j=>have:=Uk m ids rs j i r qT (by simpa using h');cases y<;>simp[qf,this]
def MU(m:Nat->Option Nat):∀(ids:List Nat)(rs:List (Option Row))(i:Nat)(r:Row),(i,r)∈qf m ids rs->∃(j:Nat)(bo:Row),ids[j]?=some i/\rs[j]?=some (some bo)/\r=bo.iN m
 |[],_,i,r,h=>by simp[qf]at h
 |_::_,[],i,r,h=>by simp[qf]at h
 |x::ids,y::rs,i,r,h=>by
  cases y with
  |none=>simp only[qf]at h;obtain⟨j,bo,af,ao,a1⟩:=MU m ids rs i r h;exact⟨j+1,bo,s5,vt,a1⟩
  |some z=>
   simp only[qf,gv,gU]at h;rcases h with⟨rfl,rfl⟩|h
   .exact⟨0,z,rfl,rfl,rfl⟩
   .obtain⟨j,bo,af,ao,a1⟩:=MU m ids rs i r h;exact⟨j+1,bo,s5,vt,a1⟩
def Ul(m:Nat->Option Nat)(site:Nat):∀(rs:List Row)(b i:Nat)(r:Row),(i,r)∈rZ m site b rs->∃(j:Nat)(bo:Row),i=mO site (b+j)/\rs[j]?=some bo/\r=bo.iN m
 |[],b,i,r,h=>by simp[rZ]at h
 |x::rs,b,i,r,h=>by
  simp only[rZ,gv,gU]at h;rcases h with⟨rfl,rfl⟩|h
  .exact⟨0,x,rfl,rfl,rfl⟩
  .obtain⟨j,bo,af,ao,a1⟩:=Ul m site rs (b+1) i r h;exact⟨j+1,bo,by rw[af];congr 1;omega,vt,a1⟩
theorem MV(m:Nat->Option Nat)(site:Nat):∀(rs:List Row)(b j:Nat),j<rs.length->mO site (b+j)∈(rZ m site b rs).map (·.1)
 |[],b,j,h=>k1
 |x::rs,b,j,h=>by
  cases j with
  |zero=>simp[rZ]
  |succ j=>have:=MV m site rs (b+1) j qT;grind[rZ]
structure Heap(w:World)(S B:Nat->Prop)(β:cD)(og:Nat->Option Nat)(rows:List (Nat×Row)):Prop where
 row:∀id r,lookup rows id=some r->eb w S B β id (og id) r
 inj:∀id eg g,og id=some g->og eg=some g->id=eg
 lt:∀id g,og id=some g->g<w.heap.size
 one:∀id x,β id=some x->x.1.oneCell'=true
 dF:∀b,S b->b<w.heap.size
 dZ:∀b,B b->b<w.heap.size
structure uz(w:World)(S B:Nat->Prop)(β:cD)(c1:List (Option Row))(cf:List Row)(v:AV)(u:Value)(w':World)(S':Nat->Prop)(bD:cD)(dO:Nat->Option Nat):Prop where
 kept:Kept B w w'
 sub:∀b,S b->S' b
 sin:∀b,S' b->S b\/¬B b
 val:VRel w' S' bD v u
 c1:∀(j:Nat)(r:Row),c1[j]?=some (some r)->eb w' S' B bD (aE+j) (dO (aE+j)) r
 cf:∀(j:Nat)(r:Row),cf[j]?=some r->eb w' S' B bD (bY+j) (dO (bY+j)) r
 inj:∀id eg g,dO id=some g->dO eg=some g->id=eg
 lt:∀id g,dO id=some g->g<w'.heap.size
 one:∀id x,bD id=some x->x.1.oneCell'=true
 dF:∀b,S' b->b<w'.heap.size
 kH:∀id x,id<bY->bD id=some x->β id=some x
def fH(P:Program)(f:FuncId)(F:jD):Prop:=
 ∀(aj:Type)(w:World)(S B:Nat->Prop)(β:cD)(og:Nat->Option Nat)(aA:List AV)(rows:List Row)(args:List Value)(k:AV->List (Option Row)->List Row->Option aj)(r:aj),Heap w S B β og (ik aE rows)->(∀b,S b->B b)/\Glb B w->(∀id x,β id=some x->aE<=id/\id<aE+rows.length)->VRels w S β aA args->F aj aA rows k=some r->
  Goes P f args.toArray w λe w'=>∃u v c1 cf S' bD dO,e=.returned u/\k v c1 cf=some r/\uz w S B β c1 cf v u w' S' bD dO
def hA(F:jD):Prop:=∀(aj:Type)(aA:List AV)(rows:List Row)(k:AV->List (Option Row)->List Row->Option aj),F aj aA rows k=(F (AV×List (Option Row)×List Row) aA rows λv p n=>some (v,p,n)).bind λx=>k x.1 x.2.1 x.2.2
def uA{α:Type}(f:Nat->Option α)(ids:List Nat)(id:Nat):Option α:=if aE<=id then(ids[id-aE]?).bind f else none
def D8{α:Type}(f:Nat->Option α){j i:Nat}(h:ids[j]?=some i):uA f ids (aE+j)=f i:=by unfold uA;rw[dE al,show aE+j-aE=j from al,h];rfl
def zi{α:Type}{f:Nat->Option α}{id:Nat}{x:α}(h:uA f ids id=some x):∃j i,id=aE+j/\ids[j]?=some i/\f i=some x:=by
 unfold uA at h;split at h
 .rename_i au;cases hi:ids[id-aE]?with
  |none=>simp[hi]at h
  |some i=>exact⟨id-aE,i,al,hi,by simpa[hi]using h⟩
 .cases h
section ops
variable{R:Option Nat}{aj:Type}{P:Program}{w0 w:World}{bh S:Nat->Prop}{B:Ctx}{β:cD}{og:Nat->Option Nat}{st:bC}{a:Act}{o:Oper}{site:Nat}{y:dx->Option aj}{r:aj}
 {K:Act->World->Prop}{Q:Exit->Act->World->Prop}
def nA(site n id:Nat):Option Nat:=if id=mO site ((id-site)/4294967296-1)then(if(id-site)/4294967296-1<n then some ((id-site)/4294967296-1)else none)else none
def MW{site n j:Nat}(h:j<n):nA site n (mO site j)=some j:=by
 have e:(mO site j-site)/4294967296-1=j:=by unfold mO;omega
 unfold nA;rw[e];simp[h]
def HM{site n id j:Nat}(h:nA site n id=some j):id=mO site j/\j<n:=by
 unfold nA at h;split at h
 .rename_i e;split at h
  .rename_i ay;cases h;exact⟨e,ay⟩
  .cases h
 .cases h
def afo(ah:Rel w S B β og st a)(aY:Out w0 bh B w S)(zj:∀(j et i:Nat),ids[j]?=some i->ids[et]?=some i->j=et)(zk:∀i∈ids,∃r,lookup st.rows i=some r/\r.bW=false)(k3:ids.length<=1000000)
  {c1:List (Option Row)}{cf:List Row}{w':World}{dO:Nat->Option Nat}(hlen:c1.length=ids.length)(dst:Option Tmp)
  (bq:uz w S (λb=>b<w.heap.size/\∀i∈ids,og i≠some b) (uA β ids) c1 cf v u w' S' bD dO)
  (j6:∀p∈rZ (back site ids cf.length) site 0 cf,p.1∉st.used/\p.1<aE){rows':List (Nat×Row)}
  (afp:∀id r,lookup rows' id=some r->(id,r)∈rZ (back site ids cf.length) site 0 cf\/(id,r)∈qf (back site ids cf.length) ids c1\/(id∉xg ids c1/\(∀p∈qf (back site ids cf.length) ids c1,p.1≠id)/\lookup st.rows id=some r)):
  ∃l3 mQ ko,Rel w' l3 B mQ ko ⟨hl st.tm dst (v.iN (back site ids cf.length)),rows',(rZ (back site ids cf.length) site 0 cf).map (·.1)++st.used⟩ (a.put dst u)/\Out w0 bh B w' l3/\∀id x,β id=some x->mQ id=some x:=by
 have mq:∀j,j<cf.length->mO site j∉st.used/\mO site j<aE:=λj aP=>by have:=MV (back site ids cf.length) site cf 0 j aP;rw[sX]at this;obtain⟨p,au,he⟩:=uj.1 this;rw[<-he];exact j6 p au
 have MX:∀id x,β id=some x->nA site cf.length id=none:=λid x ak=>by
  cases hi:nA site cf.length id with
  |none=>rfl
  |some j=>obtain⟨e,aP⟩:=HM hi;exact absurd (by rw[<-e];exact ah.used id x ak) (mq j aP).1
 have r6:∀b,B b->b<w.heap.size/\∀i∈ids,og i≠some b:=λb ag=>⟨ah.dZ b ag,λi hi aB=>by obtain⟨r,aD,_⟩:=zk i hi;exact(ah.row i r aD).place.2 b aB ag⟩
 have k7:∀b,S b->b<w.heap.size/\∀i∈ids,og i≠some b:=λb ag=>⟨ah.dF b ag,λi hi aB=>by obtain⟨r,aD,hm⟩:=zk i hi;exact(ah.row i r aD).free hm b aB ag⟩
 have hw:∀b,S b->w'.heap[b]?=w.heap[b]?:=λb ag=>bq.kept.block b (k7 b ag)
 have gK:∀id x,β id=some x->(match nA site cf.length id with|some j=>bD (bY+j)|none=>β id)=some x:=λid x ak=>by rw[MX id x ak];exact ak
 have hm:∀id x j,bD id=some x->back site ids cf.length id=some j->(match nA site cf.length j with|some j=>bD (bY+j)|none=>β j)=some x:=λid x j ak aP=>by
  unfold back at aP;split at aP
  .cases aP
  .split at aP
   .rename_i af ao;have aL:id<bY:=sV▸ao;obtain⟨et,i,aU,bc,bw⟩:=zi (bq.kH id x aL ak);have:id-aE=et:=al;rw[this,bc]at aP;cases aP;exact gK _ _ bw
   .rename_i af ao;split at aP
    .rename_i a1;cases aP;have MY:id-bY<cf.length:=sV▸a1;rw[MW MY];have Um:¬id<bY:=λh=>ao (by rw[sV];exact h);show bD (bY+(id-bY))=some x;rw[show bY+(id-bY)=id from al];exact ak
    .cases aP
 have afq:∀j,j<cf.length->(match nA site cf.length (mO site j)with|some j=>dO (bY+j)|none=>(match idx ids (mO site j)with|some j=>(match c1[j]?with|some (some _)=>dO (aE+j)|_=>none)|none=>og (mO site j)))=dO (bY+j):=λj aP=>by rw[MW aP]
 have Un:∀j i,ids[j]?=some i->idx ids i=some j:=λj i h=>by
  have aux:∀(l:List Nat)(j i:Nat),l[j]?=some i->∃et,idx l i=some et:=by
   intro l;induction l with
   |nil=>intro j i h;simp at h
   |cons x l ih=>
    intro j i h;by_cases e:i=x
    .exact⟨0,by simp[idx,e]⟩
    .cases j with
     |zero=>simp at h;exact absurd h.symm e
     |succ j=>obtain⟨et,qh⟩:=ih j i qT;exact⟨et+1,by simp[idx,e,qh]⟩
  obtain⟨et,qh⟩:=aux ids j i h;rw[qh,zj j et i h (BM ids i et qh)]
 have afr:∀j i,ids[j]?=some i->nA site cf.length i=none:=λj i h=>by obtain⟨r,aD,_⟩:=zk i (pk h);obtain⟨x,ak⟩:=(ah.row i r aD).place.1;exact MX i x ak
 have zl:∀j i r,ids[j]?=some i->c1[j]?=some (some r)->(match nA site cf.length i with|some j=>dO (bY+j)|none=>(match idx ids i with|some j=>(match c1[j]?with|some (some _)=>dO (aE+j)|_=>none)|none=>og i))=dO (aE+j):=λj i r h au=>by rw[afr j i h,Un j i h];simp only[au]
 have afs:∀id,nA site cf.length id=none->id∉ids->(match nA site cf.length id with|some j=>dO (bY+j)|none=>(match idx ids id with|some j=>(match c1[j]?with|some (some _)=>dO (aE+j)|_=>none)|none=>og id))=og id:=λid h aJ=>by
  rw[h];cases hi:idx ids id with
  |none=>rfl
  |some j=>exact absurd (pk (BM ids id j hi)) aJ
 have di:∀id g,(match nA site cf.length id with|some j=>dO (bY+j)|none=>(match idx ids id with|some j=>(match c1[j]?with|some (some _)=>dO (aE+j)|_=>none)|none=>og id))=some g->
   (∃j,j<cf.length/\id=mO site j/\dO (bY+j)=some g)\/(∃j r,ids[j]?=some id/\c1[j]?=some (some r)/\dO (aE+j)=some g)\/(id∉ids/\og id=some g):=λid g h=>by
  cases hi:nA site cf.length id with
  |some j=>
   rw[hi]at h
   obtain⟨e,aP⟩:=HM hi
   exact .inl ⟨j,aP,e,h⟩
  |none=>
   rw[hi]at h
   cases ak:idx ids id with
   |some j=>
    rw[ak]at h
    have aP:=BM ids id j ak
    simp only at h
    split at h
    .rename_i r au;exact .inr (.inl ⟨j,r,aP,au,h⟩)
    .cases h
   |none=>
    rw[ak]at h
    refine .inr (.inr ⟨λdt=>?_,h⟩)
    obtain⟨j,aP,he⟩:=vj dt
    have:=Un j id (by rw[fC aP,he])
    rw[ak]at this
    cases this
 have Uo:∀j,j<cf.length->∀g,dO (bY+j)=some g->¬(g<w.heap.size/\∀i∈ids,og i≠some g):=λj aP g aB=>(bq.cf j _ (fC aP)).place.2 g aB
 have Up:∀j r,c1[j]?=some (some r)->∀g,dO (aE+j)=some g->¬(g<w.heap.size/\∀i∈ids,og i≠some g):=λj r aP g aB=>(bq.c1 j r aP).place.2 g aB
 have BN:∀id g,id∉ids->og id=some g->(g<w.heap.size/\∀i∈ids,og i≠some g):=λid g aJ aB=>⟨ah.lt id g aB,λi hi dK=>aJ (ah.inj id i g aB dK▸hi)⟩
 have HN:aE+1000000<bY:=gn
 refine⟨S',λid=>match nA site cf.length id with|some j=>bD (bY+j)|none=>β id,λid=>match nA site cf.length id with|some j=>dO (bY+j)|none=>(match idx ids id with|some j=>(match c1[j]?with|some (some _)=>dO (aE+j)|_=>none)|none=>og id),⟨?_,by rw[Act.put_defers];exact ah.df,λid r aD=>?_,λid eg g aB dK=>?_,λid g aB=>?_,λid x ak=>?_,λid x ak=>?_,bq.dF,λb ag=>jK (ah.dZ b ag) bq.kept.size,λid x au ak=>?_⟩,?_⟩
 .exact HO (ah.tm.mono bq.sub hw gK) dst (Ug bq.val hm)
 .rcases afp id r aD with h|h|⟨af,ao,a1⟩
  .obtain⟨j,bo,aU,bc,rfl⟩:=Ul _ _ _ _ _ _ h;rw[sX]at aU;subst aU;have aP:j<cf.length:=(oN.1 bc).1;rw[afq j aP];refine(bq.cf j bo bc).iN hm (λx ak=>?_) (λg aB aJ ag=>aJ (r6 g ag));rw[MW aP];exact ak
  .obtain⟨j,bo,aU,bc,rfl⟩:=MU _ _ _ _ _ h;rw[zl j id bo aU bc];refine(bq.c1 j bo bc).iN hm (λx ak=>?_) (λg aB aJ ag=>aJ (r6 g ag));have vC:j<ids.length:=(oN.1 aU).1;obtain⟨et,i,q1,cO,mR⟩:=zi (bq.kH _ x al ak);have:j=et:=al;subst this;rw[aU]at cO;cases cO;exact gK _ _ mR
  .have aJ:id∉ids:=λdt=>by
     obtain⟨j,aP,he⟩:=vj dt;have l4:ids[j]?=some id:=by rw[fC aP,he]
     have Uq:j<c1.length:=by rw[hlen];exact aP
     cases au:c1[j]with
     |none=>exact af (Uj ids c1 j id l4 (by rw[fC Uq,au]))
     |some jq=>exact ao _ (Uk (back site ids cf.length) ids c1 j id jq l4 (by rw[fC Uq,au])) rfl
   have a7:=ah.row id r a1;obtain⟨x,ak⟩:=a7.place.1;rw[afs id (MX id x ak) aJ];refine a7.gJ gK bq.sub (λg aB an=>?_) hw (λg aB=>bq.kept.block g (BN id g aJ aB));exact(bq.sin g an).elim (λh=>h) λh=>absurd (BN id g aJ aB) h
 .rcases di id g aB with⟨j,aP,rfl,nB⟩|⟨j,r,aU,bc,nB⟩|⟨aJ,nB⟩<;>rcases di eg g dK with⟨et,qh,rfl,ti⟩|⟨et,jq,D9,D',ti⟩|⟨j3,ti⟩
  .have:=bq.inj _ _ g nB ti;rw[show j=et from al]
  .have:=bq.inj _ _ g nB ti;have vC:et<ids.length:=(oN.1 D9).1;omega
  .exact absurd (BN _ g j3 ti) (Uo j aP g nB)
  .have:=bq.inj _ _ g nB ti;have vC:j<ids.length:=(oN.1 aU).1;omega
  .have:=bq.inj _ _ g nB ti;have:j=et:=al;subst this;rw[aU]at D9;cases D9;rfl
  .exact absurd (BN _ g j3 ti) (Up j r bc g nB)
  .exact absurd (BN _ g aJ nB) (Uo et qh g ti)
  .exact absurd (BN _ g aJ nB) (Up et jq D' g ti)
  .exact ah.inj id eg g nB ti
 .rcases di id g aB with⟨j,aP,rfl,nB⟩|⟨j,r,aU,bc,nB⟩|⟨aJ,nB⟩
  .exact bq.lt _ g nB
  .exact bq.lt _ g nB
  .exact jK (ah.lt id g nB) bq.kept.size
 .split at ak
  .rename_i j aP;obtain⟨rfl,vC⟩:=HM aP;have:=MV (back site ids cf.length) site cf 0 j vC;rw[sX]at this;exact wV _ this
  .exact List.mem_append_right _ (ah.used id x ak)
 .split at ak
  .exact bq.one _ x ak
  .exact ah.one id x ak
 .split at ak
  .rename_i j aP;obtain⟨rfl,vC⟩:=HM aP;have:=(mq j vC).2;omega
  .exact ah.pid id x au ak
 .refine⟨?_,gK⟩;exact⟨⟨⟨bq.kept.os.trans aY.gL.os,bq.kept.tape.trans aY.gL.tape,bq.kept.output.trans aY.gL.output,lp aY.gL.size bq.kept.size,λk ai=>(bq.kept.block k (r6 k ai)).trans (aY.gL.block k ai)⟩,aY.gL.js⟩,λb ag=>(bq.sin b ag).elim (aY.sin b) λh=>.inr λdy=>h (r6 b dy),λb ag=>bq.sub b (aY.sub b ag)⟩
def aft(fz:List Nat)(rows:List (Nat×Row))(id:Nat):lookup (match fz with|[]=>rows|ids=>il ids rows) id=lookup (il fz rows) id:=by
 cases fz with
 |nil=>rw[yT]
 |cons i is=>rfl
def Bu{rows:List (Nat×Row)}{f:List AV->List Nat->List Nat}(aR:∀cs acc,acc<+:f cs acc):∀(is acc:List Nat),acc<+:qe rows f is acc
 |[],acc=>by simp[qe]
 |i::is,acc=>by
  simp only[qe];split
  .exact Bu aR is acc
  .split
   .exact TN
   .exact(List.prefix_append acc [i]).trans (Bu aR is _)
   .exact TN
   .exact Bu aR is acc
def MZ{rows:List (Nat×Row)}:∀(n:Nat)(aA:List AV)(acc:List Nat),acc<+:reach rows n aA acc
 |0,aA,acc=>by simp[reach]
 |n+1,aA,acc=>by simp only[reach];exact Bu (λcs acc=>MZ n cs acc) _ _
theorem M0(ah:Rel w S B β og st a)(aY:Out w0 bh B w S){rowsV:List (Nat×Row)}(cN:∀id x,lookup rowsV id=some x->lookup st.rows id=some x)(j6:∀e,y e=some r->gX site e st.used=true)(dst:Option Tmp){aA:List AV}{args:List Value}
  (jE:VRels w S β aA args)(h:nw site F aA rowsV y=some r):
  ∃(hc dR:Nat->Prop)(r7:cD)(vD:Nat->Option Nat)(xn:List AV)(zm:List Row)(gM:AV->List (Option Row)->List Row->Option aj),Heap w hc dR r7 vD (ik aE zm)/\((∀b,hc b->dR b)/\Glb dR w)/\(∀id x,r7 id=some x->aE<=id/\id<aE+zm.length)/\VRels w hc r7 xn args/\F aj xn zm gM=some r/\
   (∀id rest key tm,aA=.own id::rest->lookup rowsV id=some (.box false (.tup [.int .i64 key]::tm))->∃M1 HP M3,xn=.own aE::M1/\zm=.box false (.tup [.int .i64 key]::HP)::M3/\r7 aE=β id/\vD aE=og id)/\
   ∀u v c1 cf w' S' bD dO,gM v c1 cf=some r->uz w hc dR r7 c1 cf v u w' S' bD dO->∃e l3 mQ ko,y e=some r/\Rel w' l3 B mQ ko (apply site dst e st) (a.put dst u)/\Out w0 bh B w' l3/\∀id x,β id=some x->mQ id=some x:=by
 have eN:∀id x,lookup rowsV id=some x->eb w S B β id (og id) x:=λid x ak=>ah.row id x (cN _ _ ak)
 unfold nw at h
 split at h
 .cases h
 .rename_i p au;obtain⟨xn,Ur⟩:=p;split at h
  .cases h
  .rename_i q aH;obtain⟨rs,zh⟩:=q;split at h
   .rename_i aa;simp only[ba]at aa;obtain⟨⟨zj,k3⟩,Us⟩:=aa;generalize M4:reach rowsV depth xn []=ids at h aH zj k3 Us;have HQ:=MS ids zj;have afu:ids.length<=1000000:=kA k3;have Ut:∀i∈Ur++zh,i∉ids:=λi hi=>by have:=(ec.1 Us) i hi;simpa using this
    generalize gV:Ur++zh=fz at h Ut;have dt:∀id∈fz,∃r,lookup st.rows id=some r:=λid hid=>by
     rw[<-gV]at hid;rcases gD.1 hid with hid|hid
     .obtain⟨r,aD⟩:=qa (rows:=rowsV) (MB depth) _ _ au id hid;exact⟨r,cN _ _ aD⟩
     .obtain⟨r,aD⟩:=BL _ _ aH id hid;exact⟨r,cN _ _ aD⟩
    have j7:=ah.freeze fz;have mr:=aY.freeze ah fz dt;obtain⟨Uu,Ea⟩:=Uh eN ah.inj ids rs zh fz aH (λi hi=>by rw[<-gV];simp[hi]) Ut;have Eb:=(BK (w:=w) (S:=S) (β:=β) (og:=og) (f:=ij rowsV depth) (HL eN depth) _ _ _ au jE).hk (S':=cr S og fz) λb=>cr.sub (λi hi=>by rw[<-gV];simp[hi]);have Uv:∀id x j,β id=some x->toP ids id=some j->uA β ids j=some x:=λid x j ak aP=>by
     unfold toP at aP;cases hi:idx ids id with
     |none=>simp[hi]at aP
     |some et=>simp[hi]at aP;subst aP;rw[D8 β (BM ids id et hi)];exact ak
    have zk:∀i∈ids,∃r,lookup (il fz st.rows) i=some r/\r.bW=false:=λi hi=>by obtain⟨j,aP,he⟩:=vj hi;obtain⟨r1,bo,_,l5,HR,_⟩:=Ea j i (by rw[fC aP,he]);grind[yU]
    have hH:∀i∈ids,∀g,og i=some g->¬cr S og fz g:=λi hi g aB=>by obtain⟨r,aD,hm⟩:=zk i hi;exact(j7.row i r aD).free hm g aB
    have ep:Heap w (cr S og fz) (λb=>b<w.heap.size/\∀i∈ids,og i≠some b) (uA β ids) (uA og ids) (ik aE (rs.map (Row.iN (toP ids)))):=by
     refine⟨λid x ak=>?_,λid eg g aB dK=>?_,λid g aB=>?_,λid x ak=>?_,j7.dF,λb ag=>ag.1⟩
     .obtain⟨hle,ak⟩:=Hv _ _ _ _ ak;obtain⟨rU,rfl⟩:∃rU,id=aE+rU:=⟨id-aE,al⟩;rw[A6,k0]at ak;cases aD:rs[rU]?with
      |none=>simp[aD]at ak
      |some r1=>
       simp[aD]at ak;subst ak;have vC:rU<ids.length:=by rw[<-Uu];exact(oN.1 aD).1
       have l4:ids[rU]?=some ids[rU]:=fC vC;obtain⟨cQ,bo,pr,l5,HR,hrel,_⟩:=Ea _ _ l4;rw[aD]at pr;cases pr;rw[D8 og l4];refine hrel.iN Uv (λx ak=>?_) (λg aB _ ag=>ag.2 _ (pk l4) aB);rw[D8 β l4];exact ak
     .obtain⟨j,i,rfl,aU,bc⟩:=zi aB;obtain⟨et,fG,rfl,D9,D'⟩:=zi dK;have:=ah.inj i fG g bc D';subst this;rw[HQ j et i aU D9]
     .obtain⟨j,i,rfl,aU,bc⟩:=zi aB;exact ah.lt i g bc
     .obtain⟨j,i,rfl,aU,bc⟩:=zi ak;exact ah.one i x bc
    refine⟨cr S og fz,λb=>b<w.heap.size/\∀i∈ids,og i≠some b,uA β ids,uA og ids,_,_,_,ep,⟨λb ag=>⟨j7.dF b ag,λi hi aB=>hH i hi b aB ag⟩,aY.gL.here.mono λb ag=>⟨ah.dZ b ag,λi hi aB=>by
     obtain⟨r,aD,hm⟩:=zk i hi;exact(j7.row i r aD).place.2 b aB ag⟩⟩,(λid x ak=>by
     obtain⟨j,i,rfl,aU,bc⟩:=zi ak;have:=(oN.1 aU).1;rw[g',Uu];omega),HK Uv Eb,h,λid rest key tm aU bc=>?_,λu v c1 cf w' S' bD dO ai bq=>?_⟩
    .subst aU;have bw:ij rowsV depth (.own id)=some (.own id,[]):=by unfold depth;simp only[ij,bc]
     simp only[dp,bw]at au;cases aD:dp (ij rowsV depth) rest with
     |none=>rw[aD]at au;cases au
     |some q1=>
      rw[aD]at au;cases au;have lM:[id]<+:ids:=by rw[<-M4];show[id]<+:qe rowsV (reach rowsV 11) (id::AV.rY q1.1) [];simp only[qe,List.contains_nil,p2,A4,bc];exact(MZ 11 _ _).trans (Bu (λcs acc=>MZ 11 cs acc) _ _)
      obtain⟨is,Ec⟩:=lM;have Ec:ids=id::is:=Ec.symm;have xo:ids[0]?=some id:=by rw[Ec];rfl
      have bQ:toP ids id=some aE:=by unfold toP;rw[Ec];simp[idx]
      rw[Ec]at aH;simp only[q2,bc]at aH;cases pr:q2 rowsV is with
      |none=>rw[pr]at aH;cases aH
      |some cO=>
       rw[pr]at aH;have bN:ij rowsV depth (.tup [.int .i64 key])=some (.tup [.int .i64 key],[]):=by unfold depth;simp only[ij,dp];rfl
       simp only[dp,bN]at aH;cases Uw:dp (ij rowsV depth) tm with
       |none=>rw[Uw]at aH;cases aH
       |some mR=>rw[Uw]at aH;cases aH;refine⟨AV.nt (toP ids) q1.1,AV.nt (toP ids) mR.1,cO.1.map (Row.iN (toP ids)),?_,rfl,D8 β xo,D8 og xo⟩;show(AV.own id).iN (toP ids)::_=_;simp only[AV.iN,bQ]
    .split at ai
     .rename_i hlen;have M5:c1.length=ids.length:=by simpa using hlen
      have Ux:=j6 _ ai;simp only[gX,nk,ec,ba,jZ]at Ux;have cn:∃l3 mQ ko,Rel w' l3 B mQ ko (apply site dst {v:=v.iN (back site ids cf.length),bW:=fz,nu:=xg ids c1,nv:=qf (back site ids cf.length) ids c1,news:=rZ (back site ids cf.length) site 0 cf} st) (a.put dst u)/\Out w0 bh B w' l3/\∀id x,β id=some x->mQ id=some x:=?_
      .obtain⟨l3,mQ,ko,Ed,oW,M6⟩:=cn;exact⟨_,l3,mQ,ko,ai,Ed,oW,M6⟩
      refine afo (site:=site) j7 mr HQ zk afu M5 dst bq (λp au=>?_) (λid r aD=>?_)
      .obtain⟨af,ao⟩:=Ux p au;exact⟨s5,sV▸ao⟩
      .simp only[eI]at aD;rcases MT _ _ _ _ aD with h|⟨_,h⟩
       .exact .inl h
       .rcases MT _ _ _ _ h with h|⟨af,h⟩
        .exact .inr (.inl h)
        .obtain⟨ao,a1⟩:=Ui _ _ _ _ h;exact .inr (.inr ⟨ao,af,(aft fz st.rows id).symm.trans a1⟩)
     .cases ai
   .cases h
def afv(ah:Rel w S B β og st a)(aY:Out w0 bh B w S){rowsV:List (Nat×Row)}(cN:∀id x,lookup rowsV id=some x->lookup st.rows id=some x)(j6:∀e,y e=some r->gX site e st.used=true){f:Operand}{gF:List AV}
  (aw:o.op=.call {callee:=.value f,args:=args,argTypes:=ae})(aR:val st.tm f=.fn g gF)(hF:fH P g F)(gE:entersB P g=true)
  (h:nw site F (hz P st.tm ae.toList args.toList++gF) rowsV y=some r)(bg:Good w0 bh B site o st y r K):o.cX R P a w K Q:=by
 have gY:=eV ah.tm f
 rw[aR]at gY
 generalize ly:a.eval f=vE at gY
 cases gY with
 |fn _ _ _ hn di ir=>
 have jE:=(qi ah.tm P ae.toList args.toList).append (VRels.mono (w':=w) (S':=S) (bD:=β) ⟨di,ir⟩ (λ_ h=>h) (λ_ _=>rfl) (λ_ _ h=>h))
 obtain⟨hc,dR,r7,vD,xn,zm,gM,ep,k7,l6,xp,M7,_,uB⟩:=M0 ah aY cN j6 o.dst jE h
 have e8:=hF aj w hc dR r7 vD xn zm _ gM r ep k7 l6 xp M7
 have pw:(args.map a.eval)++hn.toArray=(args.toList.map a.eval++hn).toArray:=ml
 have bu:∀s,(callFunc g (args.toList.map a.eval++hn).toArray).run P w=s->(execOp a.eval o).run P w=s:=λs yS=>SA
 refine e8.wp gE bu λe w' j8=>?_
 obtain⟨u,v,c1,cf,S',bD,dO,rfl,ai,bq⟩:=j8
 obtain⟨e,l3,mQ,ko,aN,k8,vF,_⟩:=uB u v c1 cf w' S' bD dO ai bq
 exact⟨u,rfl,bg _ _ _ aN ⟨l3,mQ,ko,k8,vF⟩⟩
def afw(ah:Rel w S B β og st a)(aY:Out w0 bh B w S){rowsV:List (Nat×Row)}(cN:∀id x,lookup rowsV id=some x->lookup st.rows id=some x)(j6:∀e,y e=some r->gX site e st.used=true){f:Operand}{gF:List AV}
  (aw:o.op=.call {callee:=.value f,args:=args,argTypes:=ae})(aR:val st.tm f=.fn g gF)(hF:fH P g F)(gE:entersB P g=true)
  (h:uv site F (hz P st.tm ae.toList args.toList++gF) rowsV y=some r)(bg:Good w0 bh B site o st y r K):o.cX R P a w K Q:=by
 have eN:∀id x,lookup rowsV id=some x->eb w S B β id (og id) x:=λid x ak=>ah.row id x (cN _ _ ak)
 have gY:=eV ah.tm f
 rw[aR]at gY
 generalize ly:a.eval f=vE at gY
 cases gY with
 |fn _ _ _ hn di ir=>
 have jE:=(qi ah.tm P ae.toList args.toList).append (VRels.mono (w':=w) (S':=S) (bD:=β) ⟨di,ir⟩ (λ_ h=>h) (λ_ _=>rfl) (λ_ _ h=>h))
 unfold uv at h
 split at h
 .cases h
 .rename_i p au;have Eb:=zn (w:=w) (S:=S) (β:=β) (og:=og) (f:=cB rowsV depth) (oU eN depth) _ _ _ au jE;have dt:∀id∈p.2,∃r,lookup st.rows id=some r:=λid hid=>by obtain⟨r,aD⟩:=qa (rows:=rowsV) (qU depth) _ _ au id hid;exact⟨r,cN _ _ aD⟩
  have j7:=ah.freeze p.2;have mr:=aY.freeze ah p.2 dt;have e8:=hF aj w (cr S og p.2) (λb=>b<w.heap.size) cq (λ_=>none) (AV.lG p.1) [] _ _ r
   ⟨λid r aD=>by simp[ik,lookup]at aD,λid eg g aB=>w6,λid g aB=>w6,λid x ak=>(by cases ak),j7.dF,λb ag=>ag⟩
   ⟨j7.dF,aY.gL.here.mono ah.dZ⟩ (λid x ak=>(by cases ak)) (Ee Eb) h
  have pw:(args.map a.eval)++hn.toArray=(args.toList.map a.eval++hn).toArray:=ml;have bu:∀s,(callFunc g (args.toList.map a.eval++hn).toArray).run P w=s->(execOp a.eval o).run P w=s:=λs yS=>SA;refine e8.wp gE bu λe w' j8=>?_;obtain⟨u,v,c1,cf,S',bD,dO,rfl,ai,bq⟩:=j8;refine⟨u,rfl,?_⟩;split at ai
  .rename_i id s e es;split at ai
   .rename_i hid;subst hid;have afx:lN site st.used:=r8 rfl (j6 _ ai);have q':=bq.val;obtain⟨Ef,v,sp,xs,q1,cO,mR,Eg,afy,M8⟩:=bq.cf 0 _ rfl;rw[lX]at mR M8;have xq:u=v:=by
      cases q' with
      |own _ _ _ wd cp=>rw[mR]at cp;simp only[ej,gU]at cp;exact cp.1.symm
    subst xq;have oX:Below w.heap.size w w':=⟨bq.kept.os,bq.kept.tape,bq.kept.output,bq.kept.size,λk ai=>bq.kept.block k ai⟩;have qV:∀g,dO bY=some g->w.heap.size<=g/\g<w'.heap.size:=λg aB=>by
     refine⟨?_,bq.lt bY g aB⟩;rcases M8 with⟨_,_,a7,_⟩|⟨fm,bj,a7,_,dy,_⟩
     .rw[aB]at a7;cases a7
     .rw[aB]at a7;cases a7;exact Nat.le_of_not_lt dy
    have vG:∀b,b<w.heap.size->S' b->cr S og p.2 b:=λb ag an=>by
     rcases bq.sin b an with h|h
     .exact h
     .exact absurd ag h
    have cG:=j7.new (st:=⟨st.tm,il p.2 st.rows,st.used⟩) site afx o.dst oX bq.sub vG bq.dF (r:=.arr false s e es none) (v:=.own site) (u:=u) (x:=u) (wd:=s.width) (o:=dO bY) (bq.one bY _ mR) qV ?_ (.own _ _ _ _ (cV _ _ _))
    .refine bg _ _ _ ai ⟨S',_,_,cG.congr λi=>?_,(mr.grow ah.dZ oX).gL,λb ag=>?_,λb ag=>bq.sub b (mr.sub b ag)⟩
     .have:eI site {v:=.own site,new:=some (.arr false s e es none),bW:=p.2} st.rows=setRow (il p.2 st.rows) site (.arr false s e es none):=by
        simp only[eI,LO];cases p.2 with
        |nil=>rw[yT]
        |cons i is=>rfl
      rw[this]
     .rcases bq.sin b ag with h|h
      .exact mr.sin b h
      .exact .inr λdy=>h (ah.dZ b dy)
    .refine⟨Ef,u,sp,xs,q1,cO,cV _ _ _,Eg,afy,?_⟩;rcases M8 with a7|⟨fm,bj,a7,af,dy,ao,a1,ca⟩
     .exact .inl a7
     .exact .inr ⟨fm,bj,a7,af,λag=>dy (ah.dZ _ ag),ao,a1,ca⟩
   .cases ai
  .cases ai
def Eh(P:Program)(key:Int)(F:jD):Prop:=
 ∀(aj:Type)(w:World)(S B:Nat->Prop)(β:cD)(og:Nat->Option Nat)(aA tm:List AV)(rows:List Row)(args:List Value)(k:AV->List (Option Row)->List Row->Option aj)(r:aj)(l:Nat)(bo:Go.Loop)(us:List Value),Heap w S B β og (ik aE (.box false (.tup [.int .i64 key]::tm)::rows))->(∀b,S b->B b)/\Glb B w->(∀id x,β id=some x->aE<=id/\id<aE+(rows.length+1))->VRels w S β aA args->
  β aE=some (.func (.yield l) #[] #[],1)->og aE=some l->w.heap[l]?=some (.loop bo)->bo.state=.ready->bo.pending=none->(bo.params,bo.assign,bo.body)=ra key->bo.tmps.toList=us->VRels w S β tm us->
  F aj (.own aE::aA) (.box false (.tup [.int .i64 key]::tm)::rows) k=some r->
  RoundIn Fence.wide 0 P l bo.fn ((bo.params.zip args.toArray).foldl (λt(p,v)=>t.setIfInBounds p v) bo.tmps) bo.assign bo.body w λe w'=>∃u v c1 cf S' bD dO,e=.returned u/\k v c1 cf=some r/\uz w S B β c1 cf v u w' S' bD dO
theorem afz(ah:Rel w S B β og st a)(aY:Out w0 bh B w S){rowsV:List (Nat×Row)}(cN:∀id x,lookup rowsV id=some x->lookup st.rows id=some x)(j6:∀e,y e=some r->gX site e st.used=true){f:Operand}{id:Nat}{key:Int}{tm:List AV}
  (aw:o.op=.call {callee:=.value f,args:=args,argTypes:=ae})(aR:val st.tm f=.own id)(ay:lookup rowsV id=some (.box false (.tup [.int .i64 key]::tm)))(aJ:args.size=(ra key).1.size)(hF:Eh P key F)
  (h:nw site F (.own id::hz P st.tm ae.toList args.toList) rowsV y=some r)(bg:Good w0 bh B site o st y r K):o.cX R P a w K Q:=by
 have gY:=eV ah.tm f
 rw[aR]at gY
 have jE:=VRels.cons gY (qi ah.tm P ae.toList args.toList)
 obtain⟨hc,dR,r7,vD,xn,zm,gM,ep,k7,l6,xp,M7,HS,uB⟩:=M0 ah aY cN j6 o.dst jE h
 obtain⟨M1,HP,M3,rfl,rfl,gK,dQ⟩:=HS id _ key tm rfl ay
 generalize ly:a.eval f=vE at gY xp
 cases gY with
 |own _ _ _ wd bP=>
 have a7:=ep.row aE (.box false (.tup [.int .i64 key]::HP)) (by simp[ik,lookup])
 obtain⟨g,vs,v0,aB,hx,afA,b6,_⟩:=a7
 obtain⟨v,fr,dw,ak,gz⟩:=b6.inv
 have kI:∃xs:List Value,v=.tuple xs.toArray:=by cases ak with|tup _ _ xs _ _=>exact⟨xs,rfl⟩
 obtain⟨xs,rfl⟩:=kI
 rcases afA with⟨_,_,af⟩|⟨bo,r4,us,d,hh,an,M9,aH,aU,bc,bw⟩|⟨s,pos,_,aU,_⟩|⟨ms,_,_,aU,_⟩
 rotate_left 2
 .exfalso;rw[aU]at dw;simp only[jY,ug]at dw;have hlen:=dh Array.size dw.1;cases ak with
  |tup _ _ xs ay _=>simp at hlen ay;omega
 .exfalso;rw[aU]at dw;simp only[jY,ug]at dw;have kp:=dh Array.toList dw.1;cases ak with
  |tup _ _ cm ay aa=>
   simp only at kp;subst kp;cases ms with
   |nil=>simp at ay
   |cons e ms=>have a7:=aa 0 (.int .i64 key) (.tuple #[e.key,e.val]) rfl rfl;cases a7
 .have:=af (.tuple xs.toArray) (by rw[dw];simp);cases this
 .have xr:d=false/\r4=key/\us=fr:=by
    rw[aU]at dw;simp only[jY]at dw;cases ak with
    |tup _ _ xs ay aa=>
     have bQ:xs=qj r4 d:=by have:=dw.1;simp only[ug]at this;rw[<-Array.toList_inj]at this;simpa using this.symm
     cases d with
     |true=>rw[bQ]at ay;simp[qj]at ay
     |false=>have bN:xs=[.int .i64 r4]:=bQ;subst bN;refine⟨rfl,?_,dw.2⟩;have:=aa 0 _ _ rfl rfl;cases this;rfl
  obtain⟨rfl,rfl,rfl⟩:=xr;have afB:vE=.func (.yield g) #[] #[]/\wd=1:=by rw[gK,bP]at hx;simp only[ej,gU]at hx;exact⟨hx.1.trans bw,hx.2⟩
  obtain⟨rfl,rfl⟩:=afB;obtain⟨_,_,j9,_,zo⟩:=xp.inv;simp only[jY]at j9;obtain⟨_,rfl⟩:=j9;have Ei:=hF aj w hc dR r7 vD M1 HP M3 _ gM r g bo us ep k7 (by simpa using l6) zo (by rw[gK,bP]) aB hh an M9 aH bc gz M7;refine⟨λ_ _=>trivial,?_⟩;have cx:(args.map a.eval).size=bo.params.size:=by
   rw[Array.size_map,aJ];have:(bo.params,bo.assign,bo.body).1=(ra r4).1:=by rw[aH]
   exact(dh Array.size this).symm
  have bu:(execOp a.eval o).run P w=.ok (.round g bo.fn ((bo.params.zip (args.toList.map a.eval).toArray).foldl (λt(p,v)=>t.setIfInBounds p v) bo.tmps) bo.assign bo.body) w:=by simp only[execOp,aw,resolve,ly,Deferred.ofValue];simp only[wT,invoke,LZ];rw[run_yield hh cx,show args.map a.eval=(args.toList.map a.eval).toArray from ml]
  rw[semAt_of bu (λ_ _ h=>cM) (λ_ _ h=>cM),Oper.uponIn_round];refine⟨λh=>cM,RoundIn.mono (show RoundIn (l7 R) 0 P g bo.fn _ bo.assign bo.body w _ from Ei) λe w' j8=>?_⟩;obtain⟨u,v,c1,cf,S',bD,dO,rfl,ai,bq⟩:=j8;obtain⟨e,l3,mQ,ko,aN,k8,vF,_⟩:=uB u v c1 cf w' S' bD dO ai bq;exact bg _ _ _ aN ⟨l3,mQ,ko,k8,vF⟩
end ops
open Go.RowKit Go.MapKept
section ops
variable{R:Option Nat}{aj:Type}{P:Program}{w0 w:World}{bh S:Nat->Prop}{B:Ctx}{β:cD}{og:Nat->Option Nat}{st:bC}{a:Act}{o:Oper}{site:Nat}{y:dx->Option aj}{r:aj}
 {K:Act->World->Prop}{Q:Exit->Act->World->Prop}
def iO(w:World)(S:Nat->Prop):List AV->List MapEntry->Prop
 |[],[]=>True
 |e::es,x::xs=>VRel w S cq e (.tuple #[x.key,x.val])/\iO w S es xs
 |_,_=>False
def iO.of{w:World}{S:Nat->Prop}:∀{es:List AV}{xs:List MapEntry},xs.length=es.length->(∀(j:Nat)(c:AV)(u:Value×Value),es[j]?=some c->(xs.map λe=>(e.key,e.val))[j]?=some u->VRel w S cq c (.tuple #[u.1,u.2]))->iO w S es xs
 |[],[],_,_=>trivial
 |e::es,x::xs,ay,h=>⟨h 0 e _ rfl rfl,iO.of Ha λj c u aa hu=>h (j+1) c u wY yX⟩
 |[],_::_,ay,_=>by simp at ay
 |_::_,[],ay,_=>by simp at ay
def iO.to{w:World}{S:Nat->Prop}:∀{es:List AV}{xs:List MapEntry},iO w S es xs->xs.length=es.length/\∀(j:Nat)(c:AV)(u:Value×Value),es[j]?=some c->(xs.map λe=>(e.key,e.val))[j]?=some u->VRel w S cq c (.tuple #[u.1,u.2])
 |[],[],_=>⟨rfl,λj c u aa=>y2⟩
 |e::es,x::xs,h=>by
  obtain⟨af,ao⟩:=iO.to h.2;refine⟨by simp[af],λj c u aa hu=>?_⟩;cases j with
  |zero=>simp at aa hu;subst aa hu;exact h.1
  |succ j=>exact ao j c u wY yX
 |[],_::_,h=>h.elim
 |_::_,[],h=>h.elim
def Uy(xs:List MapEntry):(xs.map λe=>(e.key,e.val)).map (λp=>Value.tuple #[p.1,p.2])=xs.map λe=>Value.tuple #[e.key,e.val]:=by rw[p4];rfl
def iO.rel(h:iO w S es xs):VRels w S β [.ct es] [.tuple (xs.map λe=>Value.tuple #[e.key,e.val]).toArray]:=by rw[<-Uy];exact VRels.cons (.ct β es _ (by rw[g'];exact h.to.1) h.to.2) VRels.nil
def iO.len(h:iO w S es xs):xs.length=es.length:=h.to.1
def iO.gJ{w w':World}{S S':Nat->Prop}(cu:∀b,S b->S' b)(hw:∀b,S b->w'.heap[b]?=w.heap[b]?):∀{es:List AV}{xs:List MapEntry},iO w S es xs->iO w' S' es xs
 |[],[],_=>trivial
 |_::_,_::_,h=>⟨h.1.mono cu hw (λ_ _ h=>h),iO.gJ cu hw h.2⟩
 |[],_::_,h=>h.elim
 |_::_,[],h=>h.elim
def BO{x y:AV}{v:Value}(h:VRel w S β x u)(h':VRel w S β y v):VRel w S β (.tup [x,y]) (.tuple #[u,v]):=.tup β [x,y] [u,v] rfl λj c z aa hu=>bM
def Uz:∀(bj vH:List (Value×Value)),(bj.map λp=>Value.tuple #[p.1,p.2])=(vH.map λp=>Value.tuple #[p.1,p.2])->bj=vH
 |[],[],_=>rfl
 |[],_::_,h=>k1
 |_::_,[],h=>k1
 |(a,b)::bj,(c,d)::vH,h=>by simp only[iZ,jY,ug]at h;have af:=dh Array.toList h.1;simp at af;rw[Uz bj vH h.2,af.1,af.2]
theorem UA{rows:List (Nat×Row)}{x:AV}{id:Nat}(h:mapOf P rows t x=some (bE,ey,id,im,es)):P.underlying t=some (.map bE ey)/\x=.own id/\lookup rows id=some (.box im [.ct es])/\q8 P bE=true:=by unfold mapOf at h;grind
theorem UB(ah:Rel w S B β og st a){id:Nat}(ay:lookup st.rows id=some (.box im [.ct es]))(hu:VRel w S β (.own id) u):
  ∃(g:Nat)(xs:List MapEntry),og id=some g/\u=.map (some g)/\β id=some (.map (some g),1)/\w.heap[g]?=some (.map xs.toArray xs.length)/\(∀(i:Nat)(e:MapEntry),xs[i]?=some e->e.born=i)/\iO w S es xs/\(im=false->¬S g)/\¬B g:=by
 obtain⟨g,vs,v,dQ,ag,ep,b6,hi,_,dy⟩:=ah.row id _ ay
 have xq:u=v:=by
  cases hu with
  |own _ _ _ wd cp=>grind
 subst xq
 obtain⟨c,fr,dw,aa,aJ⟩:=b6.inv
 obtain rfl:=aJ.gf
 cases aa with
 |ct _ _ dL j' bp=>
  rcases ep with⟨_,_,af⟩|⟨_,key,us,d,_,_,_,_,af,_,_⟩|⟨s,pos,_,af,_⟩|⟨xs,hh,oY,af,rfl⟩
  .have:=af (.tuple (dL.map λp=>Value.tuple #[p.1,p.2]).toArray) (by rw[dw];simp);cases this
  .exfalso;rw[af]at dw;simp only[jY,ug]at dw;have aU:=dh Array.toList dw.1;cases dL with
   |nil=>grind[qj]
   |cons p dL=>grind[qj]
  .exfalso;rw[af]at dw;simp only[jY,ug]at dw;have aU:=dh Array.toList dw.1;cases dL with
   |nil=>simp at aU
   |cons p dL=>simp at aU
  .rw[af]at dw;simp only[jY,ug,po]at dw;have aU:=dh Array.toList dw;have bc:(xs.map λe=>(e.key,e.val))=dL:=by rw[<-Uy]at aU;exact Uz _ _ aU
   subst bc;exact⟨g,xs,dQ,rfl,ag,hh,oY,iO.of (by simpa using j') bp,hi,dy⟩
def afC{j:IntKind}(h:P.underlying bE=some (.int j)):shOf P depth bE=.int j:=by simp[depth,shOf,h]
def afD(h:P.underlying bE=some .string):shOf P depth bE=.str:=by simp[depth,shOf,h]
theorem BP(ho:q8 P bE=true)(ai:cb (shOf P depth bE) k=true)(ar:VRel w S β k u):
  (∃j n,P.underlying bE=some (.int j)/\k=.int j n/\u=.int j n)\/(∃s:List UInt8,P.underlying bE=some .string/\k=.str s/\u=.string ⟨s.toArray⟩)\/
  (∃aC j n,∃s:List UInt8,P.underlying bE=some (.struct aC)/\r0 P aC.toList=true/\P.stoodInHeld bE=false/\k=.agg [.int j n,.str s]/\u=.agg #[.int j n,.string ⟨s.toArray⟩]):=by
 unfold q8 at ho
 split at ho
 .rename_i j aQ;rw[afC aQ]at ai;cases k<;>simp[cb,fE]at ai;rename_i et n;subst ai;exact .inl ⟨j,n,aQ,rfl,ar.eT⟩
 .rename_i aQ;rw[afD aQ]at ai;cases k<;>simp[cb,fE]at ai;rename_i s;exact .inr (.inl ⟨s,aQ,rfl,ar.hO⟩)
 .rename_i aC aQ;simp only[ba,jZ]at ho;obtain⟨af,ao,a1⟩:=ho;split at a1
  .rename_i j dd;rw[dd]at ai;cases k<;>simp[cb]at ai;rename_i cs;have ay:=M' _ _ ai;obtain⟨k9,b2,rfl⟩:∃k9 b2,cs=[k9,b2]:=by
     match cs,ay with
     |[k9,b2],_=>exact⟨k9,b2,rfl⟩
   simp[gg]at ai;obtain⟨xt,gM⟩:=ai;cases k9<;>simp[fE]at xt;cases b2<;>simp[fE]at gM;subst xt;rename_i n s;obtain⟨vs,rfl,b6,_⟩:=ar.mS;obtain⟨v0,avr,rfl,Na,afE⟩:=b6.inv;obtain⟨v1,afF,rfl,xp,xu⟩:=afE.inv;obtain rfl:=xu.gf;rw[Na.eT,xp.hO];grind
  .cases a1
 .cases ho
theorem UC(h:r0 P aC.toList=true):∃f g j,aC.toList=[f,g]/\f.name≠ "_" /\g.name≠ "_" /\f.offset=0/\g.offset=1/\P.underlying f.type=some (.int j)/\P.underlying g.type=some .string:=by unfold r0 at h;grind
def afG{j:IntKind}(h:P.underlying t=some (.int j))(em:Bool)(n:Nat)(v:Value):(Instr.checkKey em (n+1) t v).run P w=.ok () w:=Tb
def afH(h:P.underlying t=some .string)(em:Bool)(n:Nat)(v:Value):(Instr.checkKey em (n+1) t v).run P w=.ok () w:=Tb
theorem afI(aQ:P.underlying bE=some (.struct aC))(cu:r0 P aC.toList=true)(j:IntKind)(n:Int)(b:ByteArray)(em:Bool):(Instr.checkKey em 10000 bE (.agg #[.int j n,.string b])).run P w=.ok () w:=by
 obtain⟨f,g,et,nC,aR,aB,of,dO,aP,an⟩:=UC cu;have avs:(part f.type #[.int j n,.string b] f.offset).run P w=.ok (.int j n) w:=by simp[part,pC aP,isAggT,aP,of]
 have avt:(part g.type #[.int j n,.string b] g.offset).run P w=.ok (.string b) w:=by simp[part,pC an,isAggT,an,dO]
 have avu:(Instr.checkKey em 9999 f.type (.int j n)).run P w=.ok () w:=afG aP em 9998 _;have avv:(Instr.checkKey em 9999 g.type (.string b)).run P w=.ok () w:=afH an em 9998 _;show(Instr.checkKey em (9999+1) bE (.agg #[.int j n,.string b])).run P w=_;unfold Instr.checkKey;simp only[iL,cA aQ,jX];rw[<-Array.forIn_toList,nC];simp_all
theorem xv(ho:q8 P bE=true)(ai:cb (shOf P depth bE) k=true)(ar:VRel w S β k u)(em:Bool):∃d,P.underlying bE=some d/\(Instr.checkKey em 10000 bE u).run P w=.ok () w/\(Instr.keyThatStays u u).run P w=.ok u w:=by
 rcases BP ho ai ar with⟨j,n,aQ,rfl,rfl⟩|⟨s,aQ,rfl,rfl⟩|⟨aC,j,n,s,aQ,cu,hh,rfl,rfl⟩
 .grind[run_checkKey,IsKey,run_keyThatStays]
 .exact⟨_,aQ,run_checkKey aQ (show IsKey .string (.string ⟨s.toArray⟩)from trivial) em 9999,run_keyThatStays (d:=.string) (show IsKey .string (.string ⟨s.toArray⟩)from trivial)⟩
 simp_all[afI,Instr.sameBits,bytes_beq,Instr.keyThatStays]
theorem afJ(s fF:List UInt8):((⟨s.toArray⟩:ByteArray)==⟨fF.toArray⟩)=(s==fF):=by grind[bytes_beq]
theorem afK{cl:AV}{rb:Value}(aX:P.underlying bE=some d)(ho:q8 P bE=true)(ai:cb (shOf P depth bE) k=true)(ar:VRel w S β k u)(hp:cb (shOf P depth bE) cl=true)(jN:VRel w S' bD cl rb):
  (Instr.sameNow d u rb=some (c9 k cl)\/(∃aC,d=.struct aC)/\(Op.equal bE u rb).run P w=.ok (c9 k cl) w)/\(c9 k cl=true->rb=u):=by
 rcases BP ho ai ar with⟨j,n,aQ,rfl,rfl⟩|⟨s,aQ,rfl,rfl⟩|⟨aC,j,n,s,aQ,cu,hh,rfl,rfl⟩
 .grind[BP,Instr.sameNow,c9]
 .grind[BP,Instr.sameNow,c9,afJ]
 .rcases BP ho hp jN with⟨et,k',pD,rfl,rfl⟩|⟨fF,pD,rfl,rfl⟩|⟨avw,et,k',fF,pD,Nb,_,rfl,rfl⟩
  .rw[aQ]at pD;cases pD
  .rw[aQ]at pD;cases pD
  .rw[aQ]at aX;cases aX;have aP:et=j:=by
     unfold q8 at ho;rw[aQ]at ho;simp only[ba]at ho;have a1:=ho.2.2;split at a1
     .grind[cb,gg,fE]
     .cases a1
   subst aP;obtain⟨f,g,q,nC,aR,aB,of,dO,aH,an⟩:=UC cu;have he:s7 P aC.toList 0 [.int et n,.str s] [.int et k',.str fF]=some ((n==k')&&((s==fF)&&true)):=by rw[nC];simp[s7,aR,aB,of,dO,aH,an]
   have qk:P.fieldsOf bE=aC:=by simp[Program.fieldsOf,aQ]
   have afL:c9 (.agg [.int et n,.str s]) (.agg [.int et k',.str fF])=((n==k')&&((s==fF)&&true)):=by simp[c9]
   refine⟨.inr ⟨⟨aC,rfl⟩,?_⟩,λh=>?_⟩
   .rw[afL];show(Op.equalIn (9999+1) bE _ _).run P w=_;rw[run_equalIn_struct w 9999 bE _ _ (by rw[qk];exact aQ) hh,qk];refine Nc (S:=S) (β:=β) aC.toList 0 _ _ _ _ _ he (λi c aa=>?_) (λi c aa=>?_) 9998
    .match i with
     |0=>simp at aa;subst aa;exact⟨_,rfl,.int _ _ _⟩
     |1=>simp at aa;subst aa;exact⟨_,rfl,.str _ _⟩
     |i+2=>simp at aa
    .match i with
     |0=>simp at aa;subst aa;exact⟨_,rfl,.int _ _ _⟩
     |1=>simp at aa;subst aa;exact⟨_,rfl,.str _ _⟩
     |i+2=>simp at aa
   grind
theorem afM(aQ:P.underlying bE=some (.struct aC))(u:Value)(xs:List MapEntry):(Instr.findKey bE u xs).run P w=(Instr.findAsking bE u xs 0).run P w:=by
 cases xs with
 |nil=>simp[Instr.findKey,cA aQ,Instr.findNow,Instr.findAsking]
 |cons e es=>simp[Instr.findKey,cA aQ,Instr.findNow,Instr.sameNow]
theorem UD{bE:TypeId}{d:TypeDesc}{k:AV}{u:Value}(aX:P.underlying bE=some d)(ho:q8 P bE=true)(ai:cb (shOf P depth bE) k=true)(ar:VRel w S β k u):∀(nD:List AV)(xs:List MapEntry)(i:Nat),xs.length=nD.length->(∀(j:Nat)(c:AV)(x:MapEntry),nD[j]?=some c->xs[j]?=some x->cb (shOf P depth bE) c=true/\VRel w S β c x.key)->
  (match d with
  |.struct _=>(Instr.findAsking bE u xs i).run P w=.ok ((nD.findIdx? (c9 k)).bind λn=>(xs[n]?).map λx=>(i+n,x.val)) w
  |_=>Instr.findNow d u xs i=some ((nD.findIdx? (c9 k)).bind λn=>(xs[n]?).map λx=>(i+n,x.val)))/\∀n,nD.findIdx? (c9 k)=some n->∃x:MapEntry,xs[n]?=some x/\x.key=u
 |[],[],i,_,_=>by refine⟨?_,λn h=>k1⟩;split<;>rfl
 |[],_::_,_,h,_=>k1
 |_::_,[],_,h,_=>k1
 |c::nD,x::xs,i,ay,bq=>by
  obtain⟨aa,ak⟩:=bq 0 c x rfl rfl;have ih:=UD aX ho ai ar nD xs (i+1) Ha λj c x af ao=>bq (j+1) c x s5 vt;obtain⟨an,avx⟩:=afK aX ho ai ar aa ak;rw[Sv];cases ag:c9 k c with
  |true=>
   refine⟨?_,λn h=>?_⟩
   .simp only[dE,j0,sY,jm,lX];rw[ag]at an;split
    .simp_all[Instr.sameNow,Instr.findAsking]
    simp_all[Instr.findNow]
   grind
  |false=>
   have hm:(Option.map (λi=>i+1) (nD.findIdx? (c9 k))).bind (λn=>((x::xs)[n]?).map λx=>(i+n,x.val))=(nD.findIdx? (c9 k)).bind λn=>(xs[n]?).map λx=>(i+1+n,x.val):=by
    cases nD.findIdx? (c9 k)with
    |none=>rfl
    |some n=>grind
   refine⟨?_,λn h=>?_⟩
   .simp only[p2,A4];rw[hm];rw[ag]at an;have HT:=ih.1;split at HT
    .simp_all[Instr.sameNow,Instr.findAsking]
    simp_all[Instr.findNow]
   .simp only[p2,A4,L6]at h;grind
theorem Nd(aX:P.underlying bE=some d)(ho:q8 P bE=true)(ai:cb (shOf P depth bE) k=true)(ar:VRel w S β k u)(nD:List AV)(xs:List MapEntry)(ay:xs.length=nD.length)(bq:∀(j:Nat)(c:AV)(x:MapEntry),nD[j]?=some c->xs[j]?=some x->cb (shOf P depth bE) c=true/\VRel w S β c x.key):
  (nD.findIdx? (c9 k)=none->(Instr.findKey bE u xs).run P w=.ok none w)/\∀n,nD.findIdx? (c9 k)=some n->∃x:MapEntry,xs[n]?=some x/\x.key=u/\(Instr.findKey bE u xs).run P w=.ok (some (n,x.val)) w:=by
 obtain⟨af,ao⟩:=UD aX ho ai ar nD xs 0 ay bq
 have h:(Instr.findKey bE u xs).run P w=.ok ((nD.findIdx? (c9 k)).bind λn=>(xs[n]?).map λx=>(0+n,x.val)) w:=by
  cases d with
  |struct aC=>grind[afM]
  |_=>exact run_findKey aX af
 grind
theorem Nf(k:AV):∀es:List AV,(dq k es=false->(es.map eL).findIdx? (c9 k)=none)/\(dq k es=true->(es.map eL).findIdx? (c9 k)=some (pB k es))
 |[]=>⟨λ_=>rfl,λh=>cM⟩
 |e::es=>by obtain⟨af,ao⟩:=Nf k es;grind[dq,pB]
theorem UE(k:AV):∀es:List AV,dq k es=true->∃e,es[pB k es]?=some e/\gj k es=xi e
 |[],h=>cM
 |e::es,h=>by
  simp only[dq,pB,gj]at*;cases ag:c9 k (eL e)with
  |true=>exact⟨e,rfl,rfl⟩
  |false=>rw[ag]at h;obtain⟨e',af,ao⟩:=UE k es qT;grind
def afN{sv:Sh}(cg:iO w S es xs)(aY:jb ja sv es=true):xs.length=(es.map eL).length/\∀(j:Nat)(c:AV)(x:MapEntry),(es.map eL)[j]?=some c->xs[j]?=some x->cb ja c=true/\VRel w S cq c x.key:=by
 obtain⟨ay,bq⟩:=cg.to;refine⟨by rw[g',ay],λj c x aa ak=>?_⟩;rw[k0]at aa;obtain⟨e,he,rfl⟩:=L6.1 aa;have aw:=ec.1 aY e (pk he);have ar:=bq j e (x.key,x.val) he bM;unfold za at aw;split at aw
 .simp only[ba]at aw;exact⟨aw.1,(Ej ar).1⟩
 .cases aw
def UF{sv:Sh}(aX:P.underlying bE=some d)(ho:q8 P bE=true)(ai:cb (shOf P depth bE) k=true)(ar:VRel w S β k u)(es:List AV)(xs:List MapEntry)(cg:iO w S es xs)(aY:jb (shOf P depth bE) sv es=true):
  (dq k es=false->(Instr.findKey bE u xs).run P w=.ok none w)/\
  (dq k es=true->∃x:MapEntry,(Instr.findKey bE u xs).run P w=.ok (some (pB k es,x.val)) w/\xs[pB k es]?=some x/\VRel w S cq (gj k es) x.val/\cb sv (gj k es)=true/\x.key=u):=by
 obtain⟨ay,bq⟩:=afN cg aY
 obtain⟨af,ao⟩:=Nd aX ho ai ar (es.map eL) xs ay λj c x aa ak=>⟨(bq j c x aa ak).1,(bq j c x aa ak).2.mono (λ_ h=>h) (λ_ _=>rfl) (λ_ _ h=>cM)⟩
 refine⟨λh=>af ((Nf k es).1 h),λh=>?_⟩
 obtain⟨x,ak,hu,aD⟩:=ao _ ((Nf k es).2 h)
 obtain⟨e,he,aB⟩:=UE k es h
 have aw:=ec.1 aY e (pk he)
 have afO:=cg.to.2 _ e (x.key,x.val) he bM
 unfold za at aw
 split at aw
 .simp only[ba]at aw;rw[aB];exact⟨x,aD,ak,(Ej afO).2,aw.2,hu⟩
 .cases aw
theorem iO.push{w:World}{S:Nat->Prop}:∀{es:List AV}{xs:List MapEntry}{k v:AV}{x:MapEntry},iO w S es xs->VRel w S cq k x.key->VRel w S cq v x.val->iO w S (es++[.tup [k,v]]) (xs++[x])
 |[],[],_,_,_,_,af,ao=>⟨BO af ao,trivial⟩
 |_::_,_::_,_,_,_,h,af,ao=>⟨h.1,iO.push h.2 af ao⟩
 |[],_::_,_,_,_,h,_,_=>h.elim
 |_::_,[],_,_,_,h,_,_=>h.elim
theorem iO.uC{w:World}{S:Nat->Prop}{ja sv:Sh}{v:AV}{u:Value}(ar:VRel w S cq v u):∀{es:List AV}{xs:List MapEntry}(i:Nat),jb ja sv es=true->iO w S es xs->iO w S (lK v es i) (xs.modify i λe=>{e with val:=u})
 |[],[],i,_,_=>by cases i<;>exact trivial
 |e::es,x::xs,0,aY,h=>by
  simp only[jb,lq,ba]at aY;obtain⟨Ng,re,rfl⟩:∃Ng re,e=.tup [Ng,re]:=by have:=aY.1;unfold za at this;grind
  exact⟨BO (Ej h.1).1 ar,h.2⟩
 |e::es,x::xs,i+1,aY,h=>by simp only[jb,lq,ba]at aY;exact⟨h.1,iO.uC ar i aY.2 h.2⟩
 |[],_::_,_,_,h=>h.elim
 |_::_,[],_,_,h=>h.elim
theorem HU{i:Nat}{x:MapEntry}(ak:xs[i]?=some x):(xs.modify i λe=>{e with key:=x.key,val:=u})=xs.modify i λe=>{e with val:=u}:=by apply yE;grind
def UG(ag:∀(i:Nat)(e:MapEntry),xs[i]?=some e->e.born=i)(n:Nat)(u:Value):∀(i:Nat)(e:MapEntry),(xs.modify n λe=>{e with val:=u})[i]?=some e->e.born=i:=λi e he=>bM
def UH(ag:∀(i:Nat)(e:MapEntry),xs[i]?=some e->e.born=i)(k u:Value):∀(i:Nat)(e:MapEntry),(xs++[{key:=k,val:=u,born:=xs.length}])[i]?=some e->e.born=i:=λi e he=>bM
def vI(w:World)(g:Nat)(o:Obj):w.grownBy (w.putObj g o) (some g):=⟨rfl,rfl,rfl,p7,λk _ bO=>World.putObj_heap_other (λe=>bO w7)⟩
theorem afP{z:AV}(h:MM P t=some z):∃u,(zeroValue t).run P w=.ok u w/\VRel w S β z u:=by
 unfold MM at h;split at h
 .rename_i i hi;cases bp:i.zero with
  |none=>rw[bp]at h;cases h
  |some z=>rw[bp]at h;cases h;simp_all[zeroValue,typeInfo,BQ]
 .cases h
theorem UI{b:Bool}{z:AV}(h:zeroAt P b t=some z):∃u,(zeroValue t).run P w=.ok u w/\VRel w S β z u:=by
 unfold zeroAt at h;split at h
 .rename_i aa;cases h;simp only[ba]at aa;have aJ:=aa.2;unfold T9 at aJ;split at aJ
  .rename_i i hi;split at aJ
   .rename_i bp;exact⟨.slice none 0 0,by simp_all[zeroValue,typeInfo],.lF _⟩
   .cases aJ
  .cases aJ
 .exact afP h
theorem afQ(an:cb s v=true)(h:VRel w S β v u):VRel w S β (yR s v) u:=by
 have one:∀(s:Sh),fE s v=true->yR s v=DX s v->VRel w S β (yR s v) u:=λs af e=>by grind[Nh]
 cases s with
 |agg l=>
  cases v<;>simp only[cb,p2]at an;rename_i cs;cases h with
  |agg _ _ vs ay af hh=>have:=BR l cs vs an ⟨ay,hh⟩;exact .agg _ _ vs this.1 af this.2
 |int k=>obtain⟨aU,_⟩:=ql _ _ an;exact one _ an DK
 |bool=>obtain⟨aU,_⟩:=ql _ _ an;exact one _ an DK
 |str=>obtain⟨aU,_⟩:=ql _ _ an;exact one _ an DK
 |slice s=>obtain⟨aU,_⟩:=ql _ _ an;exact one _ an DK
 |other=>obtain⟨aU,_⟩:=ql _ _ an;exact one _ an DK
theorem Ni(ah:Rel w S B β og st a)(aY:Out w0 bh B w S)(aR:lN site st.used)(aw:o.op=.makeMap t none)(aN:y {v:=.own site,new:=some (.box false [.ct []])}=some r)(bg:Good w0 bh B site o st y r K):o.cX R P a w K Q:=by
 have ag:=r9 w (.map #[] 0);have aL:∀b,S b->b<(w.alloc (.map #[] 0)).heap.size:=λb an=>DL;have bu:(execOp a.eval o).run P w=.ok (.value (.map (some w.heap.size))) (w.alloc (.map #[] 0)):=by simp[execOp,aw,Instr.makeMap]
 refine wp_value bu (bg _ _ _ aN ⟨S,_,_,ah.new site aR o.dst ag (λ_ h=>h) (λ_ _ h=>h) aL (x:=.map (some w.heap.size)) (wd:=1) (o:=some w.heap.size) rfl
  (λg aB=>w2) ?_ (.own _ site _ _ (cV _ _ _)),aY.grow ah.dZ ag⟩)
 exact⟨w.heap.size,_,_,rfl,cV _ _ _,.inr (.inr (.inr ⟨[],World.alloc_heap_new w _,λi e he=>by simp at he,rfl,rfl⟩)),iO.rel (xs:=[]) trivial,λ_ an=>absurd (ah.dF _ an) (mK _),(λh=>cM),λdy=>mK _ (ah.dZ _ dy)⟩
theorem Ek(ah:Rel w S B β og st a)(aY:Out w0 bh B w S){rowsV:List (Nat×Row)}(cN:∀id x,lookup rowsV id=some x->lookup st.rows id=some x){k:Operand}{ok:Bool}{id:Nat}(aw:o.op=.lookup t x k ok)
  (hm:mapOf P rowsV t (val st.tm x)=some (bE,ey,id,im,es))(ai:cb (shOf P depth bE) (cw P st.tm bE k)=true)(jA:jb (shOf P depth bE) (shOf P depth ey) es=true)
  (ar:(dq (cw P st.tm bE k) es=true/\v=yR (shOf P depth ey) (gj (cw P st.tm bE k) es))\/(dq (cw P st.tm bE k) es=false/\∃b,zeroAt P b ey=some v))
  (aN:y {v:=if ok then .tup [v,.bool (dq (cw P st.tm bE k) es)]else v}=some r)(bg:Good w0 bh B site o st y r K):o.cX R P a w K Q:=by
 obtain⟨aQ,ak,ay,ho⟩:=UA hm
 have kJ:=eV ah.tm x
 rw[ak]at kJ
 obtain⟨g,xs,dQ,hu,bP,hh,oY,cg,_,_⟩:=UB ah (cN _ _ ay) kJ
 have jd:=iP ah.tm P bE k
 obtain⟨d,aX,nE,_⟩:=xv ho ai jd xs.isEmpty
 have tj:=UF (sv:=shOf P depth ey) aX ho ai jd es xs cg jA
 obtain⟨u,fo,bu⟩:∃u,VRel w S β v u/\(Instr.lookup t (.map (some g)) (a.eval k) ok).run P w=.ok (if ok then .tuple #[u,.bool (dq (cw P st.tm bE k) es)]else u) w:=by
  rcases ar with⟨af,rfl⟩|⟨af,bp⟩
  .obtain⟨gH,g1,g2,g3,g4,g5⟩:=tj.2 af;refine⟨gH.val,afQ g4 (g3.mono (λ_ h=>h) (λ_ _=>rfl) (λ_ _ h=>cM)),?_⟩;rw[af];simp[Instr.lookup,cA aQ,rO hh,nE,g1]
  .obtain⟨b,bp⟩:=bp;obtain⟨z,mT,El⟩:=UI (w:=w) (S:=S) (β:=β) bp;refine⟨z,El,?_⟩;rw[af];simp[Instr.lookup,cA aQ,rO hh,nE,tj.1 af,mT]
 refine fI (u:=if ok then .tuple #[u,.bool (dq (cw P st.tm bE k) es)]else u) ah aY ?_ aN bg (by simp[execOp,aw,hu,bu])
 cases ok with
 |false=>simpa using fo
 |true=>exact BO fo (.bool _ _)
def Rel.HV(ah:Rel w S B β og st a){id:Nat}{xs':List MapEntry}(dQ:og id=some g)(bP:β id=some (.map (some g),1))(hH:¬S g)(rf:¬B g)(hh:w.heap[g]?=some (.map xs.toArray xs.length))(oY:∀(i:Nat)(e:MapEntry),xs'[i]?=some e->e.born=i)
  (cg:iO w S f' xs'):Rel (w.putObj g (.map xs'.toArray xs'.length)) S B β og ⟨st.tm,setRow st.rows id (.box false [.ct f']),st.used⟩ a:=by
 have hE:=vI w g (.map xs'.toArray xs'.length)
 have hw:∀b,S b->(w.putObj g (.map xs'.toArray xs'.length)).heap[b]?=w.heap[b]?:=λb an=>hE.block b (ah.dF b an) (λe=>by cases e;exact hH an)
 refine ah.modify (id:=id) vr (World.putObj_size ..) (λfm dK=>by rw[dQ]at dK;cases dK;exact hH) ?_
 exact⟨g,_,_,dQ,bP,.inr (.inr (.inr ⟨xs',(heap_set hh).1,oY,rfl,rfl⟩)),(cg.gJ (λ_ h=>h) hw).rel,λ_=>hH,(λh=>cM),rf⟩
def zp{es:Array MapEntry}{c:Nat}(o:Obj)(ag:w.heap[g]?=some (.map es c)):(setObj g o).run P w=.ok () (w.putObj g o):=run_setObj_map o ag
def afR(ho:q8 P bE=true)(ai:cb (shOf P depth bE) k=true)(ar:VRel w S β k u){w':World}:VRel w' S' cq k u:=by
 rcases BP ho ai ar with⟨j,n,aQ,rfl,rfl⟩|⟨s,aQ,rfl,rfl⟩|⟨aC,j,n,s,aQ,cu,hh,rfl,rfl⟩
 .exact .int _ _ _
 .exact .str _ _
 .refine .agg cq _ [.int j n,.string ⟨s.toArray⟩] rfl (by simp[Value.oneCell']) λi c x aa ak=>?_
  match i with
  |0=>simp at aa ak;subst aa ak;exact .int _ _ _
  |1=>simp at aa ak;subst aa ak;exact .str _ _
  |i+2=>simp at aa
theorem Nj(ah:Rel w S B β og st a)(aY:Out w0 bh B w S){rowsV:List (Nat×Row)}(cN:∀id x,lookup rowsV id=some x->lookup st.rows id=some x){m k:Operand}{id:Nat}{da:AV}(aw:o.op=.mapUpdate t m k x)
  (hm:mapOf P rowsV t (val st.tm m)=some (bE,ey,id,false,es))(ai:cb (shOf P depth bE) (cw P st.tm bE k)=true)(uk:cB rowsV depth (cw P st.tm ey x)=some (da,ids))(Hc:ids.contains id=false)
  (jA:jb (shOf P depth bE) (shOf P depth ey) es=true)(aN:y {v:=.undef,mod:=some (id,.box false [.ct (gG (cw P st.tm bE k) da es)]),bW:=ids}=some r)(bg:Good w0 bh B site o st y r K):o.cX R P a w K Q:=by
 obtain⟨aQ,ak,ay,ho⟩:=UA hm
 have dt:∀id∈ids,∃r,lookup st.rows id=some r:=λid hid=>GP
 have rh:=oU (w:=w) (S:=S) (B:=B) (β:=β) (og:=og) (rows:=rowsV) (λid x ak=>ah.row id x (cN _ _ ak)) depth _ _ _ _ uk (iP ah.tm P ey x)
 have hF:=ah.freeze ids
 have mr:=aY.freeze ah ids dt
 have qV:id∉ids:=Hb
 have Em:lookup (il ids st.rows) id=some (.box false [.ct es]):=S8
 have kJ:=eV hF.tm m
 rw[ak]at kJ
 obtain⟨g,xs,dQ,hu,bP,hh,oY,cg,hH,rf⟩:=UB (st:=⟨st.tm,il ids st.rows,st.used⟩) hF Em kJ
 have jd:=iP hF.tm P bE k
 obtain⟨d,aX,nE,_⟩:=xv ho ai jd false
 have tj:=UF (sv:=shOf P depth ey) aX ho ai jd es xs cg jA
 have fin:∀(xs':List MapEntry),(∀(i:Nat)(e:MapEntry),xs'[i]?=some e->e.born=i)->iO w (cr S og ids) (gG (cw P st.tm bE k) da es) xs'->(execOp a.eval o).run P w=.ok .skip (w.putObj g (.map xs'.toArray xs'.length))->o.cX R P a w K Q:=λxs' cp uD bu=>by have dI:=hF.HV dQ bP (hH rfl) rf hh cp uD;have zq:=dI.congr (rows':=eI site {v:=.undef,mod:=some (id,.box false [.ct (gG (cw P st.tm bE k) da es)]),bW:=ids} st.rows) (λi=>Mb);exact wp_skip' bu (bg _ _ _ aN ⟨_,β,og,zq.put o.dst (.undef _),mr.grownBy hF.dZ (vI w g _) (λk ai=>by cases ai;exact rf)⟩)
 cases aa:dq (cw P st.tm bE k) es with
 |true=>
  obtain⟨gH,g1,g2,g3,g4,g5⟩:=tj.2 aa
  refine fin (xs.modify (pB (cw P st.tm bE k) es) λe=>{e with val:=a.eval x}) (UG oY _ _) (by simp only[gG,aa,b4];exact cg.uC rh _ jA) ?_
  have la:(Instr.keyThatStays (a.eval k) (a.eval k)).run P w=.ok (a.eval k) w:=by obtain⟨_,_,_,h⟩:=xv (P:=P) ho ai jd false;exact h
  have En:(xs.modify (pB (cw P st.tm bE k) es) λe=>{key:=a.eval k,val:=a.eval x,born:=e.born})=xs.modify (pB (cw P st.tm bE k) es) λe=>{e with val:=a.eval x}:=by have:=HU (u:=a.eval x) g2;rwa[g5]at this
  simp[execOp,aw,hu,Instr.mapUpdate,cA aQ,rO hh,nE,g1,g2,g5,la,En,zp (P:=P) _ hh]
 |false=>
  refine fin (xs++[{key:=a.eval k,val:=a.eval x,born:=xs.length}]) (UH oY _ _) (by simp only[gG,aa,cU];exact cg.push (afR ho ai jd) rh) ?_
  simp[execOp,aw,hu,Instr.mapUpdate,cA aQ,rO hh,nE,tj.1 aa,zp (P:=P) _ hh]
theorem UJ{rows:List (Nat×Row)}{x:AV}{id:Nat}(h:r3 P rows t x=some (bE,ey,id,im,es)):P.underlying t=some (.map bE ey)/\x=.own id/\lookup rows id=some (.box im [.tup es])/\q8 P bE=true/\xj (shOf P depth bE) es=true:=by unfold r3 at h;grind
abbrev pE(xs:List MapEntry):List Value:=xs.map λe=>Value.tuple #[e.key,e.val]
theorem Holds.map{vs:List Value}{v:Value}(ep:Holds w g vs v)(b6:VRels w S β [.tup es] vs)(la:xj ja es=true):
  ∃xs:List MapEntry,v=.map (some g)/\w.heap[g]?=some (.map xs.toArray xs.length)/\(∀(i:Nat)(e:MapEntry),xs[i]?=some e->e.born=i)/\VRels w S β es (pE xs):=by
 obtain⟨c,fr,dw,aa,aJ⟩:=b6.inv
 obtain rfl:=aJ.gf
 cases aa with
 |tup _ _ dL j' bp=>
  have first:∀z Nk,dL=z::Nk->∃a b,VRel w S β (.tup [a,b]) z:=λz Nk e=>by
   subst e;cases es with
   |nil=>simp at j'
   |cons e es=>have af:=ec.1 la e bb;have ao:=bp 0 e z rfl rfl;grind
  rcases ep with⟨_,_,af⟩|⟨_,key,us,d,_,_,_,_,af,_,_⟩|⟨s,pos,_,af,_⟩|⟨xs,hh,oY,af,rfl⟩
  .have:=af (.tuple dL.toArray) (by rw[dw];simp);cases this
  .exfalso;rw[af]at dw;simp only[jY,ug]at dw;have aU:=dh Array.toList dw.1;cases d<;>simp[qj]at aU<;>(obtain⟨_,_,ar⟩:=first _ _ aU.symm;cases ar)
  .exfalso;rw[af]at dw;simp only[jY,ug]at dw;have aU:=dh Array.toList dw.1;simp at aU;obtain⟨_,_,ar⟩:=first _ _ aU.symm
   cases ar
  .rw[af]at dw;simp only[jY,ug,po]at dw;have aU:=dh Array.toList dw;have bc:pE xs=dL:=by simpa[pE]using aU
   subst bc;exact⟨xs,rfl,hh,oY,j',bp⟩
theorem UK(ah:Rel w S B β og st a){id:Nat}(ay:lookup st.rows id=some (.box im [.tup es]))(la:xj ja es=true)(hu:VRel w S β (.own id) u):
  ∃(g:Nat)(xs:List MapEntry),og id=some g/\u=.map (some g)/\β id=some (.map (some g),1)/\w.heap[g]?=some (.map xs.toArray xs.length)/\(∀(i:Nat)(e:MapEntry),xs[i]?=some e->e.born=i)/\VRels w S β es (pE xs)/\(im=false->¬S g)/\¬B g:=by
 obtain⟨g,vs,v,dQ,ag,ep,b6,hi,_,dy⟩:=ah.row id _ ay
 have xq:u=v:=by
  cases hu with
  |own _ _ _ wd cp=>grind
 subst xq
 obtain⟨xs,rfl,hh,oY,cg⟩:=ep.map b6 la
 grind
theorem UL(cg:VRels w S β es (pE xs))(la:xj ja es=true){j:Nat}{e:AV}{x:MapEntry}(he:es[j]?=some e)(ak:xs[j]?=some x):∃k v,e=.tup [k,v]/\cb ja k=true/\VRel w S β k x.key/\VRel w S β v x.val:=by
 have af:=ec.1 la e (pk he);have ao:=cg.2 j e _ he (by rw[k0,ak];rfl);split at af
 .grind[Ej]
 .cases af
theorem Nl(cg:VRels w S β es (pE xs)):xs.length=es.length:=by have:=cg.1;grind
theorem HW{α:Type}(k:AV):∀(es:List AV)(f:AV->Nat->α)(z:α),(∃n e,(es.map eL).findIdx? (c9 k)=some n/\es[n]?=some e/\r2 k es f z=f (xi e) n)\/((es.map eL).findIdx? (c9 k)=none/\r2 k es f z=z)
 |[],f,z=>.inr ⟨rfl,rfl⟩
 |e::es,f,z=>by
  rw[iZ,Sv];simp only[r2];cases c9 k (eL e)with
  |true=>grind
  |false=>
   simp only[p2,A4,cU];rcases HW k es (λv n=>f v (n+1)) z with⟨n,e',af,ao,a1⟩|⟨af,ao⟩
   .grind
   grind
def UM(cg:VRels w S β es (pE xs))(la:xj ja es=true):xs.length=(es.map eL).length/\∀(j:Nat)(c:AV)(x:MapEntry),(es.map eL)[j]?=some c->xs[j]?=some x->cb ja c=true/\VRel w S β c x.key:=by refine⟨by rw[g',Nl cg],λj c x aa ak=>?_⟩;rw[k0]at aa;obtain⟨e,he,rfl⟩:=L6.1 aa;obtain⟨k,v,rfl,af,ao,_⟩:=UL cg la he ak;exact⟨af,ao⟩
def afS(ah:Rel w S B β og st a)(aY:Out w0 bh B w S)(aR:lN site st.used)(aw:o.op=.makeMap t none)(aN:y {v:=.own site,new:=some (.box false [.tup []])}=some r)(bg:Good w0 bh B site o st y r K):o.cX R P a w K Q:=by
 have ag:=r9 w (.map #[] 0);have aL:∀b,S b->b<(w.alloc (.map #[] 0)).heap.size:=λb an=>DL;have bu:(execOp a.eval o).run P w=.ok (.value (.map (some w.heap.size))) (w.alloc (.map #[] 0)):=by simp[execOp,aw,Instr.makeMap]
 refine wp_value bu (bg _ _ _ aN ⟨S,_,_,ah.new site aR o.dst ag (λ_ h=>h) (λ_ _ h=>h) aL (x:=.map (some w.heap.size)) (wd:=1) (o:=some w.heap.size) rfl
  (λg aB=>w2) ?_ (.own _ site _ _ (cV _ _ _)),aY.grow ah.dZ ag⟩)
 exact⟨w.heap.size,_,_,rfl,cV _ _ _,.inr (.inr (.inr ⟨[],World.alloc_heap_new w _,λi e he=>by simp at he,rfl,rfl⟩)),VRels.cons (.tup _ [] [] rfl λj c u aa=>y2) VRels.nil,λ_ an=>absurd (ah.dF _ an) (mK _),(λh=>cM),λdy=>mK _ (ah.dZ _ dy)⟩
theorem afT(ah:Rel w S B β og st a)(aY:Out w0 bh B w S){rowsV:List (Nat×Row)}(cN:∀id x,lookup rowsV id=some x->lookup st.rows id=some x){k:Operand}{id:Nat}{z:AV}{b:Bool}(aw:o.op=.lookup t x k false)
  (hm:r3 P rowsV t (val st.tm x)=some (bE,ey,id,im,es))(ai:cb (shOf P depth bE) (cw P st.tm bE k)=true)(bp:zeroAt P b ey=some z)
  (aN:r2 (cw P st.tm bE k) es (λv _=>y {v}) (y {v:=z})=some r)(bg:Good w0 bh B site o st y r K):o.cX R P a w K Q:=by
 obtain⟨aQ,ak,ay,ho,la⟩:=UJ hm
 have kJ:=eV ah.tm x
 rw[ak]at kJ
 obtain⟨g,xs,dQ,hu,bP,hh,oY,cg,_,_⟩:=UK ah (cN _ _ ay) la kJ
 have jd:=iP ah.tm P bE k
 obtain⟨d,aX,nE,_⟩:=xv ho ai jd xs.isEmpty
 obtain⟨mU,bq⟩:=UM cg la
 obtain⟨af,ao⟩:=Nd aX ho ai jd (es.map eL) xs mU bq
 rcases HW (cw P st.tm bE k) es (λv _=>y {v}) (y {v:=z})with⟨n,e,aJ,he,an⟩|⟨aJ,an⟩
 .rw[an]at aN;obtain⟨gH,kI,_,aD⟩:=ao n aJ;obtain⟨cl,da,rfl,_,_,jN⟩:=UL cg la he kI;exact fI (u:=gH.val) ah aY jN aN bg (by simp[execOp,aw,hu,Instr.lookup,cA aQ,rO hh,nE,aD])
 .rw[an]at aN;obtain⟨u,mT,El⟩:=UI (w:=w) (S:=S) (β:=β) bp;exact fI (u:=u) ah aY El aN bg (by simp[execOp,aw,hu,Instr.lookup,cA aQ,rO hh,nE,af aJ,mT])
def Rel.afU(ah:Rel w S B β og st a){id:Nat}{xs':List MapEntry}(dQ:og id=some g)(bP:β id=some (.map (some g),1))(hH:¬S g)(rf:¬B g)(hh:w.heap[g]?=some (.map xs.toArray xs.length))(oY:∀(i:Nat)(e:MapEntry),xs'[i]?=some e->e.born=i)
  (cg:VRels w S β f' (pE xs')):Rel (w.putObj g (.map xs'.toArray xs'.length)) S B β og ⟨st.tm,setRow st.rows id (.box false [.tup f']),st.used⟩ a:=by
 have hE:=vI w g (.map xs'.toArray xs'.length)
 have hw:∀b,S b->(w.putObj g (.map xs'.toArray xs'.length)).heap[b]?=w.heap[b]?:=λb an=>hE.block b (ah.dF b an) (λe=>by cases e;exact hH an)
 refine ah.modify (id:=id) vr (World.putObj_size ..) (λfm dK=>bM) ?_
 have uD:=cg.mono (λ_ h=>h) hw (λ_ _ h=>h)
 exact⟨g,_,_,dQ,bP,.inr (.inr (.inr ⟨xs',(heap_set hh).1,oY,rfl,rfl⟩)),VRels.cons (.tup _ f' (pE xs') uD.1 uD.2) VRels.nil,λ_=>hH,(λh=>cM),rf⟩
def afV{n:Nat}(cg:VRels w S β es (pE xs))(la:xj ja es=true)(ar:VRel w S β v u):VRels w S β (lK v es n) (pE (xs.modify n λe=>{e with val:=u})):=by
 induction es generalizing xs n with
 |nil=>have ay:=Nl cg;obtain rfl:xs=[]:=pn ay;cases n<;>exact VRels.nil
 |cons e es ih=>
  have ay:=Nl cg;cases xs with
  |nil=>simp at ay
  |cons x xs=>
   obtain⟨z,dL,aU,af,ao⟩:=cg.inv;simp only[pE,iZ,jY]at aU;obtain⟨rfl,rfl⟩:=aU;have ka:=ec.1 la e bb;have gr:xj ja es=true:=ec.2 λa cI=>ec.1 la a (oK _ cI);cases n with
   |zero=>
    split at ka
    .exact VRels.cons (BO (Ej af).1 ar) ao
    .cases ka
   |succ n=>exact VRels.cons af (ih ao gr)
theorem afW(ah:Rel w S B β og st a)(aY:Out w0 bh B w S){rowsV:List (Nat×Row)}(cN:∀id x,lookup rowsV id=some x->lookup st.rows id=some x){m k:Operand}{id:Nat}(aw:o.op=.mapUpdate t m k x)
  (hm:r3 P rowsV t (val st.tm m)=some (bE,ey,id,false,es))(ai:cb (shOf P depth bE) (cw P st.tm bE k)=true)
  (aN:r2 (cw P st.tm bE k) es (λ_ n=>y {v:=.undef,mod:=some (id,.box false [.tup (lK (cw P st.tm ey x) es n)])}) (y {v:=.undef,mod:=some (id,.box false [.tup (es++[.tup [cw P st.tm bE k,cw P st.tm ey x]])])})=some r)(bg:Good w0 bh B site o st y r K):o.cX R P a w K Q:=by
 obtain⟨aQ,ak,ay,ho,la⟩:=UJ hm
 have kJ:=eV ah.tm m
 rw[ak]at kJ
 obtain⟨g,xs,dQ,hu,bP,hh,oY,cg,hH,rf⟩:=UK ah (cN _ _ ay) la kJ
 have jd:=iP ah.tm P bE k
 have fo:=iP ah.tm P ey x
 obtain⟨d,aX,nE,fx⟩:=xv ho ai jd false
 obtain⟨mU,bq⟩:=UM cg la
 obtain⟨af,ao⟩:=Nd aX ho ai jd (es.map eL) xs mU bq
 have fin:∀(f':List AV)(xs':List MapEntry),(∀(i:Nat)(e:MapEntry),xs'[i]?=some e->e.born=i)->VRels w S β f' (pE xs')->(execOp a.eval o).run P w=.ok .skip (w.putObj g (.map xs'.toArray xs'.length))->y {v:=.undef,mod:=some (id,.box false [.tup f'])}=some r->o.cX R P a w K Q:=λf' xs' cp uD bu aN=>by have dI:=ah.afU dQ bP (hH rfl) rf hh cp uD;have hE:=vI w g (.map xs'.toArray xs'.length);exact wp_skip' bu (bg _ _ _ aN ⟨_,β,og,dI.put o.dst (.undef _),aY.grownBy ah.dZ hE (λk ai=>by cases ai;exact rf)⟩)
 rcases HW (cw P st.tm bE k) es (λ_ n=>y {v:=.undef,mod:=some (id,.box false [.tup (lK (cw P st.tm ey x) es n)])}) (y {v:=.undef,mod:=some (id,.box false [.tup (es++[.tup [cw P st.tm bE k,cw P st.tm ey x]])])})with⟨n,e,aJ,he,an⟩|⟨aJ,an⟩
 .rw[an]at aN;obtain⟨gH,g2,g5,aD⟩:=ao n aJ;refine fin _ (xs.modify n λe=>{e with val:=a.eval x}) (UG oY _ _) (afV cg la fo) ?_ aN;have En:(xs.modify n λe=>{key:=a.eval k,val:=a.eval x,born:=e.born})=xs.modify n λe=>{e with val:=a.eval x}:=by have:=HU (u:=a.eval x) g2;rwa[g5]at this
  simp[execOp,aw,hu,Instr.mapUpdate,cA aQ,rO hh,nE,aD,g2,g5,fx,En,zp (P:=P) _ hh]
 .rw[an]at aN;refine fin _ (xs++[{key:=a.eval k,val:=a.eval x,born:=xs.length}]) (UH oY _ _) ?_ ?_ aN
  .have:pE (xs++[{key:=a.eval k,val:=a.eval x,born:=xs.length}])=pE xs++[.tuple #[a.eval k,a.eval x]]:=bb;rw[this];exact cg.append (VRels.cons (BO jd fo) VRels.nil)
  .simp[execOp,aw,hu,Instr.mapUpdate,cA aQ,rO hh,nE,af aJ,zp (P:=P) _ hh]
theorem afX(ah:Rel w S B β og st a)(aY:Out w0 bh B w S){rowsV:List (Nat×Row)}(cN:∀id x,lookup rowsV id=some x->lookup st.rows id=some x){op:BinOp}{b':TypeId}{z:Operand}{id:Nat}(aw:o.op=.binOp op t x z b')(bp:vx z=true)(ak:cw P st.tm t x=.own id)
  (h:q9 P op t (lookup rowsV id) (λv=>y {v})=some r)(bg:Good w0 bh B site o st y r K):o.cX R P a w K Q:=by
 have ar:=iP ah.tm P t x
 rw[Nn bp]at aw
 have aa:a.eval (.const (.slice none 0 0))=.slice none 0 0:=rfl
 unfold q9 at h
 split at h
 .rename_i e im s e' es sp aX ay;rw[ak]at ar;generalize hu:a.eval x=u at ar;obtain⟨_,v,Eo,xs,_,_,bP,_,_,avy⟩:=ah.row id _ (cN _ _ ay);obtain⟨A,n,c,rfl,bq⟩:∃A n c,u=.slice A n c/\(es≠[]->A.isNone=false):=by
    cases ar with
    |own _ _ _ wd cp=>grind
  have heq:(Op.equal t (.slice A n c) (.slice none 0 0)).run P w=.ok A.isNone w:=run_equal_slice_nil w t e A n c aX;have aB:eqGuard op t x (.const (.slice none 0 0)) (.slice A n c) (.slice none 0 0)=pure ():=DU;split at h
  .cases jA:es with
   |nil=>rw[jA]at h;refine fI ah aY (u:=.bool A.isNone) (.jC _ _) h bg ?_;simp_all[execOp,binOp]
   |cons dw l=>have ag:=bq Hf;rw[jA]at h;refine fI ah aY (u:=.bool false) (.bool _ _) h bg ?_;simp_all[execOp,binOp]
  .cases jA:es with
   |nil=>rw[jA]at h;refine fI ah aY (u:=.bool !A.isNone) (.jC _ _) h bg ?_;simp_all[execOp,binOp]
   |cons dw l=>have ag:=bq Hf;rw[jA]at h;refine fI ah aY (u:=.bool true) (.bool _ _) h bg ?_;simp_all[execOp,binOp]
  .cases h
 .cases h
end ops
section ops
variable{R:Option Nat}{aj:Type}{P:Program}{w0 w:World}{bh S:Nat->Prop}{B:Ctx}{β:cD}{og:Nat->Option Nat}{st:bC}{a:Act}{o:Oper}{site:Nat}{y:dx->Option aj}{r:aj}
 {K:Act->World->Prop}{Q:Exit->Act->World->Prop}
theorem eb.BS{B:Nat->Prop}{id eg:Nat}{o:Option Nat}{csp':Option (List AV)}(h:eb w S B β id o (.arr im s e es dm))
  (jA:∀sp,(∀c,dm=some c->c=sp)->∃Eo,es++sp=f'++Eo/\∀c,csp'=some c->c=Eo){A:Option Addr}{n c wd:Nat}(ag:β id=some (.slice A n c,wd))(cp:bD eg=some (.slice A f'.length c,wd)):eb w S B bD eg o (.arr im s e f' csp'):=by
 obtain⟨au,v,sp,xs,dd,gh,bP,af,b6,e2⟩:=h
 obtain⟨Eo,heq,afY⟩:=jA sp gh
 rw[bP]at ag
 simp only[ej,gU]at ag
 obtain⟨rfl,rfl⟩:=ag
 refine⟨au,_,Eo,xs,by rw[<-heq];exact dd,afY,cp,af,by rw[<-heq];exact b6,?_⟩
 rcases e2 with⟨rfl,rfl,aw,qm,ar⟩|⟨g,bj,aw,ar,dy,ay,hm,hi,eC⟩
 .simp_all
 .cases ar;have tk:=dh List.length heq;grind
def afZ{B:Nat->Prop}{id:Nat}{o:Option Nat}(h:eb w S B β id o (.arr im s e es dm)):es.length<=maxLen:=SX
def UN{B:Nat->Prop}{id:Nat}{o:Option Nat}(h:eb w S B β id o (.arr false s e es dm)):∀g,o=some g->¬S g:=SX
theorem af0(ah:Rel w S B β og st a)(aY:Out w0 bh B w S){rowsV:List (Nat×Row)}(cN:∀id x,lookup rowsV id=some x->lookup st.rows id=some x)(aR:lN site st.used){b':TypeId}{z:AV}{eB:List AV}{id i:Nat}
  (aw:o.op=.call {callee:=.builtin .append,args:=args,argTypes:=ae})(h1:ae.toList=[t,b'])(ak:hz P st.tm ae.toList args.toList=[.sub id 0 i,z])(aQ:P.underlying t=some (.slice e))(bp:q5 P t b' rowsV z=some (s,eB))
  (ay:lookup rowsV id=some (.arr false s e es dm))(kC:s=shOf P depth e)(gp:l2 P e=true)(h2:i+eB.length<=es.length)
  (aN:y {v:=.own site,new:=some (.arr false s e (es.take i++eB) (dm.map λl=>es.drop (i+eB.length)++l)),del:=some id}=some r)(bg:Good w0 bh B site o st y r K):o.cX R P a w K Q:=by
 have ar:=qi ah.tm P ae.toList args.toList
 rw[ak]at ar
 obtain⟨u,us,he,hu,hI⟩:=ar.inv
 obtain⟨c2,No,rfl,BT,aJ⟩:=hI.inv
 rw[aJ.gf]at he
 have hm:=tl args _ he
 have mm:ae= #[t,b']:=Md
 obtain⟨ii,dz,hi,fJ,fR,dJ,hq,nF,hS,jO,qn⟩:=xw gp
 have eN:=ah.row id _ (cN _ _ ay)
 have avz:=afZ eN
 have kK:=UN eN
 obtain⟨lO,HX,xu,zr,r',BU,kL⟩:=Np ah cN bp BT aQ hi fJ (fR.trans (by rw[kC])) al
 obtain⟨A,c,bP,aa,di,bq⟩:=zs eN
 have pF:=Ep bP hu
 have lB:∀(x:Value)(w':World),(Builtin.append_ #[t,b'] o.type #[u,c2]).run P w=.ok x w'->(execOp a.eval o).run P w=.ok (.value x) w':=λx w' bu=>SE
 have hlen:(es.take i++eB).length=i+eB.length:=lu
 have uE:∀l,es.take i++(eB++es.drop (i+eB.length))++l=(es.take i++eB)++(es.drop (i+eB.length)++l):=λl=>bb
 by_cases ri:c=0
 .subst ri;obtain rfl:es=[]:=pn al;obtain rfl:i=0:=by simp at h2;omega
  obtain rfl:eB=[]:=by simpa using h2
  simp only[↓reduceIte,Dz]at pF;subst pF;have bu:=kL.Nq rfl A o.type;refine wp_value (lB _ _ bu) (bg _ _ _ aN ⟨S,_,_,ah.qo (id:=id) aR o.dst (rQ w _) kK (x:=.slice A 0 0) (wd:=s.width) (o':=og id) rfl (λg aB=>⟨.inl aB,ah.lt id g aB⟩)
   (eN.BS (λsp gA=>⟨sp,bb,λc' iD=>?_⟩) bP (cV _ _ _)) (.own _ site _ _ (cV _ _ _)),aY⟩)
  simp_all
 .obtain⟨g,dM,rfl,dQ⟩:=bq al;simp only[A5,jm,hd,lX,ite_self,Dz]at pF;subst pF;by_cases a7:eB=[]
  .subst a7;have bu:=kL.zero rfl g dM i c o.type (by simp at h2;omega);refine wp_value (lB _ _ bu) (bg _ _ _ aN ⟨S,_,_,ah.qo (id:=id) aR o.dst (rQ w _) kK (x:=.slice (some ⟨g,dM,none⟩) i c) (wd:=s.width) (o':=some g) rfl
    (λx ak=>GS) (by
     rw[<-dQ];refine eN.BS (λsp gA=>⟨es.drop i++sp,p7,λc' iD=>?_⟩) bP (by rw[hlen];exact cV _ _ _);cases dm with
     |none=>cases iD
     |some l=>cases iD;rw[gA l rfl];rfl) (.own _ site _ _ (cV _ _ _)),aY⟩)
  .obtain⟨fm,UO,xs,c',avA,HY,fj,j1,iD,hh,jL,jP,rV⟩:=Nr ah.dF eN (lo:=i) (ds:=eB) HX xu zr h2 a7;rw[bP]at j1;simp only[ej,gU,vn,po,true_and,DH]at j1;obtain⟨⟨rfl,rfl⟩,rfl⟩:=j1;have sa:ii.size=s.width:=fR.trans (by rw[kC]);have bu:=kL.room (Be.2 a7) g dM i c xs.toArray _ o.type hh al (by rw[sa,A3];exact jL);rw[sa]at bu;have hE:=uF w g (xs.take (dM+i*s.width)++lO++xs.drop (dM+i*s.width+lO.length)).toArray;refine wp_value (lB _ _ bu) (bg _ _ _ aN ⟨S,_,_,ah.qo (id:=id) aR o.dst vr kK (x:=.slice (some ⟨g,dM,none⟩) (i+eB.length) c) (wd:=s.width) (o':=some g) rfl
    (λx ak=>SL) (by
     rw[<-dQ];refine rV.BS (λsp gA=>⟨es.drop (i+eB.length)++sp,uE sp,λc' iD=>?_⟩) bP (by rw[hlen];exact cV _ _ _);cases dm with
     |none=>cases iD
     |some l=>cases iD;rw[gA l rfl]) (.own _ site _ _ (cV _ _ _)),aY.grownBy ah.dZ hE (λk ai=>DP)⟩)
theorem af1(ah:Rel w S B β og st a)(aY:Out w0 bh B w S){rowsV:List (Nat×Row)}(cN:∀id x,lookup rowsV id=some x->lookup st.rows id=some x){e':TypeId}{id lo len:Nat}{l:List AV}
  (aw:o.op=.call {callee:=.builtin .clear,args:=args,argTypes:=ae})(h1:ae.toList=[t])(ak:hz P st.tm ae.toList args.toList=[.sub id lo len])(aQ:P.underlying t=some (.slice e))(ay:lookup rowsV id=some (.arr false s e' es (some l)))(kC:s=shOf P depth e)(gp:l2 P e=true)(l8:es.length<=lo)(hle:lo+len<=es.length+l.length)
  (aN:y {v:=.undef,mod:=some (id,.arr false s e' es none)}=some r)(bg:Good w0 bh B site o st y r K):o.cX R P a w K Q:=by
 have ar:=qi ah.tm P ae.toList args.toList
 rw[ak]at ar
 obtain⟨u,us,he,hu,aJ⟩:=ar.inv
 rw[aJ.gf]at he
 have hm:=tl args _ he
 have mm:ae= #[t]:=Md
 obtain⟨i,dz,hi,fJ,fR,dJ,hq,nF,hS,jO,qn⟩:=xw gp
 have eN:=ah.row id _ (cN _ _ ay)
 obtain⟨A,c,bP,aa,di,bq⟩:=zs eN
 have di:=di l rfl
 have pF:=Ep bP hu
 have lB:∀(x:Value)(w':World),(Builtin.clear_ #[t] o.type #[u]).run P w=.ok x w'->(execOp a.eval o).run P w=.ok (.value x) w':=λx w' bu=>L'
 by_cases a7:len=0
 .subst a7;have bu:(Builtin.clear_ #[t] o.type #[u]).run P w=.ok undef w:=by rw[pF];generalize(if c=lo then A else A.map (·.add (lo*s.width)))=qm;cases qm<;>simp[Builtin.clear_,cA aQ]<;>rfl
  have dI:=ah.modify (id:=id) (w':=w) (rQ w _) rfl (UN eN) (eN.BS (csp':=none) (λsp _=>⟨sp,rfl,λc aa=>by cases aa⟩) bP bP);exact TB
 .obtain⟨dV,z2,z3⟩:=HZ hi fJ hq dJ jO qn w S cq len;rw[<-kC]at dV;have bO:List.replicate len (lI P e)≠[]:=by intro h;have:=dh List.length h;simp at this;exact a7 this
  have af2:eb w S B (fK β id (some (.slice A (es++l).length c,s.width))) id (og id) (.arr false s e' (es++l) none):=eN.BS (λsp gA=>⟨[],by rw[gA l rfl,jy],λc aa=>by cases aa⟩) bP (cV _ _ _);obtain⟨g,dM,xs,c',dQ,HY,fj,j1,iD,hh,jL,jP,rV⟩:=Nr ah.dF af2 (lo:=lo) (ds:=List.replicate len (lI P e)) (λx ak=>Ta) z2 z3 (by simpa using hle) bO;rw[cV]at j1;simp only[ej,gU,vn,po,true_and]at j1;obtain⟨rfl,rfl⟩:=j1;rw[yL]at rV;have hE:=uF w g (xs.take (dM+lo*s.width)++(Builtin.zeroCells dz.cells len).toList++xs.drop (dM+lo*s.width+(Builtin.zeroCells dz.cells len).toList.length)).toArray;have af3:eb (w.setRow g (xs.take (dM+lo*s.width)++(Builtin.zeroCells dz.cells len).toList++xs.drop (dM+lo*s.width+(Builtin.zeroCells dz.cells len).toList.length)).toArray) S B β id (og id) (.arr false s e' es none):=by refine rV.BS (λsp _=>⟨l.take (lo-es.length)++(List.replicate len (lI P e)++(es++l).drop (lo+len))++sp,?_,λc aa=>by cases aa⟩) (cV _ _ _) bP;rw[List.take_append,nn l8];simp
  have dI:=ah.modify (id:=id) vr (by simp[World.setRow]) (λfm dK=>by rw[dQ]at dK;cases dK;exact HY) af3;have fx:=hh.H0 (P:=P) (dM+lo*s.width) (Builtin.zeroCells dz.cells len).toList 0 SS z3;simp only[lX]at fx;have bu:(Builtin.clear_ #[t] o.type #[u]).run P w=.ok undef (w.setRow g (xs.take (dM+lo*s.width)++(Builtin.zeroCells dz.cells len).toList++xs.drop (dM+lo*s.width+(Builtin.zeroCells dz.cells len).toList.length)).toArray):=by rw[pF,c0 al];simp only[jm,hd];obtain⟨len,rfl⟩:=LX a7;simp only[Builtin.clear_,LY,sY,iL,cA aQ,jX,zeroValue,typeInfo,vk,hi,fJ,lW,fx];rfl
  exact Tn
def af4(ah:VRels w S β st.tm a.tmps.toList)(ay:k4 (lo.map (val st.tm))=true)(hh:k4 (hi.map (val st.tm))=true)(len cap:Nat)
  (h:slb (cP (lo.map (val st.tm)) 0) (cP (hi.map (val st.tm)) len) cap=true):
  (Instr.sliceBounds true len cap (lo.map a.eval) (hi.map a.eval) none).run P w=.ok ((cP (lo.map (val st.tm)) 0).toNat,(cP (hi.map (val st.tm)) len).toNat,cap) w:=by
 simp only[slb,ba,fD]at h
 obtain⟨a7,af,ao⟩:=h
 rcases vJ ah ay 0 with⟨rfl,dw⟩|⟨z,k,rfl,dw⟩<;>rcases vJ ah hh len with⟨rfl,aU⟩|⟨pG,cl,rfl,aU⟩
 .simp[Instr.sliceBounds,cP]
 .exact T1
 .exact T1
 .generalize cP (Option.map (val st.tm) (some z)) 0=n at*;generalize cP (Option.map (val st.tm) (some pG)) len=k' at*;have ag:=λc=>run_sliceBound (P:=P) (w:=w) (k:=cl) (n:=k') (m:=cap) c al al;have cp:=λc=>run_sliceBound (P:=P) (w:=w) (k:=k) (n:=n) (m:=k'.toNat) c al al;simp[Instr.sliceBounds,dw,aU,ag,cp]
def BV(ah:VRels w S β st.tm a.tmps.toList){mx:Operand}{k:IntKind}{ny:Int}(ay:k4 (lo.map (val st.tm))=true)(hh:k4 (hi.map (val st.tm))=true)(je:a.eval mx=.int k ny)(len cap:Nat)(xx:len<=cap)
  (h:slb (cP (lo.map (val st.tm)) 0) (cP (hi.map (val st.tm)) len) len=true)(a1:cP (hi.map (val st.tm)) len<=ny)(ca:ny<=(len:Int))(an:hi.isSome=true):
  (Instr.sliceBounds true len cap (lo.map a.eval) (hi.map a.eval) (some (a.eval mx))).run P w=.ok ((cP (lo.map (val st.tm)) 0).toNat,(cP (hi.map (val st.tm)) len).toNat,ny.toNat) w:=by
 simp only[slb,ba,fD]at h
 obtain⟨a7,af,ao⟩:=h
 rw[je]
 have w9:=λc=>run_sliceBound (P:=P) (w:=w) (k:=k) (n:=ny) (m:=cap) c al al
 rcases vJ ah ay 0 with⟨rfl,dw⟩|⟨z,k,rfl,dw⟩<;>rcases vJ ah hh len with⟨rfl,aU⟩|⟨pG,cl,rfl,aU⟩
 .cases an
 .generalize cP (Option.map (val st.tm) (some pG)) len=n at*;rw[dw]at af⊢;have ag:=λc=>run_sliceBound (P:=P) (w:=w) (k:=cl) (n:=n) (m:=ny.toNat) c al al;simp[Instr.sliceBounds,aU,ag,w9]
 .cases an
 .generalize cP (Option.map (val st.tm) (some z)) 0=n at*;generalize cP (Option.map (val st.tm) (some pG)) len=k' at*;have ag:=λc=>run_sliceBound (P:=P) (w:=w) (k:=cl) (n:=k') (m:=ny.toNat) c al al;have cp:=λc=>run_sliceBound (P:=P) (w:=w) (k:=k) (n:=n) (m:=k'.toNat) c al al;simp[Instr.sliceBounds,dw,aU,ag,cp,w9]
theorem af5(ah:Rel w S B β og st a)(aY:Out w0 bh B w S){rowsV:List (Nat×Row)}(cN:∀id x,lookup rowsV id=some x->lookup st.rows id=some x)(j6:∀e,y e=some r->gX site e st.used=true){b:Builtin}
  (aw:o.op=.call {callee:=.builtin b,args:=args,argTypes:=ae})(h:ur P site b ae.toList (hz P st.tm ae.toList args.toList) rowsV y=some r)(bg:Good w0 bh B site o st y r K):o.cX R P a w K Q:=by
 unfold ur at h
 split at h
 .rename_i t b' id i z h1 ak;split at h
  .rename_i e aQ;rw[Bv]at h;split at h
   .cases h
   .rename_i s2 eB bp;split at h
    .rename_i s e' es dm ay;split at h
     .rename_i aa;simp only[ba]at aa;obtain⟨b2,bX,c3,mu⟩:=aa;obtain rfl:=Sh.beq_eq _ _ b2;obtain rfl:e=e':=by simpa using c3
      have aR:=h;obtain⟨ag,aN⟩:=e7 h;exact af0 ah aY cN (r8 rfl (j6 _ aN)) aw h1 ak aQ bp ay (Sh.beq_eq _ _ bX) mu (bH ag) aN bg
     .cases h
    .cases h
  .cases h
 .rename_i t id lo len h1 ak;split at h
  .rename_i e aQ;split at h
   .rename_i s e' es l ay;split at h
    .rename_i aa;simp only[ba]at aa;obtain⟨ag,aN⟩:=e7 h;simp only[ba,fD]at ag;grind[af1,Sh.beq_eq]
    .cases h
   .cases h
  .cases h
 .cases h
theorem af6(ah:Rel w S B β og st a)(aY:Out w0 bh B w S){rowsV:List (Nat×Row)}(cN:∀id x,lookup rowsV id=some x->lookup st.rows id=some x){mx:Option Operand}(aw:o.op=.slice t x lo hi mx)(aQ:P.underlying t=some (.slice e))
  (l8:k4 (lo.map (val st.tm))=true)(hh:k4 (hi.map (val st.tm))=true)(h:te P e (val st.tm x) (lo.map (val st.tm)) (hi.map (val st.tm)) (mx.map (val st.tm)) rowsV y=some r)(bg:Good w0 bh B site o st y r K):o.cX R P a w K Q:=by
 have hu:=eV ah.tm x
 unfold te at h
 split at h
 .rename_i id ak;rw[ak]at hu;split at h
  .rename_i im s e' es dm ay;have eN:=ah.row id _ (cN _ _ ay);obtain⟨A,c,bP,aa,di,bq⟩:=zs eN;have he:=H2 bP hu;split at h
   .cases h
   .rename_i an;have tn:k5 P e s=true:=DR;obtain⟨i,eC,fR⟩:=tp tn;split at h
    .rename_i k ny a7 hm xy;obtain⟨ag,aN⟩:=e7 h;simp only[ba,fD]at ag;obtain⟨eO,eW,kq⟩:=ag;cases mx with
     |none=>cases hm
     |some m=>
      simp only[jm,ej]at hm;have rj:=eV ah.tm m;rw[hm]at rj;cases hi with
      |none=>cases xy
      |some h'=>
       have gx:=BV (P:=P) (w:=w) ah.tm l8 hh rj.eT es.length c aa eO eW kq rfl;obtain⟨u,bu⟩:∃u,(execOp a.eval o).run P w=.ok (.value u) w:=by simp_all[Option.map,cP,val,execOp,Instr.sliceAt,iL,cA,jX,Instr.slice,sizeOf,typeInfo]
       exact fI ah aY (u:=u) (.J _ _) aN bg bu
    .cases h
    .split at h
     .rename_i hm _ l;have je:mx=none:=by
        cases mx with
        |none=>rfl
        |some m=>cases hm
      subst je;obtain⟨ag,aN⟩:=e7 h;have di:=di l rfl;rw[<-di]at ag;refine fI ah aY (.sub _ id _ _ A es.length c s.width bP) aN bg ?_;have gx:=af4 (P:=P) (w:=w) ah.tm l8 hh es.length c ag;simp[execOp,aw,he,Instr.sliceAt,cA aQ,Instr.slice,gx,sizeOf,typeInfo,eC,fR]
     .cases h
  .cases h
 .cases h
end ops
end Go.Ev
