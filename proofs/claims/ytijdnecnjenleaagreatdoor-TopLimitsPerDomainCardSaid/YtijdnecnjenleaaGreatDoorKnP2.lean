/-
  Calls of the closed run, one by one: part 3. (Printed by gen_pins.py.)
-/
import Derived.Test.YtijdnecnjenleaaGreatDoorMiK
set_option linter.all false
namespace Go.Mi
open Go.RowKit
open Go.Ev (AV Sh Summ Env Ex find entersB hasBody nilB VRel VRels Kept Glb Goes SumOK markD exOf semAt_of wp_value wp_skip')
variable{h:List (Nat×bT)}{tm:List a8}{h':List (Nat×bT)}{nx:Nat}{o:Oper}{args:List a8}{nid:Nat}{e:jG}{g:Nat}{v:a8}{w:World}{Q:Exit->Act->World->Prop}{ax:du}{a:Act}{B:Nat->Prop}{w0:World}{df:List Deferred}{st:dG}{i:Nat}{u:Value}{K:Act->World->Prop}{q:List a8×List Nat}{aC:List kf}{vs:List Value}{aD:List (Nat×bT)}
def keys(h:List (Nat×bT)):List Nat:=h.map (·.1)
theorem Fb(a b:Nat):Nat.beq a b=decide (a=b):=by grind[Nat.beq_refl,Nat.eq_of_beq_eq_true]
theorem aje(a:Nat×bT)(h:List (Nat×bT))(id:Nat):jH (a::h) id=if a.1=id then h else a::jH h id:=by simp_all[jH,Fb,dE,aS,c0,cZ]
theorem zV{id:Nat}(aJ:id∉keys h):get h id=none:=by
 induction h with
 |nil=>rfl
 |cons a h ih=>simp only[keys,iZ,gv,not_or]at aJ;rw[l9,c0 (λe=>aJ.1 e.symm)];exact ih aJ.2
theorem O1{id:Nat}(ai:id∈keys h):∃o,get h id=some o:=by
 induction h with
 |nil=>simp[keys]at ai
 |cons a h ih=>
  rw[l9];by_cases e:a.1=id
  .simp_all
  .rw[c0 e];grind[keys]
theorem Cg:∀{h:List (Nat×bT)}(id:Nat),(keys h).Nodup->(∀i,get (jH h id) i=if i=id then none else get h i)/\(keys (jH h id)).Nodup/\∀x∈keys (jH h id),x∈keys h/\x≠id
 |[],id,_=>⟨λi=>by simp[jH,get_nil],by simp[jH,keys],λx ak=>by simp[jH,keys]at ak⟩
 |a::h,id,aJ=>by
  have j3:a.1∉keys h/\(keys h).Nodup:=Mq;rw[aje];by_cases e:a.1=id
  .rw[dE e];grind[keys,l9,zV]
  .rw[c0 e];obtain⟨af,ao,a1⟩:=Cg (h:=h) id j3.2;grind[l9,keys]
theorem Fc{aj:Type}{nid:Nat}{k:List (Nat×bT)->Option aj}{r:aj}:∀(dv:List (Nat×Option bT))(de:Bool)(h:List (Nat×bT)),xT nid de dv h k=some r->(keys h).Nodup->(de=true->nid∉keys h)->
  ∃h',k h'=some r/\(∀i,get h' i=get (dv.foldl hV h) i)/\(keys h').Nodup
 |[],_,h,ai,aJ,_=>⟨h,ai,λ_=>rfl,aJ⟩
 |(id,x)::rest,de,h,ai,aJ,aR=>by
  have congr:∀(l:List (Nat×Option bT))(af ao:List (Nat×bT)),(∀i,get af i=get ao i)->∀i,get (l.foldl hV af) i=get (l.foldl hV ao) i:=by
   intro l;induction l with
   |nil=>exactλ_ _ h=>h
   |cons p l ih=>grind[lD]
  unfold xT at ai;cases aa:(de&&Nat.beq id nid)with
  |true=>
   simp only[aa,b4]at ai;simp only[ba]at aa;have e:id=nid:=cH aa.2;cases x with
   |none=>cases ai
   |some o=>simp only at ai;rw[<-e]at ai;obtain⟨h',af,ao,a1⟩:=Fc rest false ((id,o)::h) ai w3 (λh=>cM);grind[lD,l9]
  |false=>
   simp only[aa,cU]at ai;obtain⟨d1,d2,d3⟩:=Cg id aJ;cases x with
   |none=>obtain⟨h',af,ao,a1⟩:=Fc rest de (jH h id) ai d2 (λh ak=>aR h (d3 _ ak).1);grind[lD]
   |some o=>have bO:de=true->id≠nid:=λh e=>p7;obtain⟨h',af,ao,a1⟩:=Fc rest de ((id,o)::jH h id) ai w3 (λh ak=>w3);grind[lD,l9]
section mem
variable{P:Program}{B:Nat->Prop}{w0 w:World}{df:List Deferred}{ax:du}{st:dG}{a:Act}
def ajf:Act:={tmps:= #[],defers:=[]}
def Mem(B:Nat->Prop)(w0 w:World)(ax:du)(h:List (Nat×bT))(nx:Nat):Prop:=bU B w0 w [] ax ⟨[],h,nx⟩ ajf
def bU.mem(h:bU B w0 w df ax st a):Mem B w0 w ax st.h st.nx:=⟨ck.nil,rfl,h.obj,h.inj,h.lt,h.nx,h.kept,h.ble,h.js⟩
def Mem.act(hm:Mem B w0 w ax h nx)(aQ:ck ax tm a.tmps.toList)(aX:a.defers=df):bU B w0 w df ax ⟨tm,h,nx⟩ a:=⟨aQ,aX,hm.obj,hm.inj,hm.lt,hm.nx,hm.kept,hm.ble,hm.js⟩
def Hr(h:ck ax tm a.tmps.toList)(d:Option Tmp)(ar:cT ax v u):ck ax (l' tm d v) (a.put d u).tmps.toList:=by
 rw[Go.Ev.Act.UT];cases d with
 |none=>exact h
 |some n=>exact h.set n ar
def bU.I5(h:bU B w0 w df ax st a)(d:Option Tmp)(ar:cT ax v u)(hh:∀i,get h' i=get st.h i):bU B w0 w df ax ⟨l' st.tm d v,h',st.nx⟩ (a.put d u):=
 let ao:=h.look hh
 ⟨Hr h.tm d ar,by rw[Go.Ev.Act.put_defers];exact h.df,ao.obj,ao.inj,ao.lt,ao.nx,ao.kept,ao.ble,ao.js⟩
end mem
def zW{P:Program}{f:FuncId}{args:Array Value}{R xQ:Ending->World->Prop}(h:Goes P f args w R)(ah:∀e w',R e w'->xQ e w'):Goes P f args w xQ:=by
 rcases h with⟨ag,h⟩|⟨ag,u,w',af,ao⟩
 .exact .inl ⟨ag,h.mono ah⟩
 .exact .inr ⟨ag,u,w',af,ah _ _ ao⟩
def kg(P:Program)(call:h6):Prop:=
 ∀(aj:Type)(g:Nat)(args:List a8)(h:List (Nat×bT))(nx:Nat)(k:a8->List (Nat×bT)->Nat->Option aj)(r:aj)(B:Nat->Prop)(w0 w:World)(ax:du)(vs:List Value),call aj g args h nx k=some r->Mem B w0 w ax h nx->(keys h).Nodup->ck ax args vs->
  Goes P g vs.toArray w λe w'=>∃u v cv h' fN,e=.returned u/\k v h' fN=some r/\Ext ax cv/\(∀id,id<nx->cv id=ax id)/\nx<=fN/\cT cv v u/\Mem B w0 w' cv h' fN/\(keys h').Nodup
def zX(P:Program)(round:tC):Prop:=
 ∀(l:Nat)(c:Code)(aj:Type)(st:dG)(k:Ex->dG->Option aj)(r:aj)(B:Nat->Prop)(w0 w:World)(df:List Deferred)(ax:du)(a:Act)(Q:Exit->Act->World->Prop),lx c=true->round aj c st k=some r->bU B w0 w df ax st a->(keys st.h).Nodup->
  (∀e bB cL w' cv,k e bB=some r->Ext ax cv->(∀id,id<st.nx->cv id=ax id)->st.nx<=bB.nx->bU B w0 w' df cv bB cL->(keys bB.h).Nodup->Q (exOf e) cL w')->c.cX (some l) P Q a w
section step
variable{R:Option Nat}{aj:Type}{P:Program}{aq:Env}{call:h6}{round:tC}{B:Nat->Prop}{w0 w:World}{df:List Deferred}{ax:du}{st:dG}{a:Act}{o:Oper}{nid:Nat}{k:dG->Option aj}{r:aj}
def ajg(dS:ez P B w0 w df ax st a o nid e)(aJ:(keys st.h).Nodup)(aR:nid∉keys st.h)
  (ai:(xT nid true e.dv st.h λh=>k ⟨l' st.tm o.dst e.v,h,st.nx⟩)=some r)
  (bg:∀bB cL w' cv,k bB=some r->Ext ax cv->(∀id,id≠nid->cv id=ax id)->bB.nx=st.nx->bU B w0 w' df cv bB cL->(keys bB.h).Nodup->K cL w'):o.cX R P a w K Q:=by
 obtain⟨u,w',cv,aD,he,aw,ar,dI⟩:=dS
 obtain⟨h',af,ao,a1⟩:=Fc e.dv true st.h ai aJ (λ_=>aR)
 have sg:=bg _ (a.put o.dst u) w' cv af he aw rfl (dI.I5 o.dst ar ao) a1
 rcases aD with aD|⟨aD,rfl⟩
 .exact wp_value aD sg
 .exact wp_skip' aD sg
def Live(ax:du)(h:List (Nat×bT))(b:Nat):Prop:=∃id o p,get h id=some o/\ax id=some p/\p.g=b
theorem WR(ah:bU B w0 w df ax st a){id off len cap wd:Nat}(h:cT ax (.bA id off len cap wd) u)(aH:tD st.h 1 (.bA id off len cap wd)=some q){s:Sh}
  (an:∀c∈q.1,c.h3.cells=[c.h3]/\Go.Ev.cb s c.h3=true/\Go.Ev.fE s c.h3=true):VRel w (Live ax st.h) Go.Ev.cq (.ab s (a8.aA q.1)) u:=by
 have ma:=aH
 obtain⟨A,n,c,ad,xs,hu,bq,gz,af,o0,hlen,hm⟩:=O2 ah aH h
 unfold tD at ma
 simp only at ma
 split at ma
 .rename_i o7;have tE:1=wd:=cH o7;subst tE;split at ma
  .rename_i cs gh;obtain⟨fV,aB⟩:=O3 gh;cases h with
   |bA _ _ _ _ _ p o' cap' au ay aa v' aw dd bp hw=>
    cases hu;have pL:q.1.length=len:=by rw[hlen];simp
    have WS:(a8.aA q.1).length=len:=by rw[He,pL]
    have wW:∀c∈a8.aA q.1,Go.Ev.cb s c=true/\Go.Ev.fE s c=true:=λc aa=>by grind[List.getElem?_of_mem,Ch]
    have fU:Go.Ev.flat (a8.aA q.1)=a8.aA q.1:=Go.Ev.NO (s:=s) λc aa=>(wW c aa).2;have I6:=gz.aA w (Live ax st.h) Go.Ev.cq;have:=VRel.ab (w:=w) (S:=Live ax st.h) Go.Ev.cq s (a8.aA q.1) (some ⟨p.g,o',none⟩) _ ad xs (λc aa=>(wW c aa).1) al v' (λbO=>?_) (by rw[fU];exact I6.1) af o0 (by rw[fU];exact I6.2)
    .grind
    .have dJ:0<len:=bM;refine⟨bq dJ,id,_,p,aB,au,?_⟩;grind
  .cases ma
 .cases ma
def ajh(ah:bU B w0 w df ax st a){m:a8}(h:cT ax m u):VRel w (Live ax st.h) Go.Ev.cq (O4 st.h m) u:=by
 unfold O4;split
 .rw[h.zY];exact .bf _ _ _
 .rename_i id off len cap wd;split
  .rename_i q aH;split
   .rename_i cn;refine WR ah h aH λc aa=>?_;have:=ec.1 cn c aa;split at this
    .exact⟨rfl,rfl,rfl⟩
    .cases this
   .split
    .rename_i cn;refine WR ah h aH λc aa=>?_;have:=ec.1 cn c aa;split at this
     .exact⟨rfl,rfl,rfl⟩
     .cases this
    .exact .J _ _
  .exact .J _ _
 .exact h.h3 _ _ _
def WT(ah:bU B w0 w df ax st a):∀{ms:List a8}{us:List Value},ck ax ms us->VRels w (Live ax st.h) Go.Ev.cq (O5 st.h ms) us
 |[],us,h=>G1
 |m::ms,us,h=>by obtain⟨u,lb,rfl,hu,an⟩:=h.inv;exact VRels.cons (ajh ah hu) (WT ah an)
def WU(bR:∀g F,find aq g=some F->SumOK P g F)(e8:kg P call){k:a8->List (Nat×bT)->Nat->Option aj}(ai:I7 P aq call g args h nx k=some r)(hm:Mem B w0 w ax h nx)(aJ:(keys h).Nodup)(ar:ck ax args vs):
  entersB P g=true/\Goes P g vs.toArray w λe w'=>∃u v cv h' fN,e=.returned u/\k v h' fN=some r/\Ext ax cv/\(∀id,id<nx->cv id=ax id)/\nx<=fN/\cT cv v u/\Mem B w0 w' cv h' fN/\(keys h').Nodup:=by
 unfold I7 at ai
 split at ai
 .rename_i gE;refine⟨gE,?_⟩;split at ai
  .rename_i F hF;have B1:∀b,Live ax h b->b<w.heap.size:=λb⟨id,o,p,_,au,ag⟩=>by rw[<-ag];exact hm.lt id p au
   have iG:Glb (λb=>b<w.heap.size) w:=Glb.mono (B:=B) (λw' hp=>hm.js w' (hm.kept.trans hp)) hm.ble;have rT:=bR g F hF aj w (Live ax h) _ _ _ r ⟨B1,iG⟩ (WT (st:=⟨[],h,nx⟩) hm ar) ai;refine zW rT λe w' au=>?_;obtain⟨u,v,S',rfl,jd,ag,_,_,kc⟩:=au;split at jd
   .rename_i m rj;refine⟨u,m,ax,h,nx,rfl,jd,Ext.refl _,λ_ _=>rfl,dc _,O6 kc rj,?_,aJ⟩;exact⟨hm.tm,hm.df,λi x ak=>let⟨q,aH,aw,aB⟩:=hm.obj i x ak;⟨q,aH,aw.gJ (Ext.refl _) (ag.block _ (hm.lt i q aH)),aB⟩,hm.inj,λi q aH=>jK (hm.lt i q aH) ag.size,hm.nx,hm.kept.trans (Kept.xz ag hm.ble),λb h=>jK (hm.ble b h) ag.size,hm.js⟩
   .cases jd
  .exact e8 aj g args h nx k r B w0 w ax vs ai hm aJ ar
 .cases ai
def Fe(h aD rest:List (Nat×bT)):Prop:=(keys aD).Nodup/\(keys rest).Nodup/\(∀x∈keys aD,x∉keys rest)/\(∀i,get h i=match get aD i with|some o=>some o|none=>get rest i)
theorem O7{id:Nat}{o:bT}(aB:get h id=some o):id∈keys h:=by
 rcases Classical.em (id∈keys h)with af|af
 .exact af
 grind[zV]
theorem I8{h:List (Nat×bT)}{k:List (Nat×bT)->List (Nat×bT)->Option aj}{r:aj}:∀(n:Nat)(ws:List Nat)(aD rest:List (Nat×bT)),xU n ws aD rest k=some r->Fe h aD rest->∃tr Bw,k tr Bw=some r/\Fe h tr Bw/\∀x∈keys aD,x∈keys tr
 |0,_,aD,rest,ai,an=>⟨aD,rest,ai,an,λ_ h=>h⟩
 |_+1,[],aD,rest,ai,an=>⟨aD,rest,ai,an,λ_ h=>h⟩
 |n+1,id::ws,aD,rest,ai,an=>by
  obtain⟨s1,s2,vY,xR⟩:=an;simp only[xU]at ai;obtain⟨d1,d2,d3⟩:=Cg id s2;cases aB:get rest id with
  |none=>rw[aB]at ai;refine I8 n ws aD (jH rest id) ai ⟨s1,d2,λx ak ao=>vY x ak (d3 x ao).1,λi=>?_⟩;grind
  |some o=>rw[aB]at ai;have hid:id∈keys rest:=O7 aB;have O8:id∉keys aD:=λh=>vY id h hid;obtain⟨tr,Bw,af,ao,a1⟩:=I8 n (Ff o ws) ((id,o)::aD) (jH rest id) ai ⟨w3,d2,λx ak ao=>w3,λi=>by rw[xR i,l9,d1 i];grind[zV]⟩;grind[keys]
theorem get_append(h h':List (Nat×bT))(i:Nat):get (h++h') i=match get h i with|some o=>some o|none=>get h' i:=by
 induction h with
 |nil=>rfl
 |cons a h ih=>grind[l9]
def Part(h h':List (Nat×bT)):Prop:=(keys h').Nodup/\∀i o,get h' i=some o->get h i=some o
theorem WV{nx:Nat}:∀(h:List (Nat×bT))(k:List (Nat×bT)->List (Nat×bT)->Option aj),(keys h).Nodup->∃x y,I9 nx h k=k x y/\Fe h x y/\(∀i∈keys x,i∈keys h)/\∀i∈keys y,i∈keys h
 |[],k,_=>⟨[],[],rfl,⟨yZ,yZ,λx ak=>by simp[keys]at ak,λi=>rfl⟩,λi h=>by simp[keys]at h,λi h=>by simp[keys]at h⟩
 |a::h,k,aJ=>by
  have j3:a.1∉keys h/\(keys h).Nodup:=Mq;have e:I9 nx (a::h) k=I9 nx h λx y=>bif Nat.blt a.1 nx then k (a::x) y else k x (a::y):=rfl;obtain⟨x,y,af,⟨s1,s2,vY,xR⟩,ao,a1⟩:=WV h (λx y=>bif Nat.blt a.1 nx then k (a::x) y else k x (a::y)) j3.2;have ak:a.1∉keys x:=λh=>j3.1 (ao _ h);have aN:a.1∉keys y:=λh=>j3.1 (a1 _ h);rw[e,af];cases Nat.blt a.1 nx with
  |true=>
   refine⟨a::x,y,rfl,⟨w3,s2,λi hi=>?_,λi=>?_⟩,λi hi=>?_,λi hi=>?_⟩
   .grind[keys]
   .grind[l9]
   .grind[keys]
   grind[keys]
  |false=>
   refine⟨x,a::y,rfl,⟨s1,w3,λi hi ca=>?_,λi=>?_⟩,λi hi=>?_,λi hi=>?_⟩
   .grind[keys]
   .rw[l9,l9,xR i];by_cases e:a.1=i
    .simp_all[zV]
    .rw[c0 e,c0 e]
   .grind[keys]
   grind[keys]
def Fe.left{rest:List (Nat×bT)}(an:Fe h aD rest):Part h aD:=⟨an.1,λi o aw=>by rw[an.2.2.2 i,aw]⟩
def aji{k:List (Nat×bT)->Option aj}{r:aj}(ai:O9 nx v h k=some r)(aJ:(keys h).Nodup):∃h',k h'=some r/\Part h h':=by
 unfold O9 at ai;obtain⟨x,y,af,ao,_,_⟩:=WV (nx:=nx) h (λld new=>match new with
  |[]=>k ld
  |a::l=>xU 3000 (Ci v (O' ld [])) ld (a::l) λh' _=>k h') aJ
 have ai:(λld new=>match new with
  |[]=>k ld
  |a::l=>xU 3000 (Ci v (O' ld [])) ld (a::l) λh' _=>k h') x y=some r:=af.symm.trans ai
 cases y with
 |nil=>exact⟨x,ai,ao.left⟩
 |cons a l=>obtain⟨tr,Bw,a1,ca,_⟩:=I8 (h:=h) 3000 _ _ _ ai ao;exact⟨tr,a1,ca.left⟩
theorem ajj(e8:kg P call):kg P (Pa call):=by
 intro aj g args h nx k r B w0 w ax vs ai hm aJ ar;unfold Pa at ai;obtain⟨aD,rest,ka,⟨s1,s2,vY,xR⟩,_⟩:=I8 (h:=h) 3000 _ _ _ ai ⟨yZ,aJ,λx ak=>by simp[keys]at ak,λi=>rfl⟩;have wa:∀i o,get aD i=some o->get h i=some o:=λi o aw=>by rw[xR i,aw]
 have Cj:∀i o,get rest i=some o->get h i=some o:=λi o aw=>by grind[zV]
 let j5:Nat->Prop:=λb=>B b\/∃i o p,get rest i=some o/\ax i=some p/\p.g=b
 have r6:∀b,B b->j5 b:=λb h=>.inl h;have nJ:Mem j5 w w ax aD nx:=⟨ck.nil,rfl,λid o aw=>by
  obtain⟨p,au,hb,ag⟩:=hm.obj id o (wa id o aw);refine⟨p,au,hb,λdy=>?_⟩;rcases dy with dy|⟨i,o',fk,hi,hJ,aB⟩
  .exact ag dy
  .have:=hm.inj id i o o' p fk (wa id o aw) (Cj i o' hi) au hJ aB.symm;subst this;exact vY id (O7 aw) (O7 hi),λid eg o o' p fk aw hb=>hm.inj id eg o o' p fk (wa id o aw) (wa eg o' hb),hm.lt,hm.nx,Kept.refl _ _,λb ag=>by
  rcases ag with ag|⟨i,o,p,_,au,rfl⟩
  .exact hm.ble b ag
  .exact hm.lt i p au,Glb.mono (B:=B) (λw' hp=>hm.js w' (hm.kept.trans hp)) r6⟩
 refine zW (e8 aj g args aD nx _ r j5 w w ax vs ka nJ s1 ar) λe w' au=>?_;obtain⟨u,v,cv,h',fN,rfl,gr,he,bO,hle,jt,dI,j3⟩:=au;obtain⟨ao,Pb,uH,Fg⟩:=aji gr j3;have avX:∀i∈keys ao,i∉keys rest:=λi hi eC=>by obtain⟨o,aw⟩:=O1 hi;obtain⟨o',hb⟩:=O1 eC;obtain⟨p,au,_,ag⟩:=dI.obj i o (Fg i o aw);obtain⟨q,aH,_,_⟩:=hm.obj i o' (Cj i o' hb);have iF:=bO i (hm.nx i q aH);grind
 have Pc:Kept B w w':=⟨dI.kept.os,dI.kept.tape,dI.kept.output,dI.kept.size,λb ag=>dI.kept.block b (r6 b ag)⟩;refine⟨u,v,cv,ao++rest,fN,rfl,Pb,he,bO,hle,jt,⟨ck.nil,rfl,λid o aw=>?_,λid eg o o' p fk aw hb au hJ aB=>?_,dI.lt,dI.nx,hm.kept.trans Pc,λb ag=>dI.ble b (r6 b ag),hm.js⟩,?_⟩
 .rw[get_append]at aw;cases jR:get ao id with
  |some kD=>rw[jR]at aw;cases aw;obtain⟨p,au,a1,ag⟩:=dI.obj id o (Fg id o jR);grind
  |none=>
   rw[jR]at aw;obtain⟨p,au,a1,ag⟩:=hm.obj id o (Cj id o aw);have hJ:cv id=some p:=by rw[bO id (hm.nx id p au)];exact au
   exact⟨p,hJ,a1.gJ he (dI.kept.block _ (.inr ⟨id,o,p,aw,au,rfl⟩)),ag⟩
 .have side:∀id o p,get (ao++rest) id=some o->cv id=some p->(get ao id=some o/\¬j5 p.g)\/(get rest id=some o/\j5 p.g/\ax id=some p):=λid o p aw au=>by
    rw[get_append]at aw;cases jR:get ao id with
    |some kD=>rw[jR]at aw;cases aw;obtain⟨q,aH,_,ag⟩:=dI.obj id o (Fg id o jR);grind
    |none=>rw[jR]at aw;obtain⟨q,aH,_,_⟩:=hm.obj id o (Cj id o aw);have iF:=bO id (hm.nx id q aH);grind
  rcases side id o p aw au with⟨bJ,a2⟩|⟨bJ,a2,a3⟩<;>rcases side eg o' fk hb hJ with⟨eO,eW⟩|⟨eO,eW,kq⟩
  .exact dI.inj id eg o o' p fk (Fg _ _ bJ) (Fg _ _ eO) au hJ aB
  .grind
  .grind
  .exact hm.inj id eg o o' p fk (Cj _ _ bJ) (Cj _ _ eO) a3 kq aB
 grind[keys]
theorem ajk(e8:kg P call){gq:a8->List (Nat×bT)->Nat->Option aj}(ai:call aj g args aD nx gq=some r)(hm:Mem B w0 w ax h nx)(s1:(keys aD).Nodup)(wa:∀i o,get aD i=some o->get h i=some o)(ar:ck ax args vs):
  Goes P g vs.toArray w λe w'=>∃u v cv h' fN,e=.returned u/\gq v h' fN=some r/\Ext ax cv/\(∀id,id<nx->cv id=ax id)/\nx<=fN/\cT cv v u/\(keys h').Nodup/\∀a1,(∀i o,get a1 i=some o->get h' i=some o\/(get aD i=none/\get h i=some o))->Mem B w0 w' cv a1 fN:=by
 let j5:Nat->Prop:=λb=>B b\/∃i o p,get aD i=none/\get h i=some o/\ax i=some p/\p.g=b
 have r6:∀b,B b->j5 b:=λb h=>.inl h
 have nJ:Mem j5 w w ax aD nx:=⟨ck.nil,rfl,λid o aw=>by
  obtain⟨p,au,hb,ag⟩:=hm.obj id o (wa id o aw);refine⟨p,au,hb,λdy=>?_⟩;rcases dy with dy|⟨i,o',fk,hi,rX,hJ,aB⟩
  .exact ag dy
  .have:=hm.inj id i o o' p fk (wa id o aw) rX au hJ aB.symm;grind,λid eg o o' p fk aw hb=>hm.inj id eg o o' p fk (wa id o aw) (wa eg o' hb),hm.lt,hm.nx,Kept.refl _ _,λb ag=>by
  rcases ag with ag|⟨i,o,p,_,_,au,rfl⟩
  .exact hm.ble b ag
  .exact hm.lt i p au,Glb.mono (B:=B) (λw' hp=>hm.js w' (hm.kept.trans hp)) r6⟩
 refine zW (e8 aj g args aD nx _ r j5 w w ax vs ai nJ s1 ar) λe w' au=>?_
 obtain⟨u,v,cv,h',fN,rfl,gr,he,bO,hle,jt,dI,j3⟩:=au
 have Pc:Kept B w w':=⟨dI.kept.os,dI.kept.tape,dI.kept.output,dI.kept.size,λb ag=>dI.kept.block b (r6 b ag)⟩
 refine⟨u,v,cv,h',fN,rfl,gr,he,bO,hle,jt,j3,λa1 WW=>⟨ck.nil,rfl,λid o aw=>?_,λid eg o o' p fk aw hb au hJ aB=>?_,dI.lt,dI.nx,hm.kept.trans Pc,λb ag=>dI.ble b (r6 b ag),hm.js⟩⟩
 .rcases WW id o aw with jR|⟨mw,jR⟩
  .obtain⟨p,au,a1,ag⟩:=dI.obj id o jR;grind
  .obtain⟨p,au,a1,ag⟩:=hm.obj id o jR;have hJ:cv id=some p:=by rw[bO id (hm.nx id p au)];exact au
   exact⟨p,hJ,a1.gJ he (dI.kept.block _ (.inr ⟨id,o,p,mw,jR,au,rfl⟩)),ag⟩
 .have side:∀id o p,get a1 id=some o->cv id=some p->(get h' id=some o/\¬j5 p.g)\/(get h id=some o/\j5 p.g/\ax id=some p):=λid o p aw au=>by
    rcases WW id o aw with jR|⟨mw,jR⟩
    .obtain⟨q,aH,_,ag⟩:=dI.obj id o jR;grind
    .obtain⟨q,aH,_,_⟩:=hm.obj id o jR;have iF:=bO id (hm.nx id q aH);grind
  rcases side id o p aw au with⟨bJ,a2⟩|⟨bJ,a2,a3⟩<;>rcases side eg o' fk hb hJ with⟨eO,eW⟩|⟨eO,eW,kq⟩
  .exact dI.inj id eg o o' p fk bJ eO au hJ aB
  .grind
  .grind
  .exact hm.inj id eg o o' p fk bJ eO a3 kq aB
theorem WX:∀(aD:List (Nat×bT))(id:Nat),Ck aD id=true↔id∈keys aD
 |[],id=>by simp[Ck,keys]
 |a::h,id=>by
  show(bif Nat.beq a.1 id then true else Ck h id)=true↔_;rw[Fb];by_cases e:a.1=id
  .simp[e,keys]
  .rw[cZ e];show Ck h id=true↔_;rw[WX h id];grind[keys]
theorem I'{h:List (Nat×bT)}:∀(n:Nat)(ws:List Nat)(acc aD:List (Nat×bT)),Cl n ws acc h=some aD->(keys acc).Nodup->(∀i o,get acc i=some o->get h i=some o)->(keys aD).Nodup/\(∀i o,get aD i=some o->get h i=some o)/\(∀x∈keys acc,x∈keys aD)/\
  ∀h',(∀x∈keys aD,get h' x=get h x)->Cl n ws acc h'=some aD
 |0,_,_,_,ai,_,_=>by cases ai
 |n+1,[],acc,aD,ai,aJ,dt=>by cases ai;exact⟨aJ,dt,λ_ h=>h,λ_ _=>rfl⟩
 |n+1,id::ws,acc,aD,ai,aJ,dt=>by
  simp only[Cl]at ai⊢;cases hm:Ck acc id with
  |true=>simp only[hm,b4]at ai⊢;exact I' n ws acc aD ai aJ dt
  |false=>
   simp only[hm,cU]at ai⊢;have avY:id∉keys acc:=λh=>by grind[WX]
   split at ai
   .rename_i o aw;obtain⟨af,ao,a1,ca⟩:=I' n (Ff o ws) ((id,o)::acc) aD ai w3 (λi x ak=>by grind[l9]);grind[keys]
   .cases ai
theorem WY:∀(aD h:List (Nat×bT))(i:Nat),get ((aD.map λp=>(p.1,(none:Option bT))).foldl hV h) i=if i∈keys aD then none else get h i
 |[],h,i=>yZ
 |a::aD,h,i=>by rw[iZ,jw,WY aD,lD];grind[keys]
theorem WZ:∀(h' h:List (Nat×bT))(i:Nat),(keys h').Nodup->get ((h'.map λp=>(p.1,some p.2)).foldl hV h) i=match get h' i with|some o=>some o|none=>get h i
 |[],h,i,_=>rfl
 |a::h',h,i,aJ=>by have j3:a.1∉keys h'/\(keys h').Nodup:=Mq;rw[iZ,jw,WZ h' _ i j3.2,lD,l9];grind[zV]
end step
section step
variable{R:Option Nat}{aj:Type}{P:Program}{aq:Env}{call:h6}{round:tC}{B:Nat->Prop}{w0 w:World}{df:List Deferred}{ax:du}{st:dG}{a:Act}{o:Oper}{nid:Nat}{k:dG->Option aj}{r:aj}
def bU.W0(ah:bU B w0 w df ax st a){id:Nat}(h:ax id=none):id∉keys st.h:=λai=>by obtain⟨o,aw⟩:=O1 ai;obtain⟨p,au,_⟩:=ah.obj id o aw;rw[h]at au;cases au
theorem W1{ax:du}:∀(bj:List Tmp)(vs:List a8)(us:List Value)(tm:List a8)(ae:Array Value),ck ax vs us->ck ax tm ae.toList->ck ax (zZ bj vs tm) ((bj.zip us).foldl (λt(x:Tmp×Value)=>t.setIfInBounds x.1 x.2) ae).toList
 |[],_,_,_,_,_,aQ=>by simp_all[zZ]
 |p::bj,[],us,tm,ae,ar,aQ=>by rw[ar.gf];simp_all[zZ]
 |p::bj,v::vs,us,tm,ae,ar,aQ=>by obtain⟨u,lb,rfl,hu,an⟩:=ar.inv;simp only[List.zip_cons_cons,jw];unfold zZ;refine W1 bj vs lb _ _ an ?_;rw[put_eq,Array.toList_setIfInBounds];exact aQ.set p hu
theorem ajl(bR:∀g F,find aq g=some F->SumOK P g F)(e8:kg P call)(sq:zX P round)(ah:bU B w0 w df ax st a)(aJ:(keys st.h).Nodup)(aR:ax nid=none)(aL:nid<st.nx)(h:Fh P aq call round nid o st k=some r)
  (bg:∀bB cL w' cv,k bB=some r->Ext ax cv->(∀id,id<st.nx->id≠nid->cv id=ax id)->st.nx<=bB.nx->bU B w0 w' df cv bB cL->(keys bB.h).Nodup->K cL w'):o.cX R P a w K Q:=by
 unfold Fh at h
 split at h
 .rename_i f args ae aw;have gY:=e0 ah.tm f;have jE:=wb ah.tm args.toList;split at h
  .rename_i g gF ly;rw[ly]at gY;generalize Fi:a.eval f=vE at gY;cases gY with
   |fn _ _ hn di ir=>obtain⟨gE,rT⟩:=WU bR e8 h ah.mem aJ (jE.append ⟨di,ir⟩);have pw:(args.map a.eval)++hn.toArray=(args.toList.map a.eval++hn).toArray:=ml;have bu:∀s,(callFunc g (args.toList.map a.eval++hn).toArray).run P w=s->(execOp a.eval o).run P w=s:=λs yS=>DJ;exact Tf
  .rename_i g first ly
   rw[ly]at gY;generalize Fi:a.eval f=vE at gY;cases gY with
   |lR _ _ hn di ir=>obtain⟨gE,rT⟩:=WU bR e8 h ah.mem aJ (ck.append ⟨di,ir⟩ jE);have pw:hn.toArray++(args.map a.eval)=(hn++args.toList.map a.eval).toArray:=ml;have bu:∀s,(callFunc g (hn++args.toList.map a.eval).toArray).run P w=s->(execOp a.eval o).run P w=s:=λs yS=>DJ;exact Tf
  .rename_i id ly;rw[ly]at gY;generalize Fi:a.eval f=vE at gY;cases gY with
   |iq _ p au=>
   split at h
   .rename_i tm bj assign body aB;split at h
    .rename_i aa;simp only[ba]at aa;obtain⟨cx,ajm,IQ⟩:=aa;have ajn:=cH cx;obtain⟨fk,hJ,⟨bo,xC,ajo,avZ,rfl,rfl,rfl,ajp⟩,av0⟩:=ah.obj id _ aB;rw[au]at hJ;cases hJ;have bu:(execOp a.eval o).run P w=.ok (.round p.g bo.fn ((bo.params.zip (args.map a.eval)).foldl (λt(p,v)=>t.setIfInBounds p v) bo.tmps) bo.assign bo.body) w:=by simp only[execOp,aw,resolve,Fi,Deferred.ofValue];simp only[wT,invoke,LZ];rw[run_yield xC (by rw[Array.size_map];exact ajn)]
     refine⟨λ_ _=>trivial,?_⟩;rw[semAt_of bu (λ_ _ h=>cM) (λ_ _ h=>cM),Oper.uponIn_round];refine⟨λh=>cM,roundIn_of_wpIn (F:=l7 R) trivial ?_⟩;have ajq:ck ax (zZ bo.params.toList (iv st.tm args.toList) tm) ((bo.params.zip (args.map a.eval)).foldl (λt(p,v)=>t.setIfInBounds p v) bo.tmps).toList:=by have:=W1 bo.params.toList _ _ _ _ jE ajp;have e:bo.params.zip (args.map a.eval)=(bo.params.toList.zip (args.toList.map a.eval)).toArray:=ml;rw[e,List.foldl_toArray];exact this
     refine sq p.g bo.assign aj _ _ r B w0 w [] ax _ _ ajm h (ah.mem.act (a:={tmps:=_,defers:=[]}) ajq rfl) aJ λaU eU bJ w1 qw ka Pd uP sr rq mX=>?_;cases aU with
     |normal=>
      simp only at ka;split at ka
      .rename_i tm' Pe W2 W3 W4;obtain⟨cF,Ja,⟨r1,ajr,hI,ajs,rfl,rfl,rfl,ajt⟩,av1⟩:=rq.obj id _ W4;have aU:cF=p:=by have:=Pd id p au;rw[Ja]at this;cases this;rfl
       subst aU;obtain⟨d1,d2,d3⟩:=Cg id mX;refine⟨_,run_beginRound ajr (by rw[hI];rfl),?_⟩;have aju:=rq.mod (o':=.loop true tm' r1.params r1.assign r1.body) W4 Ja (vI w1 cF.g (.loop {r1 with state:=.busy})) ⟨_,World.putObj_heap_same (rq.lt id cF Ja),rfl,ajs,rfl,rfl,rfl,ajt⟩;have ajv:=aju.look (h':=(id,.loop true tm' r1.params r1.assign r1.body)::jH eU.h id) λi=>by rw[l9,lD,d1 i];grind
       have ajw:(keys ((id,bT.loop true tm' r1.params r1.assign r1.body)::jH eU.h id)).Nodup:=by simp only[keys,iZ,A9];exact⟨λak=>(d3 _ ak).2 rfl,d2⟩
       refine sq cF.g bo.body aj _ _ r B w0 _ [] qw bJ _ IQ ka ajv ajw λbc hG a2 ga we gr Pf z1 xV uQ uH=>?_;cases bc with
       |normal=>
        simp only at gr;split at gr
        .rename_i Jb W5 W6 W7 zM;obtain⟨d',rl,⟨cQ,EX,nK,av2,rfl,rfl,rfl,ajx⟩,lz⟩:=uQ.obj id _ zM;have bc:d'=cF:=by have:=Pf id cF Ja;rw[rl]at this;cases this;rfl
         subst bc;obtain⟨b2,bX,c3⟩:=Cg id uH;refine⟨.bool true,_,run_endRound none EX,?_⟩;have ajy:=uQ.mod (o':=.loop false Jb cQ.params cQ.assign cQ.body) zM rl (vI ga d'.g (.loop {cQ with state:=.ready,pending:=none})) ⟨_,World.putObj_heap_same (uQ.lt id d' rl),rfl,rfl,rfl,rfl,rfl,ajx⟩;have ajz:=ajy.look (h':=(id,.loop false Jb cQ.params cQ.assign cQ.body)::jH hG.h id) λi=>by rw[l9,lD,b2 i];grind
         have W8:st.nx<=eU.nx:=sr;have ajA:eU.nx<=hG.nx:=xV;refine bg _ (a.put o.dst (.bool true)) _ we gr (Pd.trans Pf) (λi hi _=>(z1 i (jK hi W8)).trans (uP i hi)) (lp W8 ajA) ?_ ?_
         .exact ajz.mem.act (Hr (ah.tm.mono (Pd.trans Pf)) o.dst (.bool true)) S9
         grind[keys]
        .cases gr
       |exit i=>cases gr
       |ret=>cases gr
      .cases ka
     |exit i=>cases ka
     |ret=>cases ka
    .cases h
   .cases h
  .cases h
 .obtain⟨e,ai,dS⟩:=EM ah aR aL h;exact ajg dS aJ (ah.W0 aR) ai λbB cL w' cv af ao a1 ca dA gB=>bg bB cL w' cv af ao (λid _ bO=>a1 id bO) (Nat.le_of_eq ca.symm) dA gB
theorem EN(h:ck ax tm a.tmps.toList)(ops:Array Oper)(j:Nat):
  (∀b,k6 ops.toList tm j=.bool b->yielded ops a.tmps j=some b)/\(k6 ops.toList tm j=.undef->yielded ops a.tmps j=none):=by
 unfold k6 yielded
 simp only[yB]
 cases aw:ops[j]?with
 |none=>simp
 |some o=>
  simp only[j0]
  cases aX:o.dst with
  |none=>simp
  |some d=>
   simp only[j0,Fj]
   have pA:∀c,tm.getD d .J=c->c≠ .J->∃u,a.tmps[d]?=some u/\cT ax c u:=λc aa bO=>by
    cases aQ:tm[d]?with
    |none=>grind
    |some c'=>simp[List.getD,aQ]at aa;subst aa;obtain⟨u,hu,ar⟩:=h.at_ aQ;grind
   constructor
   .exact TU
   .exact TV
def B5(bR:∀g F,find aq g=some F->SumOK P g F)(e8:kg P call)(sq:zX P round){ops:Array Oper}{base:Nat}{Q:Exit->Act->World->Prop}:∀(l:List Oper)(i:Nat)(st:dG)(a:Act)(w:World)(ax:du),gI P aq call round base ops.toList k i l st=some r->i+l.length=ops.size->
  bU B w0 w df ax st a->(keys st.h).Nodup->(∀j,i<=j->j<ops.size->ax (base+j)=none)->base+ops.size<=st.nx->
  (∀bB cL w' cv,k bB=some r->Ext ax cv->(∀id,id<base->cv id=ax id)->st.nx<=bB.nx->bU B w0 w' df cv bB cL->(keys bB.h).Nodup->Q .normal cL w')->wpListIn (l7 R) 0 P ops Q l a w
 |[],_,st,a,w,ax,h,_,ah,aJ,_,_,e9=>e9 st a w ax h (Ext.refl _) (λ_ _=>rfl) (dc _) ah aJ
 |o::rest,i,st,a,w,ax,h,ay,ah,aJ,kK,tF,e9=>by
  have hi:i<ops.size:=by simp at ay;omega
  have kr:i+1+rest.length=ops.size:=by simp at ay;omega
  have skip:gI P aq call round base ops.toList k (i+1) rest ⟨l' st.tm o.dst .undef,st.h,st.nx⟩=some r->wpListIn (l7 R) 0 P ops Q rest (a.put o.dst undef) w:=λan=>B5 bR e8 sq rest (i+1) _ _ w ax an kr (ah.I5 o.dst .undef λ_=>rfl) aJ (λj aP Cm=>kK j al Cm) tF e9;have run:Fh P aq call round (base+i) o st (gI P aq call round base ops.toList k (i+1) rest)=some r->∀K:Act->World->Prop,(∀a w,wpListIn (l7 R) 0 P ops Q rest a w->K a w)->o.cX R P a w K Q:=λbu K bg=>
   ajl bR e8 sq ah aJ (kK i (dc _) hi) al bu λbB cL w' cv ai he bO hle dI j3=>bg _ _ (B5 bR e8 sq rest (i+1) bB cL w' cv ai kr dI j3
    (λj aP Cm=>(bO (base+j) al al).trans (kK j al Cm)) al
    λhG a2 ga we af ao a1 ca dA gB=>e9 hG a2 ga we af (he.trans ao) (λid hid=>(a1 id hid).trans (bO id al al)) (lp hle ca) dA gB)
  refine wpListIn_step λK bg=>?_;simp only[gI,ajB]at h;split at h
  .exact T2
  .rename_i j want aB;obtain⟨zJ,zK⟩:=EN ah.tm ops j;simp only[Region.wanted,aB];split at h
   .rename_i b ag;rw[zJ b ag];cases p6:(b==want)with
    |true=>simp only[p6,b4]at h;have pM:b=want:=wZ;simp only[pM,ha,kn];exact run h K bg
    |false=>simp only[p6,cU]at h;have pM:¬(some b==some want)=true:=wZ;rw[c0 pM];exact Hx
   .rename_i ag;rw[zK ag]at*;have:¬((none:Option Bool)==some want)=true:=bb;rw[c0 this];exact Hx
   .cases h
end step
open Go.Ev (AV Sh Summ Env Ex find entersB hasBody nilB VRel VRels Kept Glb Goes SumOK markD exOf semAt_of wp_value wp_skip' resRun)
structure uR(B:Nat->Prop)(w0:World)(df:List Deferred)(dR:Nat->Prop)(w1:World)(lg:List Deferred):Prop where
 kept:Kept B w0 w1
 up:∀b,B b->dR b
 marks:∃mW:List Nat,lg=mW.map markD++df/\mW.Nodup/\∀D∈mW,dR D/\¬B D/\w1.heap[D]?=some (.deferred (some []))
theorem uR.refl(B:Nat->Prop)(w0:World)(df:List Deferred):uR B w0 df B w0 df:=⟨Kept.refl _ _,λ_ h=>h,[],bb,List.nodup_nil,λ_ h=>cM⟩
theorem uR.trans{dR hs:Nat->Prop}{w1 ga:World}{lg tG:List Deferred}(h:uR B w0 df dR w1 lg)(h':uR dR w1 lg hs ga tG):uR B w0 df hs ga tG:=by
 obtain⟨mW,aU,bc,bw⟩:=h.marks;obtain⟨ajC,f1,f2,f3⟩:=h'.marks;refine⟨h.kept.trans ⟨h'.kept.os,h'.kept.tape,h'.kept.output,h'.kept.size,λb ag=>h'.kept.block b (h.up b ag)⟩,λb ag=>h'.up b (h.up b ag),ajC++mW,by rw[f1,aU];simp,?_,λD dS=>?_⟩
 .grind
 .rcases gD.1 dS with dS|dS
  .exact⟨(f3 D dS).1,λag=>(f3 D dS).2.1 (h.up D ag),(f3 D dS).2.2⟩
  .exact⟨h'.up D (bw D dS).1,(bw D dS).2.1,(h'.kept.block D (bw D dS).1).trans (bw D dS).2.2⟩
def Fk(Pg:Bool)(B:Nat->Prop)(w0:World)(df:List Deferred)(qx:du)(n0:Nat)(st:dG)(a:Act)(w:World):Prop:=∃dR w1 lg ax,uR B w0 df dR w1 lg/\(Pg=true->dR=B/\w1=w0/\lg=df)/\Ext qx ax/\(∀id,id<n0->ax id=qx id)/\n0<=st.nx/\bU dR w1 w lg ax st a/\(keys st.h).Nodup
def Fk.here{qx:du}{n0:Nat}(Pg:Bool)(he:Ext qx ax)(bO:∀id,id<n0->ax id=qx id)(hle:n0<=st.nx)(ah:bU B w0 w df ax st a)(aJ:(keys st.h).Nodup):Fk Pg B w0 df qx n0 st a w:=⟨B,w0,df,ax,uR.refl _ _ _,λ_=>⟨rfl,rfl,rfl⟩,he,bO,hle,ah,aJ⟩
def Fl(P:Program)(aq:Env)(call:h6):Prop:=
 ∀(R:Option Nat)(aj:Type)(B:Nat->Prop)(w0 w:World)(df:List Deferred)(ax:du)(st:dG)(a:Act)(id:Nat)(ops:Array Oper)(k:dG->List kf->Option aj)(r:aj)(base:Nat)(Q:Exit->Act->World->Prop),Cn P aq call base ops.toList (λbB aC=>if xW ops aC then k bB aC else none) 0 ops.toList st []=some r->bU B w0 w df ax st a->(keys st.h).Nodup->(∀j,j<ops.size->ax (base+j)=none)->base+ops.size<=st.nx->
  (∀bB aC cL w' cv,k bB aC=some r->Ext ax cv->(∀id,id<base->cv id=ax id)->st.nx<=bB.nx->bU B w0 w' df cv bB cL->(keys bB.h).Nodup->Q .normal cL w')->(Code.region id ops true).cX R P Q a w
section code
variable{R:Option Nat}{P:Program}{aq:Env}{call:h6}{round:tC}
def bU.bump(h:bU B w0 w df ax st a){n:Nat}(aJ:st.nx<=n):bU B w0 w df ax ⟨st.tm,st.h,n⟩ a:=⟨h.tm,h.df,h.obj,h.inj,h.lt,λid p au=>jK (h.nx id p au) aJ,h.kept,h.ble,h.js⟩
def bU.unused(h:bU B w0 w df ax st a){id:Nat}(hid:st.nx<=id):ax id=none:=by
 cases e:ax id with
 |none=>rfl
 |some p=>have:=h.nx id p e;omega
def bU.W9(h:bU B w0 w df ax st a){D:Nat}(x:Obj)(dS:¬B D)(eD:∀id o p,get st.h id=some o->ax id=some p->p.g≠D):bU B w0 (w.putObj D x) df ax st a:=⟨h.tm,h.df,λid o aw=>let⟨p,au,aD,ag⟩:=h.obj id o aw;⟨p,au,aD.gJ (Ext.refl _) (World.putObj_heap_other (eD id o p aw au)),ag⟩,h.inj,λid p au=>by rw[World.putObj_size];exact h.lt id p au,h.nx,h.kept.trans (Kept.H4 (vI w D x) h.ble λk ai=>by cases ai;exact dS),λb ag=>by rw[World.putObj_size];exact h.ble b ag,h.js⟩
theorem xN(bR:∀g F,find aq g=some F->SumOK P g F)(dS:Fl P aq call)(e8:kg P call)(sq:zX P round):∀(c:Code),(R=none\/lx c=true)->∀(aj:Type)(st:dG)(k:Ex->dG->Option aj)(r:aj)(B:Nat->Prop)(w0:World)(df:List Deferred)(ax:du)(a:Act)(w:World)(Q:Exit->Act->World->Prop),er P aq call round c aj st k=some r->bU B w0 w df ax st a->(keys st.h).Nodup->(∀e bB cL w',k e bB=some r->Fk (lx c) B w0 df ax st.nx bB cL w'->Q (exOf e) cL w')->c.cX R P Q a w:=by
 intro c;induction c with
 |skip=>intro _ aj st k r B w0 df ax a w Q h ah aJ ai;exact wpIn_skip (ai .normal st a w h (.here _ (Ext.refl _) (λ_ _=>rfl) (dc _) ah aJ))
 |label l=>intro _ aj st k r B w0 df ax a w Q h ah aJ ai;exact wpIn_label (ai .normal st a w h (.here _ (Ext.refl _) (λ_ _=>rfl) (dc _) ah aJ))
 |region id ops draw=>
  intro _ aj st k r B w0 df ax a w Q h ah aJ ai;rw[ajD]at h;have ag:=ah.bump (n:=st.nx+ops.size) al;have kK:∀j,ax (st.nx+j)=none:=λj=>ah.unused al;split at h
  .rename_i aX;subst aX;exact dS R aj B w0 w df ax _ a id ops (λbB _=>k .normal bB) r st.nx Q h ag aJ (λj _=>kK j) (dc _) λbB aC cL w' cv af ao a1 ca dA gB=>ai .normal bB cL w' af (.here _ ao (λid hid=>a1 id hid) bM dA gB)
  .rename_i aX;have EY:draw=false:=by simpa using aX
   subst EY;exact wpIn_region_list (B5 (R:=R) bR e8 sq ops.toList 0 _ a w ax h bb ag aJ (λj _ _=>kK j) (dc _) λbB cL w' cv af ao a1 ca dA gB=>ai .normal bB cL w' af (.here _ ao (λid hid=>a1 id hid) bM dA gB))
 |seq x z rm sh=>
  intro h5 aj st k r B w0 df ax a w Q h ah aJ ai;have ak:R=none\/lx x=true:=h5.imp id λh=>yP;have bp:R=none\/lx z=true:=h5.imp id λh=>yP;refine wpIn_seq (rm ak aj st _ r B w0 df ax a w _ h ah aJ λe bB cL w' he eE=>?_);obtain⟨dR,w1,lg,qw,qy,hI,qz,uP,sr,rq,mX⟩:=eE;have up:∀e,k e bB=some r->Q (exOf e) cL w':=λe he=>ai e bB cL w' he ⟨dR,w1,lg,qw,qy,λh=>hI yP,qz,uP,sr,rq,mX⟩;cases e with
  |normal=>refine sh bp aj bB k r dR w1 lg qw cL w' Q he rq mX λbc hG a2 ga gr Co=>?_;obtain⟨hs,Ph,tG,we,Cp,nK,ss,z1,xV,uQ,uH⟩:=Co;refine ai bc hG a2 ga gr ⟨hs,Ph,tG,we,qy.trans Cp,λh=>?_,qz.trans ss,λid hid=>(z1 id (jK hid sr)).trans (uP id hid),lp sr xV,uQ,uH⟩;simp_all[lx,ba]
  |exit id=>exact up (.exit id) he
  |ret=>exact up .ret he
 |cond c x z rm sh=>
  intro h5 aj st k r B w0 df ax a w Q h ah aJ ai;have ak:R=none\/lx x=true:=h5.imp id λh=>yP;have bp:R=none\/lx z=true:=h5.imp id λh=>yP;simp only[er]at h;split at h
  .rename_i t aa;have o1:a.eval c=.bool t:=by have:=e0 ah.tm c;rw[aa]at this;exact this.oP
   refine wpIn_cond o1 ?_;cases t with
   |true=>refine rm ak aj st k r B w0 df ax a w Q h ah aJ λe bB cL w' he eE=>ai e bB cL w' he ?_;obtain⟨dR,w1,lg,qw,qy,hI,rest⟩:=eE;exact⟨dR,w1,lg,qw,qy,λh=>hI yP,rest⟩
   |false=>refine sh bp aj st k r B w0 df ax a w Q h ah aJ λe bB cL w' he eE=>ai e bB cL w' he ?_;obtain⟨dR,w1,lg,qw,qy,hI,rest⟩:=eE;exact⟨dR,w1,lg,qw,qy,λh=>hI yP,rest⟩
  .cases h
 |block id b ih=>
  intro h5 aj st k r B w0 df ax a w Q h ah aJ ai;refine wpIn_block (ih h5 aj st _ r B w0 df ax a w _ h ah aJ λe bB cL w' he eE=>?_);cases e with
  |normal=>exact ai .normal bB cL w' he eE
  |ret=>exact ai .ret bB cL w' he eE
  |exit i=>
   simp only at he;simp only[exOf,Exit.inBlock];split at he
   .rename_i e;rw[dE e];exact ai .normal bB cL w' he eE
   .rename_i e;rw[c0 e];exact ai (.exit i) bB cL w' he eE
 |loop b ih=>
  intro h5 aj st k r B w0 df ax a w Q h ah aJ ai;simp only[er]at h;refine wpIn_loop_rounds Pj ?_;have key:∀(m:Nat)(eU:dG)(bJ:Act)(w1:World),Pk (λaj st k=>er P aq call round b aj st k) m aj eU k=some r->Fk (lx b) B w0 df ax st.nx eU bJ w1->Code.roundsIn (l7 R) 0 P b Q m bJ w1:=by
   intro m;induction m with
   |zero=>intro st a w h;cases h
   |succ m EZ=>
    intro eU bJ w1 h eE;obtain⟨dR,ajE,lg,qw,qy,hI,qz,uP,sr,rq,mX⟩:=eE;rw[roundsIn_succ];refine ih h5 aj eU _ r dR ajE lg qw bJ w1 _ h rq mX λe hG a2 ga gr Co=>?_;obtain⟨hs,Ph,tG,we,Cp,nK,ss,z1,xV,uQ,uH⟩:=Co;have eE:Fk (lx b) B w0 df ax st.nx hG a2 ga:=⟨hs,Ph,tG,we,qy.trans Cp,λh=>bM,qz.trans ss,λid hid=>(z1 id (jK hid sr)).trans (uP id hid),lp sr xV,uQ,uH⟩;cases e with
    |normal=>exact EZ hG a2 ga gr eE
    |exit id=>exact ai (.exit id) hG a2 ga gr eE
    |ret=>exact ai .ret hG a2 ga gr eE
  exact key Pj st a w h (.here _ (Ext.refl _) (λ_ _=>rfl) (dc _) ah aJ)
 |exit id=>intro _ aj st k r B w0 df ax a w Q h ah aJ ai;exact wpIn_exit (ai (.exit id) st a w h (.here _ (Ext.refl _) (λ_ _=>rfl) (dc _) ah aJ))
 |ret=>intro _ aj st k r B w0 df ax a w Q h ah aJ ai;exact wpIn_ret (ai .ret st a w h (.here _ (Ext.refl _) (λ_ _=>rfl) (dc _) ah aJ))
 |rangeFunc g bj assign body _ _=>
  intro h5 aj st k r B w0 df ax a w Q h ah aJ ai;have ajF:R=none:=h5.resolve_right (by simp[lx]);subst ajF;rw[ajG]at h;split at h
  .rename_i iB gF aB;split at h
   .rename_i aa;simp only[ba]at aa;obtain⟨gE,gx⟩:=aa;refine wpIn_rangeFunc λf _=>?_;obtain⟨bo,mw⟩:∃bo:Go.Loop,bo={state:=.ready,pending:=none,fn:=f,tmps:=a.tmps,params:=bj,assign,body,defers:=w.heap.size}:=⟨_,rfl⟩;obtain⟨nM,Pl⟩:∃nM,nM=w.alloc (.deferred (some [])):=⟨_,rfl⟩;obtain⟨iu,xK⟩:∃iu,iu=nM.alloc (.loop bo):=⟨_,rfl⟩;have zL:=e0 ah.tm g;rw[aB]at zL;generalize xL:a.eval g=ahA at zL;cases zL with
    |fn _ _ hn di ir=>
    have av3:nM.heap.size=w.heap.size+1:=by rw[Pl];simp
    have W':Below w.heap.size w nM:=by rw[Pl];exact(Below.refl _ w).alloc (dc _) _
    have ajH:Below nM.heap.size nM iu:=by rw[xK];exact(Below.refl _ nM).alloc (dc _) _
    have Om:nM.heap[w.heap.size]?=some (.deferred (some [])):=by grind[World.alloc_heap_new]
    have vN:iu.heap[w.heap.size+1]?=some (.loop bo):=by grind[World.alloc_heap_new]
    obtain⟨hs,lz⟩:∃hs:Nat->Prop,hs=λb=>B b\/b=w.heap.size:=⟨_,rfl⟩;have Xa:Kept B w0 nM:=ah.kept.trans (Kept.xz W' ah.ble);have ajI:bU hs nM nM (markD w.heap.size::a.defers) ax st {a with defers:=markD w.heap.size::a.defers}:=by
     refine⟨ah.tm,rfl,λid o aw=>?_,ah.inj,λid p au=>by have:=ah.lt id p au;omega,ah.nx,Kept.refl _ _,λb ag=>?_,λw' hp=>ah.js w' (Xa.trans ⟨hp.os,hp.tape,hp.output,hp.size,λb ag=>hp.block b G4⟩)⟩
     .obtain⟨p,au,aD,ag⟩:=ah.obj id o aw;refine⟨p,au,aD.gJ (Ext.refl _) (W'.block _ (ah.lt id p au)),λao=>?_⟩;rw[lz]at ao;rcases ao with ao|ao
      .exact ag ao
      .have:=ah.lt id p au;omega
     .rw[lz]at ag;rcases ag with ag|ag
      .have:=ah.ble b ag;omega
      .omega
    have ajJ:uR B w0 df hs nM (markD w.heap.size::a.defers):=by
     refine⟨Xa,λb ag=>G4,[w.heap.size],by simp[ah.df],bb,λD dS=>?_⟩;have ajK:D=w.heap.size:=by simpa using dS
     subst ajK;exact⟨Mn,λag=>by have:=ah.ble _ ag;omega,Om⟩
    have kK:ax st.nx=none:=ah.unused (dc _);have ajL:=(ajI.bump (n:=st.nx+1) al).new (id:=st.nx) (p:=⟨w.heap.size+1,0,0⟩) (o:=.loop false st.tm bj assign body) kK bM ajH bM bM
     ⟨bo,vN,by rw[mw];rfl,by rw[mw],by rw[mw],by rw[mw],by rw[mw],by rw[mw];exact ah.tm.mono (su _ kK)⟩
    have ajM:(keys ((st.nx,bT.loop false st.tm bj assign body)::st.h)).Nodup:=by simp only[keys,iZ,A9];exact⟨ah.W0 kK,aJ⟩
    have ajN:Mem hs nM iu (jI ax st.nx ⟨w.heap.size+1,0,0⟩) ((st.nx,bT.loop false st.tm bj assign body)::st.h) (st.nx+1):=by
     refine ajL.mem.look λi=>?_;rw[l9];show _=get (hV st.h (st.nx,some _)) i;rw[lD];by_cases e:i=st.nx
     .grind
     grind
    have jE:ck (jI ax st.nx ⟨w.heap.size+1,0,0⟩) (.iq st.nx::gF) (.func (.yield (w.heap.size+1)) #[] #[]::hn):=ck.cons (.iq st.nx ⟨w.heap.size+1,0,0⟩ (tH _ _ _)) (ck.mono ⟨di,ir⟩ (su _ kK));have rT:=e8 aj iB _ _ _ _ r hs nM iu _ _ h ajN ajM jE;have Ot:∀args w,(callFunc iB args).run P w=.ok (.enter iB args) w:=λargs w=>by
     unfold hasBody at gx;unfold entersB at gE;cases dW:P.funcs[iB]?with
     |none=>rw[dW]at gx;cases gx
     |some fn=>simp only[dW,jZ]at gE gx;have Hz:fn.body.isNone=false:=p7;exact TH
    refine⟨w.heap.size+1,[markD w.heap.size],iu,{target:=.fn (.func iB) hn.toArray,args:= #[.func (.yield (w.heap.size+1)) #[] #[]]},iu,iB,#[.func (.yield (w.heap.size+1)) #[] #[]]++hn.toArray,iu,?_,?_,λ_ _=>trivial,?_,λh=>cM,?_⟩
    .rw[xK,mw,Pl];exact run_enterLoop_outer _ _ _ _ _
    .simp only[resolve,xL];simp[go_sem]
    .simp[invoke,go_sem,Ot]
    .have EU:=rT.calls gx;have Ou:(.func (.yield (w.heap.size+1)) #[] #[]::hn).toArray= #[.func (.yield (w.heap.size+1)) #[] #[]]++hn.toArray:=ml;rw[Ou]at EU;refine CallsIn.mono (Go.Ev.CallsIn.at (R0:=none) (yM.2 EU)) λe iR j8=>?_;obtain⟨u,v,cv,h',fN,rfl,xM,ajO,av4,av5,_,Pm,ajP⟩:=j8;split at xM
     .rename_i tm' Pe av6 av7 Xb;obtain⟨ajQ,ajR,⟨nz,ajS,ajT,ajU,_⟩,ajV⟩:=Pm.obj _ _ Xb;have bQ:ajQ=⟨w.heap.size+1,0,0⟩:=by grind[tH]
      subst bQ;obtain⟨d1,d2,d3⟩:=Cg st.nx ajP;refine⟨none,_,by rw[<-ajU];exact run_endLoop ajS (by rw[ajT];simp),?_⟩;show Q .normal {a with defers:=[markD w.heap.size]++a.defers} _;have Xc:Ext ax cv:=(su _ kK).trans ajO;have ajW:bU hs nM iR (markD w.heap.size::a.defers) cv ⟨st.tm,jH h' st.nx,fN⟩ {a with defers:=markD w.heap.size::a.defers}:=by
       have:=(Pm.kill st.nx).look (h':=jH h' st.nx) λi=>by rw[lD,d1 i]
       exact this.mem.act (ah.tm.mono Xc) rfl
      have ajX:=ajW.W9 (D:=w.heap.size+1) (.loop {nz with state:=.exhausted}) ajV λid o p aw au e=>by have ajY:id≠st.nx:=λbc=>bM;have jR:get h' id=some o:=bM;exact ajY (Pm.inj id st.nx o _ p _ jR Xb au ajR e)
      refine ai .normal _ _ _ xM ⟨hs,nM,_,cv,ajJ,λh=>(by simp[lx]at h),Xc,λid hid=>?_,?_,ajX,d2⟩
      .grind[qA]
      grind
     .cases xM
   .cases h
  .cases h
 |scope b _=>grind[er]
 |goto l=>grind[er]
 |refuse VJ=>grind[er]
end code
open Go.Ev (AV Sh Summ Env Ex find entersB hasBody nilB VRel VRels Kept Glb Goes SumOK markD exOf resRun)
section results
variable{aj:Type}{P:Program}{B:Nat->Prop}{w0 w:World}{df:List Deferred}{ax:du}{st:dG}{a:Act}{r:aj}
def ajZ(ah:bU B w0 w df ax st a){si:ResultVar}{k:a8->Option aj}(h:Pn P st si k=some r):∃v u,k v=some r/\(resRun a.tmps si).run P w=.ok u w/\cT ax v u:=by
 cases si with
 |tmp t=>exact⟨_,_,h,rfl,xA ah.tm t⟩
 |cell t ty=>
  simp only[Pn]at h;have aB:=xA ah.tm t;split at h
  .rename_i id off au;rw[au]at aB;obtain⟨p,aj0,hu⟩:=Cq aB;split at h
   .rename_i cs aa;obtain⟨fV,aj1⟩:=O3 aa;obtain⟨arr,kb,fz,hh,cx,gV,hle,af,b6⟩:=ah.cells aj1 aj0;obtain⟨v,u,aN,jt,e2⟩:=Jc h (b6.drop off) (λu hu=>af u (jx (lr (jx hu))));refine⟨v,u,aN,?_,jt⟩;have bu:=Xd (P:=P) (w:=w) e2 (ad:=⟨p.g,p.fy+off,none⟩) λj u aP=>by rw[List.drop_take,AY]at aP;exact Jd hh _ _ j u aP
    simp only[resRun,hu,asAddr,wT];exact bu
   .cases h
  .cases h
def Xe(ah:bU B w0 w df ax st a):∀(rs:List ResultVar)(k:List a8->Option aj),z6 P st rs k=some r->∃vs us,k vs=some r/\(rs.mapM (resRun a.tmps)).run P w=.ok us w/\ck ax vs us
 |[],k,h=>⟨[],[],h,bb,ck.nil⟩
 |si::rs,k,h=>by simp only[z6]at h;obtain⟨v,u,af,hu,ar⟩:=ajZ ah h;obtain⟨vs,us,ao,e6,b6⟩:=Xe ah rs _ af;refine⟨v::vs,u::us,ao,?_,ck.cons ar b6⟩;rw[List.mapM_cons];simp only[iL];rw[hu];simp only[jX];rw[e6];rfl
def aj2(ah:bU B w0 w df ax st a){fn:Func}{k:a8->Option aj}(h:z6 P st fn.results.toList (λvs=>k (Fm vs))=some r):∃v u,k v=some r/\(results fn a.tmps).run P w=.ok u w/\cT ax v u:=by
 obtain⟨vs,us,ai,e6,b6⟩:=Xe ah _ _ h;have ts:(results fn a.tmps).run P w=.ok (if h:us.toArray.size=1 then us.toArray[0]else .tuple us.toArray) w:=L9;refine⟨_,_,ai,ts,?_⟩;unfold Fm;split
 .rename_i x;obtain⟨u,lb,rfl,hu,aJ⟩:=b6.inv;rw[aJ.gf];simpa using hu
 .rename_i ak;have bO:us.length≠1:=by
    rw[b6.1];intro ay
    match vs,ay with
    |[x],_=>exact ak x rfl
  have:¬us.toArray.size=1:=yY;rw[dif_neg this];exact .tup _ _ b6.1 b6.2
def aj3{dR:Nat->Prop}{w1:World}{lg:List Deferred}{fn:Func}{Z:Ending->World->Prop}(cg:uR B w0 [] dR w1 lg)(ah:bU dR w1 w lg ax st a)
  (sg:∀w',Mem B w0 w' ax st.h st.nx->(∃hs ga tG,bU hs ga w' tG ax st {a with defers:=tG})->∃v,(results fn a.tmps).run P w'=.ok v w'/\Z (.returned v) w')(iG:Glb B w0):Go.LeavesInM Fence.wide 0 P fn a.tmps Z a.defers .returning w:=by
 obtain⟨mW,aU,bc,bw⟩:=cg.marks
 have key:∀(l:List Nat)(w:World),l.Nodup->(∀D∈l,D∈mW)->(∀D∈l,w.heap[D]?=some (.deferred (some [])))->Mem B w0 w ax st.h st.nx->(∀id o p,get st.h id=some o->ax id=some p->¬dR p.g)->Go.LeavesInM Fence.wide 0 P fn a.tmps Z (l.map markD) .returning w:=by
  intro l;induction l with
  |nil=>intro w _ _ _ dI _;exact sg w dI ⟨B,w0,[],dI.act ah.tm rfl⟩
  |cons D l ih=>intro w aJ dt hh dI eD;obtain⟨mX,uH⟩:=A9.1 aJ;obtain⟨d1,d2,_⟩:=bw D (dt D bb);refine⟨bb,.inl ⟨D,_,rfl,run_takeDeferred (hh D bb),?_⟩⟩;refine ih (w.putObj D (.deferred none)) uH (λx ak=>dt x lv) (λx ak=>?_) (dI.W9 _ d2 λid o p aw au e=>eD id o p aw au (by rw[e];exact d1)) eD;rw[World.putObj_heap_other (λe=>mX (by rw[<-e];exact ak))];exact hh x lv
 have Ok:Kept B w0 w:=cg.kept.trans ⟨ah.kept.os,ah.kept.tape,ah.kept.output,ah.kept.size,λk ai=>ah.kept.block k (cg.up k ai)⟩
 have aj4:Mem B w0 w ax st.h st.nx:=⟨ck.nil,rfl,λid o aw=>let⟨p,au,aD,ag⟩:=ah.obj id o aw;⟨p,au,aD,λh=>ag (cg.up _ h)⟩,ah.inj,ah.lt,ah.nx,Ok,λb ag=>ah.ble b (cg.up b ag),iG⟩
 rw[ah.df,aU,jy]
 exact key mW w bc (λ_ h=>h) (λD dS=>(ah.kept.block D (bw D dS).1).trans (bw D dS).2.2) aj4 (λid o p aw au=>by obtain⟨fk,hJ,_,ag⟩:=ah.obj id o aw;rw[au]at hJ;cases hJ;exact ag)
end results
section calls
variable{P:Program}{aq:Env}{call:h6}{round:tC}
def aj5(bR:∀g F,find aq g=some F->SumOK P g F)(dS:Fl P aq call)(e8:kg P call)(sq:zX P round):kg P (Po P aq call round):=by
 intro aj g args h nx k r B w0 w ax vs ai hm aJ ar;unfold Po at ai;split at ai
 .rename_i fn dW;split at ai
  .rename_i c ag;refine Goes.of dW ag (yM.1 (callsIn_of_wp_marks (F:=Fence.wide) (n:=0) dW ag trivial ?_));have xa:∀m,ck ax (List.replicate m a8.J) (List.replicate m undef):=by
     intro m;induction m with
     |zero=>exact ck.nil
     |succ m ih=>exact ck.cons (.J _) ih
   have Cr:ck ax (args++List.replicate (fn.ntmps-args.length) .J) (vs.toArray++Array.replicate (fn.ntmps-vs.toArray.size) undef).toList:=by
    have e:(vs.toArray++Array.replicate (fn.ntmps-vs.toArray.size) undef).toList=vs++List.replicate (fn.ntmps-args.length) undef:=by simp[ar.1]
    rw[e];exact ar.append (xa _)
   refine xN (R:=none) bR dS e8 sq c (.inl rfl) aj _ _ r B w0 [] ax _ w _ ai (hm.act (a:={tmps:=vs.toArray++Array.replicate (fn.ntmps-vs.toArray.size) undef,defers:=[]}) Cr rfl) aJ λe bB cL w' hp eE=>?_;obtain⟨dR,w1,lg,qw,qy,_,qz,uP,sr,rq,mX⟩:=eE;have fin:z6 P bB fn.results.toList (λvs=>k (Fm vs) bB.h bB.nx)=some r->Go.LeavesInM Fence.wide 0 P fn cL.tmps (λe w'=>∃u v cv h' fN,e=.returned u/\k v h' fN=some r/\Ext ax cv/\(∀id,id<nx->cv id=ax id)/\nx<=fN/\cT cv v u/\Mem B w0 w' cv h' fN/\(keys h').Nodup) cL.defers .returning w':=λaR=>by refine aj3 qy rq (λOy se ah=>?_) hm.js;obtain⟨hs,ga,tG,k8⟩:=ah;obtain⟨v,u,gr,bu,jt⟩:=aj2 (a:={cL with defers:=tG}) (k:=λv=>k v bB.h bB.nx) k8 aR;exact⟨u,bu,u,v,qw,bB.h,bB.nx,rfl,gr,qz,uP,sr,jt,se,mX⟩
   cases e with
   |ret=>exact fin (by rw[<-Xf];exact hp)
   |normal=>exact fin (by rw[<-Xf];exact hp)
   |exit id=>cases hp
  .cases ai
 .cases ai
def aj6(bR:∀g F,find aq g=some F->SumOK P g F)(dS:Fl P aq call)(e8:kg P call)(sq:zX P round):zX P (λaj c st k=>er P aq call round c aj st k):=by intro l c aj st k r B w0 w df ax a Q O8 ai ah aJ e9;refine xN (R:=some l) bR dS e8 sq c (.inr O8) aj st k r B w0 df ax a w Q ai ah aJ λe bB cL w' hp eE=>?_;obtain⟨dR,w1,lg,qw,_,hI,qz,uP,sr,rq,mX⟩:=eE;obtain⟨rfl,rfl,rfl⟩:=hI O8;exact e9 e bB cL w' qw hp qz uP sr rq mX
def Pp(bR:∀g F,find aq g=some F->SumOK P g F)(dS:∀call,kg P call->Fl P aq call){wg:h6->h6}(au:∀call,kg P call->kg P (wg call)):∀n,kg P (jS P aq wg n).1/\zX P (jS P aq wg n).2
 |0=>⟨λaj g args h nx k r B w0 w ax vs ai=>(by cases ai),λl c aj st k r B w0 w df ax a Q _ ai=>(by cases ai)⟩
 |n+1=>by obtain⟨af,ao⟩:=Pp bR dS au n;exact⟨ajj (au _ (aj5 bR (dS _ af) af ao)),aj6 bR (dS _ af) af ao⟩
def aj7(e8:kg P call){v0:a8}{a7:List (Nat×bT)}{n0:Nat}(bu:call (a8×List (Nat×bT)×Nat) g args [] 0 (λv h n=>some (v,h,n))=some (v0,a7,n0)){F:Summ}
  (hF:∀(aj:Type)(aA:List AV)(k:AV->Option aj)(r:aj),F aj aA k=some r->(∀w S vs,VRels w S Go.Ev.cq aA vs->∃ax,ck ax args vs/\ax=λ_=>none)/\k v0.h3=some r):SumOK P g F:=by
 intro aj w S aA vs k r cu ar ai
 obtain⟨cu,iG⟩:=cu
 obtain⟨af,ao⟩:=hF aj aA k r ai
 obtain⟨ax,jN,rfl⟩:=af w S vs ar
 have se:Mem (λb=>b<w.heap.size) w w (λ_=>none) [] 0:=⟨ck.nil,rfl,λid o aw=>(by simp[get_nil]at aw),λid eg o o' p fk aw=>(by simp[get_nil]at aw),λid p au=>(by cases au),λid p au=>(by cases au),Kept.refl _ _,λb ag=>ag,iG⟩
 refine zW (e8 _ g args [] 0 _ _ (λb=>b<w.heap.size) w w (λ_=>none) vs bu se yZ jN) λe w' au=>?_
 obtain⟨u,v,cv,h',fN,rfl,hp,he,bO,hle,jt,dI,aJ⟩:=au
 simp only[ej,gU]at hp
 obtain⟨rfl,rfl,rfl⟩:=hp
 exact⟨u,v.h3,λ_=>False,rfl,ao,dI.kept.below,λb h=>h.elim,λb h=>h.elim,jt.h3 w' _ _⟩
end calls
open Go.Ev (AV Sh Summ Env Ex find entersB hasBody nilB VRel VRels Kept Glb Goes SumOK markD exOf wp_value wp_skip' ancTab rem mem_rem rem_split getD_tf getD_ft tab_spec rem_none)
section op
variable{P:Program}{nid:Nat}
theorem OG{o:Oper}{tm tm':List a8}{h:List (Nat×bT)}(he:∀x∈o.op.operands.toList,bG tm x=bG tm' x):b7 P nid o tm h some=b7 P nid o tm' h some:=by
 have opt:∀{x:Option Operand},(∀z,x=some z→bG tm z=bG tm' z)→x.map (bG tm)=x.map (bG tm'):=fun{x} ak=>by
  cases x with
  |none=>rfl
  |some z=>simp only[Option.map_some];rw[ak z rfl]
 have aj8:∀l:List Operand,(∀x∈l,bG tm x=bG tm' x)→iv tm l=iv tm' l:=by
  intro l;induction l with
  |nil=>intro _;rfl
  |cons x l ih=>intro ay;simp only[iv];rw[ay x (by simp),ih fun y aN=>ay y (by simp[aN])]
 have Xg:∀l:List (Nat×Operand),(∀p∈l,bG tm p.2=bG tm' p.2)→(l.map fun p=>(p.1,bG tm p.2))=l.map fun p=>(p.1,bG tm' p.2):=fun l ay=>List.map_congr_left fun p au=>by rw[ay p au]
 unfold b7;cases aw:o.op with
 |move x=>simp only[aw,Op.operands]at he⊢;rw[he x (by simp)]
 |assign x=>simp only[aw,Op.operands]at he⊢;rw[he x (by simp)]
 |pick c x z=>simp only[aw,Op.operands]at he⊢;rw[he c (by simp),he x (by simp),he z (by simp)]
 |alloc t=>rfl
 |box t x=>simp only[aw,Op.operands]at he⊢;rw[he x (by simp)]
 |build t bj=>simp only[aw,Op.operands]at he⊢;rw[Xg bj.toList fun p au=>he p.2 (by simp only[List.mem_map];exact⟨p,au,rfl⟩)]
 |buildSlice t n bj=>simp only[aw,Op.operands]at he⊢;rw[Xg bj.toList fun p au=>he p.2 (by simp only[List.mem_map];exact⟨p,au,rfl⟩)]
 |insert t m k v=>rfl
 |load t x=>simp only[aw,Op.operands]at he⊢;rw[he x (by simp)]
 |store t x z=>simp only[aw,Op.operands]at he⊢;rw[he x (by simp),he z (by simp)]
 |ready g=>rfl
 |waits g=>rfl
 |nilCheck x=>simp only[aw,Op.operands]at he⊢;rw[he x (by simp)]
 |binOp op t x z aj9=>simp only[aw,Op.operands]at he⊢;rw[he x (by simp),he z (by simp)]
 |unOp op t x=>simp only[aw,Op.operands]at he⊢;rw[he x (by simp)]
 |convert s d x=>simp only[aw,Op.operands]at he⊢;rw[he x (by simp)]
 |sliceToArrayPointer d x=>rfl
 |makeInterface t x=>rfl
 |makeFunc f first cap=>
  simp only[aw,Op.operands]at he⊢;cases f with
  |func f=>simp only;rw[aj8 cap.toList fun x ak=>he x (by simp at ak⊢;exact .inr ak),aj8 first.toList fun x ak=>he x (by simp at ak⊢;exact .inl ak)]
  |_=>rfl
 |makeMap t r=>rfl
 |makeChan t x=>rfl
 |makeSlice t l c=>simp only[aw,Op.operands]at he⊢;rw[he l (by simp),he c (by simp)]
 |slice t x lo hi mx=>simp only[aw,Op.operands]at he⊢;rw[he x (by simp),opt (x:=lo) fun z bp=>he z (by simp[bp]),opt (x:=hi) fun z bp=>he z (by simp[bp]),opt (x:=mx) fun z bp=>he z (by simp[bp])]
 |fieldAddr t x f=>simp only[aw,Op.operands]at he⊢;rw[he x (by simp)]
 |field t x f=>simp only[aw,Op.operands]at he⊢;rw[he x (by simp)]
 |indexAddr t x i=>simp only[aw,Op.operands]at he⊢;rw[he x (by simp),he i (by simp)]
 |index t x i=>simp only[aw,Op.operands]at he⊢;rw[he x (by simp),he i (by simp)]
 |lookup t x k ok=>simp only[aw,Op.operands]at he⊢;rw[he x (by simp),he k (by simp)]
 |mapUpdate t m k x=>simp only[aw,Op.operands]at he⊢;rw[he m (by simp),he k (by simp),he x (by simp)]
 |mapEntry t m k=>rfl
 |entryStore t m s x=>rfl
 |range t x=>simp only[aw,Op.operands]at he⊢;rw[he x (by simp)]
 |next x s=>cases s<;>simp only[aw,Op.operands]at he⊢;rw[he x (by simp)]
 |entry x=>rfl
 |typeAssert x t u ok=>rfl
 |extract x i=>simp only[aw,Op.operands]at he⊢;rw[he x (by simp)]
 |call c=>
  obtain⟨callee,args,ae⟩:=c;cases callee with
  |builtin b=>simp only[aw,Op.operands,Call.operands]at he⊢;rw[aj8 args.toList fun x ak=>he x (by simpa using ak)]
  |value f=>rfl
  |invoke f m=>rfl
 |go c=>rfl
 |defer c=>rfl
 |panic x=>rfl
 |send c x=>rfl
 |recv t c ok=>rfl
 |select cs b=>rfl
theorem Pq{id:Nat}(he:get h' id=get h id):rr h' id=rr h id:=by unfold rr;rw[he]
theorem aka{t:TypeId}{cs:List a8}{f:a8->jG}(h:tI P t cs (λv=>some (f v))=some e):∃v,e=f v:=by unfold tI at h;grind
theorem Xh{wd:Nat}{z:a8}(aH:tD h wd z=some q)(he:∀id∈q.2,get h' id=get h id):tD h' wd z=some q:=by
 unfold tD at aH⊢;split at aH
 .exact aH
 .rename_i id off len cap EK;split at aH
  .rename_i o7;rw[dE o7];split at aH
   .rename_i cs aa;split at aH
    .rename_i hle;cases aH;rw[Pq (he id bb),aa];simp only[hle,kn]
    .cases aH
   .cases aH
  .cases aH
 .cases aH
theorem Xi{e b':TypeId}{z:a8}(aH:wh P h e b' z=some q)(he:∀id∈q.2,get h' id=get h id):wh P h' e b' z=some q:=by
 unfold wh at aH⊢;split at aH
 .exact aH
 .rename_i e' aQ;split at aH
  .rename_i ke;rw[dE ke];exact Xh aH he
  .cases aH
 .cases aH
theorem akb{e:TypeId}{x:a8}{Fo:jG}(cc:Cs P nid e q x h some=some Fo)(he:∀id∈Fo.reads,get h' id=get h id):Cs P nid e q x h' some=some Fo/\∀id∈q.2,id∈Fo.reads:=by unfold Cs at cc⊢;grind
theorem akc{b:Builtin}{ae:List TypeId}(cc:Ct P nid b ae args h some=some e)(he:∀id∈e.reads,get h' id=get h id):Ct P nid b ae args h' some=some e:=by
 unfold Ct at cc⊢;split at cc
 .unfold Je at cc⊢;split at cc
  .split at cc
   .rename_i aQ;split at cc
    .cases cc
    .rename_i gp;rw[c0 gp];split at cc
     .exact cc
     .rename_i sd;split at cc
      .cases cc
      .rename_i q aH;obtain⟨af,ao⟩:=akb cc he;grind[Xi]
   .cases cc
  .cases cc
 .exact cc
 .exact cc
 .split at cc
  .split at cc
   .rename_i aQ;split at cc
    .cases cc
    .rename_i q aH;split at cc
     .grind[Xi]
     .cases cc
   .cases cc
  .cases cc
 .split at cc
  .grind
  .cases cc
 .exact cc
 .exact cc
 .cases cc
theorem akd(cc:b7 P nid o tm h some=some e)(he:∀id∈e.reads,get h' id=get h id):b7 P nid o tm h' some=some e:=by
 unfold b7 at cc⊢;cases aw:o.op with
 |load t x=>
  simp only[aw]at cc⊢;split at cc
  .rename_i id off ak;split at cc
   .rename_i cs aa;obtain⟨v,rfl⟩:=aka cc;grind[Pq]
   .cases cc
  .cases cc
 |store t x z=>grind
 |convert src dst x=>
  simp only[aw]at cc⊢;split at cc
  .exact cc
  .exact cc
  .exact cc
  .exact cc
  .rename_i e' id off len cap wd an aX ak;split at cc
   .rename_i aa;rw[dE aa];grind[Xh]
   .cases cc
  .grind
  .cases cc
 |slice t x lo hi mx=>
  simp only[aw]at cc⊢;split at cc
  .exact cc
  .exact cc
  .exact cc
  .rename_i k e' id off aQ ak;split at cc
   .cases cc
   .rename_i hw;rw[c0 hw];split at cc
    .rename_i l n cs ay hh aa;split at cc
     .rename_i uS;cases cc;rw[Pq (he id bb),ay,hh,aa];simp only[uS,kn]
     .cases cc
    .cases cc
  .cases cc
 |next x s=>
  cases s with
  |false=>grind
  |true=>grind
 |lookup t x k ok=>
  simp only[aw]at cc⊢;split at cc
  .grind
  .cases cc
 |mapUpdate t m k x=>
  simp only[aw]at cc⊢;split at cc
  .grind
  .cases cc
 |call c=>grind[builtin,akc,invoke]
 |makeFunc f first cap=>grind
 |_=>simp only[aw]at cc⊢;exact cc
end op
section draw
variable{P:Program}{aq:Env}{call:h6}{ops:Array Oper}{base:Nat}
theorem Xj{d:Option Tmp}{t:Nat}(h:d≠some t):nth (l' tm d v) t=nth tm t:=by
 cases d with
 |none=>rfl
 |some x=>have bO:x≠t:=λe=>h w7;rw[Fj,Fj];show(tm.set x v).getD t .J=_;grind
theorem Xk{tm':List a8}(aQ:∀t∈o.looksAt ops,nth tm' t=nth tm t):mZ P aq call ops.toList nid o tm' h nx=mZ P aq call ops.toList nid o tm h nx:=by
 have mv:∀x∈o.op.operands.toList,bG tm' x=bG tm x:=λx ak=>by
  cases x with
  |tmp t=>refine aQ t ?_;grind[Oper.looksAt]
  |_=>rfl
 have bu:qB P aq call nid o tm' h nx=qB P aq call nid o tm h nx:=by
  unfold qB;split
  .rename_i f args ae aw;simp only[aw,Op.operands,Call.operands]at mv;have aj8:∀l:List Operand,(∀x∈l,bG tm' x=bG tm x)->iv tm' l=iv tm l:=by
     intro l;induction l with
     |nil=>intro _;rfl
     |cons x l ih=>grind[iv]
   grind
  .rw[OG mv]
 have aB:∀g want,o.guard=some (g,want)->k6 ops.toList tm' g=k6 ops.toList tm g:=λg want sc=>by unfold k6;grind[Oper.looksAt]
 grind[mZ]
theorem ake{e:jG×Nat×Bool}(cc:tJ P aq call g args h nx=some e)(he:∀id∈e.1.reads,get h' id=get h id):tJ P aq call g args h' nx=some e:=by
 unfold tJ at cc⊢;split at cc
 .rename_i gE;rw[dE gE];split at cc
  .exact cc
  .split at cc
   .rename_i aD Pr;obtain⟨_,_,_,ca⟩:=I' 3000 _ _ _ Pr yZ (λi o h=>by simp[get_nil]at h);split at cc
    .rename_i q aH;cases cc;rw[ca h' he];simp only[aH]
    .cases cc
   .cases cc
 .cases cc
theorem Xl{e:jG×Nat×Bool}(cc:qB P aq call nid o tm h nx=some e)(he:∀id∈e.1.reads,get h' id=get h id):qB P aq call nid o tm h' nx=some e:=by
 unfold qB at cc⊢;split at cc
 .grind[ake]
 grind[akd]
theorem Ps{e:jG×Nat×Bool}(cc:mZ P aq call ops.toList nid o tm h nx=some e)(he:∀id∈e.1.reads,get h' id=get h id):mZ P aq call ops.toList nid o tm h' nx=some e:=by
 unfold mZ at cc⊢;split at cc
 .exact Xl cc he
 grind[Xl]
theorem Xm(bR:∀g F,find aq g=some F->Go.Ev.b5 F){bS:Nat}(cc:tJ P aq call g args h nx=some (e,bS,false)):bS=nx/\∀m,tJ P aq call g args h m=some (e,m,false):=by
 unfold tJ at cc⊢;split at cc
 .rename_i gE;split at cc
  .rename_i F hF;have I4:=bR g F hF;rw[I4]at cc;cases an:F AV (a8.aA args) some with
   |none=>rw[an]at cc;cases cc
   |some v=>
    rw[an]at cc;simp only[j0]at cc;split at cc
    .rename_i m hm;simp only[ej,gU,po]at cc;obtain⟨rfl,rfl⟩:=cc;refine⟨rfl,λn=>?_⟩;rw[dE gE,I4,an];grind
    .cases cc
  grind
 .cases cc
theorem Pt(bR:∀g F,find aq g=some F->Go.Ev.b5 F){bS:Nat}(cc:mZ P aq call ops.toList nid o tm h nx=some (e,bS,false)):bS=nx/\∀m,mZ P aq call ops.toList nid o tm h m=some (e,m,false):=by
 have run:∀{bS:Nat}{e:jG},qB P aq call nid o tm h nx=some (e,bS,false)->bS=nx/\∀m,qB P aq call nid o tm h m=some (e,m,false):=λ{bS e} aD=>by
  unfold qB at aD⊢;split at aD
  .split at aD
   .exact Xm bR aD
   .exact Xm bR aD
   .cases aD
  .split at aD
   .grind
   .cases aD
 unfold mZ at cc⊢;split at cc
 .exact run cc
 grind
noncomputable def stepG(P:Program)(aq:Env)(call:h6)(ops:Array Oper)(base i:Nat)(st:dG):Option (dG×kf):=
 match ops[i]?with
 |none=>some (st,⟨[],[],false⟩)
 |some o=>(mZ P aq call ops.toList (base+i) o st.tm st.h st.nx).map λq=>(mA o.dst q.1 q.2.1 st,⟨q.1.reads,q.1.dv.map (·.1),q.2.2⟩)
structure fO(s t:dG):Prop where
 tm:s.tm=t.tm
 h:∀i,get s.h i=get t.h i
 nx:s.nx=t.nx
theorem fO.refl(s:dG):fO s s:=⟨rfl,λ_=>rfl,rfl⟩
def fO.symm{s t:dG}(h:fO s t):fO t s:=⟨h.tm.symm,λi=>(h.h i).symm,h.nx.symm⟩
def fO.trans{s t u:dG}(h:fO s t)(h':fO t u):fO s u:=⟨h.tm.trans h'.tm,λi=>(h.h i).trans (h'.h i),h.nx.trans h'.nx⟩
theorem Xn:∀(l:List (Nat×Option bT))(af ao:List (Nat×bT)),(∀i,get af i=get ao i)->∀i,get (l.foldl hV af) i=get (l.foldl hV ao) i
 |[],_,_,h=>h
 |p::l,af,ao,h=>Xn l _ _ λi=>by grind[lD]
theorem y9:∀(l:List (Nat×Option bT))(h:List (Nat×bT))(i:Nat),i∉l.map (·.1)->get (l.foldl hV h) i=get h i
 |[],_,_,_=>rfl
 |p::l,h,i,hi=>by simp only[iZ,gv,not_or]at hi;rw[jw,y9 l _ i hi.2,lD,c0 hi.1]
theorem akf(l gW:List (Nat×Option bT))(aX:∀i∈l.map (·.1),i∉gW.map (·.1))(h:List (Nat×bT))(i:Nat):get (gW.foldl hV (l.foldl hV h)) i=get (l.foldl hV (gW.foldl hV h)) i:=by
 by_cases af:i∈l.map (·.1)
 .rw[y9 gW _ i (aX i af)];have key:∀(l:List (Nat×Option bT))(af ao:List (Nat×bT)),i∈l.map (·.1)->get (l.foldl hV af) i=get (l.foldl hV ao) i:=by
    intro l;induction l with
    |nil=>intro _ _ hi;simp at hi
    |cons p l ih=>
     intro g1 g2 hi;simp only[jw];by_cases ao:i∈l.map (·.1)
     .exact ih _ _ ao
     exact T4
  exact key l _ _ af
 .rw[y9 l _ i af];by_cases ao:i∈gW.map (·.1)
  .have key:∀(l:List (Nat×Option bT))(af ao:List (Nat×bT)),i∈l.map (·.1)->get (l.foldl hV af) i=get (l.foldl hV ao) i:=by
     intro l;induction l with
     |nil=>intro _ _ hi;simp at hi
     |cons p l ih=>
      intro g1 g2 hi;simp only[jw];by_cases ao:i∈l.map (·.1)
      .exact ih _ _ ao
      exact T4
   exact key gW _ _ ao
  grind[y9]
theorem akg{s t s1:dG}{f:kf}(h:stepG P aq call ops base i s=some (s1,f))(he:fO s t):∃t1,stepG P aq call ops base i t=some (t1,f)/\fO s1 t1:=by
 unfold stepG at h⊢;cases aw:ops[i]?with
 |none=>grind
 |some o=>
  simp only[aw]at h⊢;cases cc:mZ P aq call ops.toList (base+i) o s.tm s.h s.nx with
  |none=>rw[cc]at h;cases h
  |some e=>rw[cc]at h;cases h;rw[<-he.tm,<-he.nx,Ps cc λid _=>(he.h id).symm];exact⟨_,rfl,by show l' s.tm _ _=l' t.tm _ _;rw[he.tm],λi=>Xn _ _ _ he.h i,rfl⟩
structure o6(ops:Array Oper)(h7:Nat->kf)(i j:Nat)(x y:Oper):Prop where
 Cc:∀d,x.dst=some d->d∉y.looksAt ops
 IU:∀d,y.dst=some d->d∉x.looksAt ops
 vO:∀d,x.dst=some d->y.dst≠some d
 f1:∀id∈(h7 i).dv,id∉(h7 j).reads/\id∉(h7 j).dv
 f2:∀id∈(h7 j).dv,id∉(h7 i).reads
 vP:(h7 i).call=false\/(h7 j).call=false
def akh{d eZ:Option Tmp}{da:a8}(h:∀x,d=some x->eZ≠some x):l' (l' tm d v) eZ da=l' (l' tm eZ da) d v:=by
 cases d with
 |none=>cases eZ<;>rfl
 |some x=>
  cases eZ with
  |none=>rfl
  |some gH=>have bO:x≠gH:=λe=>h x rfl w7;exact List.set_comm _ _ bO
theorem aki(bR:∀g F,find aq g=some F->Go.Ev.b5 F){h7:Nat->kf}{j:Nat}{x y:Oper}(ak:ops[i]?=some x)(aN:ops[j]?=some y)(qC:o6 ops h7 i j x y){s1 s2:dG}(af:stepG P aq call ops base i st=some (s1,h7 i))(ao:stepG P aq call ops base j s1=some (s2,h7 j)):
  ∃t1 t2,stepG P aq call ops base j st=some (t1,h7 j)/\stepG P aq call ops base i t1=some (t2,h7 i)/\fO s2 t2:=by
 unfold stepG at af ao⊢
 simp only[ak,aN]at af ao⊢
 cases he:mZ P aq call ops.toList (base+i) x st.tm st.h st.nx with
 |none=>rw[he]at af;cases af
 |some q=>
  obtain⟨e,b0,b2⟩:=q
  rw[he]at af
  simp only[jm,ej,gU]at af
  obtain⟨rfl,wi⟩:=af
  cases aR:mZ P aq call ops.toList (base+j) y (mA x.dst e b0 st).tm (mA x.dst e b0 st).h (mA x.dst e b0 st).nx with
  |none=>rw[aR]at ao;cases ao
  |some q=>
   obtain⟨f,bS,bX⟩:=q
   rw[aR]at ao
   simp only[jm,ej,gU]at ao
   obtain⟨rfl,z7⟩:=ao
   have Bj:(h7 i).reads=e.reads:=by rw[<-wi]
   have hI:(h7 i).dv=e.dv.map (·.1):=by rw[<-wi]
   have DI:(h7 i).call=b2:=by rw[<-wi]
   have pr:(h7 j).reads=f.reads:=by rw[<-z7]
   have nK:(h7 j).dv=f.dv.map (·.1):=by rw[<-z7]
   have oO:(h7 j).call=bX:=by rw[<-z7]
   have uS:=qC.vP
   rw[DI,oO]at uS
   have pI:mZ P aq call ops.toList (base+j) y st.tm st.h b0=some (f,bS,bX):=by rw[<-Xk (tm':=(mA x.dst e b0 st).tm) (tm:=st.tm) λt aQ=>Xj λaX=>qC.Cc t aX aQ];exact Ps aR λid hid=>(y9 _ _ _ λhm=>(qC.f1 id (by rw[hI];exact hm)).1 (by rw[pr];exact hid)).symm
   have qz:∀m,mZ P aq call ops.toList (base+i) x (mA y.dst f m st).tm (mA y.dst f m st).h st.nx=some (e,b0,b2):=λm=>by rw[Xk (tm':=(mA y.dst f m st).tm) (tm:=st.tm) λt aQ=>Xj λaX=>qC.IU t aX aQ];exact Ps he λid hid=>y9 _ _ _ λhm=>qC.f2 id (by rw[nK];exact hm) (by rw[Bj];exact hid)
   have fin:∀m m2,m2=bS->fO (mA y.dst f bS (mA x.dst e b0 st)) (mA x.dst e m2 (mA y.dst f m st)):=λm m2 hm=>by refine⟨akh qC.vO,λfG=>?_,hm.symm⟩;exact akf e.dv f.dv (λid hid=>by rw[<-nK];exact(qC.f1 id (by rw[hI];exact hid)).2) st.h fG
   rcases uS with rfl|rfl
   .obtain⟨rfl,gE⟩:=Pt bR he;have av8:=qz bS;grind[Pt,mA]
   .obtain⟨rfl,dW⟩:=Pt bR pI;exact⟨mA y.dst f st.nx st,mA x.dst e bS (mA y.dst f st.nx st),bM,by grind[mA],fin st.nx bS rfl⟩
noncomputable def sw(P:Program)(aq:Env)(call:h6)(ops:Array Oper)(base:Nat)(h7:Nat->kf):List Nat->dG->dG->Prop
 |[],s,t=>fO s t
 |i::l,s,t=>∃s1,stepG P aq call ops base i s=some (s1,h7 i)/\sw P aq call ops base h7 l s1 t
def sw.eqv{h7:Nat->kf}:∀(l:List Nat){s fF t:dG},fO s fF->sw P aq call ops base h7 l s t->sw P aq call ops base h7 l fF t
 |[],_,_,_,he,h=>he.symm.trans h
 |i::l,s,fF,t,he,⟨s1,af,ao⟩=>by obtain⟨akj,a1,ca⟩:=akg af he;exact⟨akj,a1,sw.eqv l ca ao⟩
def toFrontG(bR:∀g F,find aq g=some F->Go.Ev.b5 F){h7:Nat->kf}{i:Nat}{x:Oper}(ak:ops[i]?=some x):∀(b1 cS:List Nat)(s t:dG),(∀j∈b1,∃y,ops[j]?=some y/\o6 ops h7 j i y x)->sw P aq call ops base h7 (b1++i::cS) s t->
  ∃s1,stepG P aq call ops base i s=some (s1,h7 i)/\sw P aq call ops base h7 (b1++cS) s1 t
 |[],cS,s,t,_,h=>h
 |j::b1,cS,s,t,hi,⟨s1,af,ao⟩=>by obtain⟨y,aN,I1⟩:=hi j bb;obtain⟨s2,a1,ca⟩:=toFrontG bR ak b1 cS s1 t (λk ai=>hi k (by simp[ai])) ao;obtain⟨t1,t2,dA,gB,pO⟩:=aki bR aN ak I1 af a1;exact⟨t1,dA,t2,gB,sw.eqv _ pO ca⟩
end draw
section draw
variable{R:Option Nat}{P:Program}{aq:Env}{call:h6}{ops:Array Oper}{base:Nat}{B:Nat->Prop}{w0 w:World}{df:List Deferred}{ax:du}{st:dG}{a:Act}
theorem akk{a7:List (Nat×bT)}(aJ:(keys h').Nodup)(hh:a7=((aD.map λp=>(p.1,(none:Option bT)))++h'.map λp=>(p.1,some p.2)).foldl hV h)(i:Nat)(o:bT)(aw:get a7 i=some o):get h' i=some o\/(get aD i=none/\get h i=some o):=by grind[WZ,WY,zV]
theorem akl(bR:∀g F,find aq g=some F->SumOK P g F)(e8:kg P call)(ah:bU B w0 w df ax st a){q:jG×Nat×Bool}(ar:ck ax args vs)(h:tJ P aq call g args st.h st.nx=some q):
  entersB P g=true/\Goes P g vs.toArray w λx w'=>∃u cv,x=.returned u/\Ext ax cv/\(∀id,id<st.nx->id≠nid->cv id=ax id)/\st.nx<=q.2.1/\cT cv q.1.v u/\Mem B w0 w' cv (q.1.dv.foldl hV st.h) q.2.1:=by
 unfold tJ at h
 split at h
 .rename_i gE;refine⟨gE,?_⟩;split at h
  .rename_i F hF;have iG:Glb (λb=>b<w.heap.size) w:=Glb.mono (B:=B) (λw' hp=>ah.js w' (ah.kept.trans hp)) ah.ble;have rT:=bR g F hF _ w (λ_=>False) _ _ _ q ⟨λb ag=>ag.elim,iG⟩ (ar.aA w (λ_=>False) Go.Ev.cq) h;refine zW rT λx w' au=>?_;obtain⟨u,v,S',rfl,jd,ag,_,_,kc⟩:=au;split at jd
   .rename_i m rj;cases jd;refine⟨u,ax,rfl,Ext.refl _,λ_ _ _=>rfl,dc _,O6 kc rj,?_⟩;exact⟨ck.nil,rfl,λi x ak=>let⟨q,aH,aw,aB⟩:=ah.obj i x ak;⟨q,aH,aw.gJ (Ext.refl _) (ag.block _ (ah.lt i q aH)),aB⟩,ah.inj,λi q aH=>jK (ah.lt i q aH) ag.size,ah.nx,ah.kept.trans (Kept.xz ag ah.ble),λb h=>jK (ah.ble b h) ag.size,ah.js⟩
   .cases jd
  .split at h
   .rename_i aD Pr;obtain⟨s1,s2,_,_⟩:=I' 3000 _ _ _ Pr yZ (λi o h=>by simp[get_nil]at h);split at h
    .rename_i t aQ;cases h;refine zW (ajk e8 aQ ah.mem s1 s2 ar) λx w' au=>?_;grind[akk]
    .cases h
   .cases h
 .cases h
def akm(bR:∀g F,find aq g=some F->SumOK P g F)(e8:kg P call)(ah:bU B w0 w df ax st a)(aR:ax nid=none)(aL:nid<st.nx){q:jG×Nat×Bool}(h:qB P aq call nid o st.tm st.h st.nx=some q)
  (bg:∀cL w' cv,Ext ax cv->(∀id,id<st.nx->id≠nid->cv id=ax id)->st.nx<=q.2.1->bU B w0 w' df cv (mA o.dst q.1 q.2.1 st) cL->K cL w'):o.cX R P a w K Q:=by
 have called:∀{g:Nat}{args:List a8}{vs:List Value},ck ax args vs->tJ P aq call g args st.h st.nx=some q->(∀s,(callFunc g vs.toArray).run P w=s->(execOp a.eval o).run P w=s)->o.cX R P a w K Q:=λ{g args vs} ar aa bu=>by obtain⟨gE,rT⟩:=akl (nid:=nid) bR e8 ah ar aa;refine rT.wp gE bu λx w' au=>?_;obtain⟨u,cv,rfl,he,bO,hle,jt,dI⟩:=au;exact⟨u,rfl,bg _ _ cv he bO hle (dI.act (Hr (ah.tm.mono he) o.dst jt) S9)⟩
 unfold qB at h
 split at h
 .rename_i f args ae aw;have gY:=e0 ah.tm f;have jE:=wb ah.tm args.toList;split at h
  .rename_i g gF ly;rw[ly]at gY;generalize Fi:a.eval f=vE at gY;cases gY with
   |fn _ _ hn di ir=>have pw:(args.map a.eval)++hn.toArray=(args.toList.map a.eval++hn).toArray:=ml;exact called (jE.append ⟨di,ir⟩) h λs yS=>DJ
  .rename_i g first ly
   rw[ly]at gY;generalize Fi:a.eval f=vE at gY;cases gY with
   |lR _ _ hn di ir=>have pw:hn.toArray++(args.map a.eval)=(hn++args.toList.map a.eval).toArray:=ml;exact called (ck.append ⟨di,ir⟩ jE) h λs yS=>DJ
  .cases h
 .split at h
  .rename_i e mv;cases h;obtain⟨e',aN,dS⟩:=EM ah aR aL mv;cases aN;obtain⟨u,w',cv,aD,he,aw,ar,dI⟩:=dS;have sg:=bg (a.put o.dst u) w' cv he (λid _ hid=>aw id hid) (dc _) (dI.I5 o.dst ar λ_=>rfl);rcases aD with aD|⟨aD,rfl⟩
   .exact wp_value aD sg
   .exact wp_skip' aD sg
  .cases h
def akn(bR:∀g F,find aq g=some F->SumOK P g F)(e8:kg P call){t:dG}{f:kf}(an:stepG P aq call ops base i st=some (t,f))(ah:bU B w0 w df ax st a)(aR:ax (base+i)=none)(aL:base+i<st.nx)
  (bg:∀cL w' cv,Ext ax cv->(∀id,id<st.nx->id≠base+i->cv id=ax id)->st.nx<=t.nx->bU B w0 w' df cv t cL->K cL w'):wpOpIn (l7 R) 0 P ops Q i K a w:=by
 unfold wpOpIn
 unfold stepG at an
 cases aw:ops[i]?with
 |none=>simp only[aw]at an;cases an;exact bg a w ax (Ext.refl _) (λ_ _ _=>rfl) (dc _) ah
 |some o=>
  simp only[aw]at an⊢
  cases cc:mZ P aq call ops.toList (base+i) o st.tm st.h st.nx with
  |none=>rw[cc]at an;cases an
  |some e=>
   rw[cc]at an
   simp only[jm,ej,gU]at an
   obtain⟨rfl,_⟩:=an
   have run:qB P aq call (base+i) o st.tm st.h st.nx=some e->o.cX R P a w K Q:=λaD=>akm bR e8 ah aR aL aD bg
   have skip:e=({v:=.undef},st.nx,false)->K (a.put o.dst undef) w:=λaD=>by subst aD;exact bg _ _ ax (Ext.refl _) (λ_ _ _=>rfl) (dc _) (ah.I5 o.dst .undef λ_=>rfl)
   unfold mZ at cc
   split at cc
   .rename_i aB;simp only[Region.wanted,aB,kn];exact run cc
   .rename_i j want aB;obtain⟨zJ,zK⟩:=EN ah.tm ops j;simp only[Region.wanted,aB];split at cc
    .rename_i b ag;rw[zJ b ag];cases p6:(b==want)with
     |true=>simp only[p6,b4]at cc;have pM:b=want:=wZ;simp only[pM,ha,kn];exact run cc
     |false=>simp only[p6,cU,ej]at cc;have pM:¬(some b==some want)=true:=wZ;rw[c0 pM];exact⟨λ_ _=>trivial,skip cc.symm⟩
    .rename_i ag;rw[zK ag];have:¬((none:Option Bool)==some want)=true:=bb;rw[c0 this];exact⟨λ_ _=>trivial,skip (by simpa using cc.symm)⟩
    .cases cc
theorem Pu:∀(l:List Nat)(i:Nat),sx l i=true↔i∈l
 |[],i=>by simp[sx]
 |a::l,i=>by
  show(bif Nat.beq a i then true else sx l i)=true↔_;rw[Fb];by_cases e:a=i
  .simp[e]
  .rw[cZ e];show sx l i=true↔_;rw[Pu l i];grind
theorem Xo:∀(l m:List Nat),z8 l m=true->∀i∈l,i∉m
 |[],m,_,i,hi=>by cases hi
 |a::l,m,h,i,hi=>by
  have h:(bif sx m a then false else z8 l m)=true:=h;cases hm:sx m a with
  |true=>rw[hm]at h;cases h
  |false=>
   rw[hm]at h;rcases gv.1 hi with rfl|hi
   .grind[Pu]
   .exact Xo l m h i hi
def Xp:∀(l:List (List Nat))(n:Nat),z' l n=l.getD n []
 |[],n=>by simp[z']
 |a::l,0=>rfl
 |a::l,n+1=>by show z' l n=_;rw[Xp l n];simp
theorem Xq{a b:kf}(h:Jf a b=true):(a.call=false\/b.call=false)/\(∀i∈a.dv,i∉b.reads/\i∉b.dv)/\∀i∈b.dv,i∉a.reads:=by
 unfold Jf at h;cases aa:a.call&&b.call with
 |true=>rw[aa]at h;cases h
 |false=>
  rw[aa]at h;simp only[cU]at h;cases af:z8 a.dv b.reads with
  |false=>rw[af]at h;cases h
  |true=>
   rw[af]at h;simp only[b4]at h;cases ao:z8 a.dv b.dv with
   |false=>rw[ao]at h;cases h
   |true=>rw[ao]at h;simp only[b4]at h;grind[Xo]
theorem Pv{p:Nat->kf->Bool}:∀(aC:List kf)(n:Nat),Jg p aC n=true->∀i f,aC[i]?=some f->p (n+i) f=true
 |[],n,_,i,f,aR=>by simp at aR
 |a::aC,n,h,i,f,aR=>by
  have h:(bif p n a then Jg p aC (Nat.succ n)else false)=true:=h;cases au:p n a with
  |false=>rw[au]at h;cases h
  |true=>
   rw[au]at h;cases i with
   |zero=>grind
   |succ i=>have:=Pv aC (Nat.succ n) h i f (by simpa using aR);grind
theorem Xr(h:xW ops aC=true):Jh ops=true/\aC.length=ops.size/\Pw (ancTab ops.toList) aC=true:=by simp_all[xW]
theorem Xs(h:xW ops aC=true){j:Nat}(aw:ops[j]?=some o):∀e∈o.after,Region.binds .any e=true->e.on<j:=by have h:=(Xr h).1;unfold Jh at h;rw[ec]at h;have af:=h j bM;simp only[aw,jm,Dy,ba]at af;intro e he ag;have:=Array.all_eq_true'.1 af.1 e he;simp_all
theorem ako(h:xW ops aC=true){j:Nat}{x y:Oper}(ak:ops[i]?=some x)(aN:ops[j]?=some y)(l4:i<j)(aJ:i∉(ancTab ops.toList).getD j []):o6 ops (λn=>aC.getD n ⟨[],[],false⟩) i j x y:=by
 obtain⟨fx,hlen,Xt⟩:=Xr h;have akp:sx (z' (ancTab ops.toList) j) i=false:=by
  rw[Xp];cases hm:sx ((ancTab ops.toList).getD j []) i with
  |false=>rfl
  |true=>exact absurd ((Pu _ _).1 hm) aJ
 unfold Jh at fx;rw[ec]at fx;have af:=fx j bM;simp only[ba]at af;have ao:=(ec.1 af.2) i bM;simp only[ak,aN,akp,qS]at ao;obtain⟨bJ,a2,a3⟩:=Oper.apart_spec ao;have hi:i<aC.length:=by rw[hlen];exact(s0.1 ak).1
 have aP:j<aC.length:=by rw[hlen];exact(s0.1 aN).1
 have wi:aC[i]?=some aC[i]:=fC hi;have z7:aC[j]?=some aC[j]:=fC aP;have Fo:aC.getD i ⟨[],[],false⟩=aC[i]:=by simp[wi]
 have av9:aC.getD j ⟨[],[],false⟩=aC[j]:=by simp[z7]
 have pair:∀(u v:Nat)(f g:kf),aC[u]?=some f->aC[v]?=some g->Nat.beq v u=false->Ji (ancTab ops.toList) v u=false->(f.dv.isEmpty&& !f.call)=false->Jf f g=true:=λu v f g hu ar xq cI aH=>by unfold Pw at Xt;have:=Pv aC 0 Xt u f hu;simp only[aH,cU]at this;grind[Pv]
 have key:(aC[i].call=false\/aC[j].call=false)/\(∀id∈aC[i].dv,id∉aC[j].reads/\id∉aC[j].dv)/\∀id∈aC[j].dv,id∉aC[i].reads:=by
  cases aH:aC[i].dv.isEmpty&& !aC[i].call with
  |false=>refine Xq (pair i j _ _ wi z7 (by grind[Fb]) ?_ aH);grind[Ji,Nat.blt_eq]
  |true=>
   simp only[ba,jZ,List.isEmpty_iff]at aH;cases Aa:aC[j].dv.isEmpty&& !aC[j].call with
   |true=>simp_all
   |false=>obtain⟨eO,eW,kq⟩:=Xq (pair j i _ _ z7 wi (by grind[Fb]) (by grind[Ji,Nat.blt_eq]) Aa);grind
 refine⟨bJ,a3,a2,λid hid=>?_,λid hid=>?_,?_⟩
 .grind
 .grind
 grind
def o6.symm{h7:Nat->kf}{j:Nat}{x y:Oper}(h:o6 ops h7 i j x y):o6 ops h7 j i y x:=⟨h.IU,h.Cc,λd aX ak=>h.vO d ak aX,λid hid=>⟨h.f2 id hid,λhm=>(h.f1 id hm).2 hid⟩,λid hid=>(h.f1 id hid).1,h.vP.symm⟩
theorem akq(bR:∀g F,find aq g=some F->SumOK P g F)(cG:∀g F,find aq g=some F->Go.Ev.b5 F)(e8:kg P call)(hT:xW ops aC=true){fin:dG}{qx:du}{n0:Nat}
  (e9:∀a w cv,Ext qx cv->(∀id,id<base->cv id=qx id)->n0<=fin.nx->bU B w0 w df cv fin a->Q .normal a w):
  ∀(fuel:Nat)(listed:Array Bool)(st:dG)(a:Act)(w:World)(ax:du),listed.size=ops.size->(rem listed ops.size).length<=fuel->
   (∀j,j<ops.size->listed.getD j false=true->∀y∈(ancTab ops.toList).getD j [],listed.getD y false=true)->
   sw P aq call ops base (λn=>aC.getD n ⟨[],[],false⟩) (rem listed ops.size) st fin->Ext qx ax->(∀id,id<base->ax id=qx id)->(∀j,j<ops.size->listed.getD j true=false->ax (base+j)=none)->base+ops.size<=st.nx->n0<=st.nx->
   bU B w0 w df ax st a->wpAnyIn (l7 R) 0 P .any ops Q fuel listed a w:=by
 have done:∀(listed:Array Bool)(st:dG)(a:Act)(w:World)(ax:du),listed.size=ops.size->Region.ready .any ops listed=[]->
   sw P aq call ops base (λn=>aC.getD n ⟨[],[],false⟩) (rem listed ops.size) st fin->Ext qx ax->(∀id,id<base->ax id=qx id)->n0<=st.nx->bU B w0 w df ax st a->Q .normal a w:=by
  intro listed st a w ax kO aD bu he bO hU eE
  have sj:rem listed ops.size=[]:=by
   by_cases bO:rem listed ops.size=[]
   .exact bO
   .exfalso;have hex:∃i,i<ops.size/\listed.getD i true=false:=SG;have key:∀i,i<ops.size->listed.getD i true=false->False:=by
      intro i;induction i using Nat.strongRecOn with
      |ind i ih=>intro hi hu;have:i∈Region.ready .any ops listed:=mem_ready.2 ⟨hu,_,Bf hi,λe he ag=>by have aL:=Xs hT (Bf hi) e he ag;grind⟩;grind
    grind
  rw[sj]at bu
  have cg:fO st fin:=bu
  have ay:=eE.look (h':=fin.h) λi=>(cg.h i).symm
  refine e9 a w ax he bO (by rw[<-cg.nx];exact hU) ?_
  have aU:fin=⟨st.tm,fin.h,st.nx⟩:=by rw[cg.tm,cg.nx]
  rw[aU]
  exact ay
 intro fuel
 induction fuel with
 |zero=>
  intro listed st a w ax kO hlen di bu he bO kK ag hU eE
  have sj:rem listed ops.size=[]:=pn al
  have aD:Region.ready .any ops listed=[]:=by refine List.eq_nil_iff_forall_not_mem.2 λi hi=>?_;obtain⟨hu,o,aw,_⟩:=mem_ready.1 hi;have:i∈rem listed ops.size:=mem_rem.2 ⟨(s0.1 aw).1,hu⟩;rw[sj]at this;cases this
  exact⟨aD,done listed st a w ax kO aD bu he bO hU eE⟩
 |succ fuel ih=>
  intro listed st a w ax kO hlen di bu he bO kK ag hU eE
  refine⟨λaD=>done listed st a w ax kO aD bu he bO hU eE,λi hi=>?_⟩
  obtain⟨hu,o,aw,cn⟩:=mem_ready.1 hi
  have dt:=(s0.1 aw).1
  obtain⟨b1,cS,hI,nK,mU⟩:=rem_split kO dt hu
  have aiU:∀y∈(ancTab ops.toList).getD i [],listed.getD y false=true:=λy aN=>by
   obtain⟨e,he,ag,ao⟩:=tab_spec aw aN;have aL:=Xs hT aw e he ag;have a1:=cn e he ag;rcases ao with rfl|ao
   .exact a1
   .exact di e.on al a1 y ao
  rw[hI]at bu
  obtain⟨t,af,ao⟩:=toFrontG cG aw b1 cS st fin (λj aP=>by grind[ako]) bu
  refine akn bR e8 af eE (kK i dt hu) al λcL w' cv uD Nu p8 zT=>?_
  refine ih (listed.setIfInBounds i true) t cL w' cv (by simpa using kO) ?_ ?_ (by rw[nK];exact ao) (he.trans uD) (λid hid=>(Nu id al al).trans (bO id hid)) (λj aP E9=>?_) al al zT
  .grind
  .intro j aP E9 y aN;by_cases sn:i=j
   .grind[getD_set_true]
   .rw[getD_set_ne false sn]at E9;grind[getD_set_true]
  .by_cases sn:i=j
   .simp_all
   .rw[getD_set_ne true sn]at E9;grind
theorem Xu{aj:Type}{k:dG->List kf->Option aj}{r:aj}:∀(l:List Oper)(i:Nat)(st:dG)(aC:List kf),Cn P aq call base ops.toList k i l st aC=some r->l=ops.toList.drop i->aC.length=i->(keys st.h).Nodup->
  ∃bB gs,k bB (aC++gs)=some r/\sw P aq call ops base (λn=>(aC++gs).getD n ⟨[],[],false⟩) (List.range' i l.length) st bB/\(keys bB.h).Nodup
 |[],_,st,aC,ai,_,_,aJ=>⟨st,[],by rw[jy];exact ai,fO.refl _,aJ⟩
 |o::l,i,st,aC,h,ay,aR,aJ=>by
  have aw:ops[i]?=some o:=by rw[<-yB];have:=dh (λz=>z[0]?) ay;simpa using this.symm
  simp only[Cn]at h;split at h
  .rename_i q he;obtain⟨e,n,c⟩:=q;obtain⟨af,ao,a1,ca⟩:=Fc e.dv false st.h h aJ (λaR=>by cases aR);obtain⟨bB,gs,g1,g2,g3⟩:=Xu l (i+1) _ _ ao (by have:=dh List.tail ay;grind[List.tail_drop]) (by simp[aR]) ca;refine⟨bB,⟨e.reads,e.dv.map (·.1),c⟩::gs,by simpa using g1,?_,g3⟩;have aU:aC++[⟨e.reads,e.dv.map (·.1),c⟩]++gs=aC++⟨e.reads,e.dv.map (·.1),c⟩::gs:=bb;rw[aU]at g2;rw[e5,List.range'_succ];refine⟨mA o.dst e n st,?_,sw.eqv (s:=⟨l' st.tm o.dst e.v,af,n⟩) _ ⟨rfl,a1,rfl⟩ g2⟩;simp_all[stepG]
  .cases h
theorem Xv(bR:∀g F,find aq g=some F->SumOK P g F)(cG:∀g F,find aq g=some F->Go.Ev.b5 F)(hm:P.follows .mixedOrders=true)(e8:kg P call):Fl P aq call:=by
 intro R aj B w0 w df ax st a id ops k r base Q h ah aJ kK tF bg;obtain⟨fin,gs,af,ao,a1⟩:=Xu (ops:=ops) ops.toList 0 st [] h bb rfl aJ;simp only[pj]at af ao;split at af
 .rename_i hT;refine wpIn_region_any hm ?_;have eE:bU B w0 {w with drawn:=w.drawn+1} df ax st a:=⟨ah.tm,ah.df,λi x ak=>let⟨q,aH,aw,aB⟩:=ah.obj i x ak;⟨q,aH,aw.gJ (Ext.refl _) rfl,aB⟩,ah.inj,ah.lt,ah.nx,ah.kept.trans ⟨rfl,rfl,rfl,dc _,λ_ _=>rfl⟩,ah.ble,ah.js⟩;refine akq (B:=B) (w0:=w0) (df:=df) (qx:=ax) (n0:=st.nx) bR cG e8 hT (λcL w' cv he bO hle zT=>bg fin gs cL w' cv af he bO hle zT a1) ops.size _ st a _ ax bb (by rw[rem_none];simp) (λj aP ay=>?_) ?_ (Ext.refl _) (λ_ _=>rfl) (λj aP _=>kK j aP) tF (dc _) eE
  .simp[aP]at ay
  grind[rem_none]
 .cases af
end draw
open Go.Ev (AV Sh Summ Env Ex find entersB hasBody nilB VRel VRels Kept Glb Goes SumOK)
def Px:Value->Value->Bool
 |.nilIface,.nilIface=>true
 |.pointer none,.pointer none=>true
 |.nilFunc,.nilFunc=>true
 |.map none,.map none=>true
 |_,_=>false
theorem akr:∀{a b:Value},Px a b=true->a=b:=by intro a b h;unfold Px at h;grind
mutual
noncomputable def py:a8->a8->Bool
 |.J,.J=>true
 |.undef,.undef=>true
 |.int k n,.int cl k'=>Nat.beq (Cu k) (Cu cl)&&Py n k'
 |.bool b,.bool kE=>bif b then kE else !kE
 |.str s,.str fF=>Jj s fF
 |.nl v,.nl da=>Px v da
 |.agg cs,.agg ds=>ru cs ds
 |.tup cs,.tup ds=>ru cs ds
 |.ptr a b,.ptr cL kE=>Nat.beq a cL&&Nat.beq b kE
 |.bA a b c d e,.bA cL kE c' eZ e'=>Nat.beq a cL&&(Nat.beq b kE&&(Nat.beq c c'&&(Nat.beq d eZ&&Nat.beq e e')))
 |.bf,.bf=>true
 |.fn f cs,.fn tx ds=>Nat.beq f tx&&ru cs ds
 |.lR f cs,.lR tx ds=>Nat.beq f tx&&ru cs ds
 |.mp a,.mp cL=>Nat.beq a cL
 |.it a,.it cL=>Nat.beq a cL
 |_,_=>false
noncomputable def ru:List a8->List a8->Bool
 |[],[]=>true
 |c::cs,d::ds=>py c d&&ru cs ds
 |_,_=>false
end
theorem aks{k cl:IntKind}(h:Nat.beq (Cu k) (Cu cl)=true):k=cl:=by simp_all[akt,bH]
mutual
theorem aku:∀(a b:a8),py a b=true→a=b
 |.J,b,h=>by cases b<;>first|rfl|(simp[py]at h)
 |.undef,b,h=>by cases b<;>first|rfl|(simp[py]at h)
 |.int k n,b,h=>by cases b<;>simp only[py,Bool.and_eq_true,Bool.false_eq_true]at h;have af:=aks h.1;have ao:=h.2;rw[akv,beq_iff_eq]at ao;rw[af,ao]
 |.bool x,b,h=>by cases b<;>simp only[py,Bool.false_eq_true]at h;rename_i y;cases x<;>cases y<;>first|rfl|cases h
 |.str s,b,h=>by cases b<;>simp only[py,Bool.false_eq_true]at h;rw[Pz,beq_iff_eq]at h;rw[h]
 |.nl v,b,h=>by cases b<;>simp only[py,Bool.false_eq_true]at h;rw[akr h]
 |.agg cs,b,h=>by cases b<;>simp only[py,Bool.false_eq_true]at h;rw[Bm cs _ h]
 |.tup cs,b,h=>by cases b<;>simp only[py,Bool.false_eq_true]at h;rw[Bm cs _ h]
 |.ptr x y,b,h=>by cases b<;>simp only[py,Bool.and_eq_true,Bool.false_eq_true,Nat.beq_eq]at h;rw[h.1,h.2]
 |.bA bJ a2 a3 a4 a5,b,h=>by cases b<;>simp only[py,Bool.and_eq_true,Bool.false_eq_true,Nat.beq_eq]at h;rw[h.1,h.2.1,h.2.2.1,h.2.2.2.1,h.2.2.2.2]
 |.bf,b,h=>by cases b<;>first|rfl|(simp[py]at h)
 |.fn f cs,b,h=>by cases b<;>simp only[py,Bool.and_eq_true,Bool.false_eq_true,Nat.beq_eq]at h;rw[h.1,Bm cs _ h.2]
 |.lR f cs,b,h=>by cases b<;>simp only[py,Bool.and_eq_true,Bool.false_eq_true,Nat.beq_eq]at h;rw[h.1,Bm cs _ h.2]
 |.mp x,b,h=>by cases b<;>simp only[py,Bool.false_eq_true,Nat.beq_eq]at h;rw[h]
 |.it x,b,h=>by cases b<;>simp only[py,Bool.false_eq_true,Nat.beq_eq]at h;rw[h]
 |.iq x,b,h=>by cases b<;>simp[py]at h
theorem Bm:∀(a b:List a8),ru a b=true->a=b
 |[],b,h=>by grind[ru]
 |c::cs,b,h=>by
  cases b with
  |nil=>simp[ru]at h
  |cons d ds=>simp only[ru,ba]at h;rw[aku c d h.1,Bm cs ds h.2]
end
noncomputable def PA:bT->bT->Bool
 |.cells false cs,.cells false ds=>ru cs ds
 |.cells true cs,.cells true ds=>ru cs ds
 |.iter s p,.iter fF fk=>Jj s fF&&Nat.beq p fk
 |_,_=>false
theorem akw:∀{a b:bT},PA a b=true->a=b:=by
 intro a b h;unfold PA at h;split at h
 .rw[Bm _ _ h]
 .rw[Bm _ _ h]
 .simp_all[ba,wS,Pz,h0]
 .cases h
noncomputable def Ab:List (Nat×bT)->List (Nat×bT)->Bool
 |[],[]=>true
 |a::l,b::m=>Nat.beq a.1 b.1&&(PA a.2 b.2&&Ab l m)
 |_,_=>false
theorem Xw:∀(a b:List (Nat×bT)),Ab a b=true->a=b
 |[],[],_=>rfl
 |a::l,b::m,h=>by simp only[Ab,ba,wS]at h;rw[Xw l m h.2.2];congr 1;grind[Prod.ext,akw]
 |[],_::_,h=>by simp[Ab]at h
 |_::_,[],h=>by simp[Ab]at h
structure jT where
 g:Nat
 nx:Nat
 args:List a8
 h:List (Nat×bT)
 v:a8
 h':List (Nat×bT)
 fN:Nat
noncomputable def Jk:List jT->Nat->List a8->List (Nat×bT)->Nat->Option jT
 |[],_,_,_,_=>none
 |p::bj,g,args,h,nx=>bif Nat.beq p.nx nx&&(Nat.beq p.g g&&(ru p.args args&&Ab p.h h))then some p else Jk bj g args h nx
noncomputable def PB(bj:List jT)(call:h6):h6:=λaj g args h nx k=>
 match Jk bj g args h nx with
 |some p=>k p.v p.h' p.fN
 |none=>call aj g args h nx k
def mb(P:Program)(p:jT):Prop:=∃call:h6,kg P call/\call (a8×List (Nat×bT)×Nat) p.g p.args p.h p.nx (λv h n=>some (v,h,n))=some (p.v,p.h',p.fN)
theorem Xx{g:Nat}{args:List a8}{h:List (Nat×bT)}{nx:Nat}{p:jT}:∀(bj:List jT),Jk bj g args h nx=some p->p∈bj/\p.nx=nx/\p.g=g/\p.args=args/\p.h=h
 |[],ay=>by cases ay
 |q::bj,ay=>by
  simp only[Jk]at ay;cases aa:Nat.beq q.nx nx&&(Nat.beq q.g g&&(ru q.args args&&Ab q.h h))with
  |true=>rw[aa]at ay;cases ay;simp only[ba,wS]at aa;grind[Bm,Xw]
  |false=>rw[aa]at ay;obtain⟨af,ao⟩:=Xx bj ay;grind
theorem akx{P:Program}{bj:List jT}(au:∀p∈bj,mb P p){call:h6}(e8:kg P call):kg P (PB bj call):=by
 intro aj g args h nx k r B w0 w ax vs ai hm aJ ar;unfold PB at ai;split at ai
 .rename_i p ay;obtain⟨se,rfl,rfl,rfl,rfl⟩:=Xx bj ay;obtain⟨awa,aky,bu⟩:=au p se;refine zW (aky _ p.g p.args p.h p.nx _ _ B w0 w ax vs bu hm aJ ar) λe w' eE=>?_;grind
 .exact e8 aj g args h nx k r B w0 w ax vs ai hm aJ ar
end Go.Mi
namespace Go.Proofs.YtijdnecnjenleaaGreatDoor
open Go.Ev Go.Mi
noncomputable def lS:Env:={pure:=[(159,xX),(187,aK Jl),(254,aK Fp),(208,aK Jm),(158,aK Jn),(312,aK Jo)]}
def g0:aM Tryz.prog {pure:=[]}:=aM.empty
def Cv:aM Tryz.prog lS:=aM.br (aM.br (aM.br (aM.br (aM.br (aM.br g0 akz) Xy) akA) akB) akC) Xz
def m'(n:Nat):kg Tryz.prog (jS Tryz.prog lS id n).1:=(Pp Cv.pure (λ_ e8=>Xv Cv.pure (λg F h=>Cv.xI g F h) sy e8) (λ_ e8=>e8) n).1
def i(n:Int):a8:=.int .i64 n
def hB(l:List Nat):List a8:=l.map λn=>.int .u8 (Int.ofNat n)
open Tryz
def XA:jT:={g:=24,nx:=56,args:=[.agg [.bf,i 0],.agg [.str [115,64,120],.bA 26 0 1 1 2,.str [55],.bf,.bf],i 0],h:=[(26,.cells false [.str [97,64,121],i 7])],v:=.tup [.agg [.bA 1005 0 1 1 10,i 1],i 0,.agg [i 0,i 0]],h':=[(995,.cells false [.str [97,64,121],i 7,i 0,.bool false]),(957,.cells false [.str [97,64,121],i 7]),(1005,.cells false [i 0,.str [115,64,120],.bA 957 0 1 1 2,.str [55],.bf,.bf,i 0,i 0,i 0,.bA 995 0 1 1 4]),(26,.cells false [.str [97,64,121],i 7])],fN:=1023}
def akD:mb prog XA:=⟨(jS prog lS id 60).1,m' 60,aG⟩
def XB:jT:={g:=67,nx:=1054,args:=[.bf,.agg [i 1,i 0,.str [115,64,120],.bA 26 0 1 1 2,.str [55],.bf,.bf,i 0,.str [],.bf,.bf]],h:=[(26,.cells false [.str [97,64,121],i 7])],v:=.tup [.bA 4996 0 95 95 1,.agg [i 0,i 0]],h':=[(4996,.cells false (hB [79,0,0,0,0,0,0,0,1,0,0,0,0,0,0,0,0,0,0,0,0,0,0,0,3,0,0,0,0,0,0,0,115,64,120,1,0,0,0,0,0,0,0,3,0,0,0,0,0,0,0,97,64,121,7,0,0,0,0,0,0,0,1,0,0,0,0,0,0,0,55,0,0,0,0,0,0,0,0,0,0,0,0,0,0,0,0,25,65,130,53,209,47,17,28])),(26,.cells false [.str [97,64,121],i 7])],fN:=5039}
def akE:mb prog XB:=⟨(jS prog lS id 60).1,m' 60,aG⟩
def XC:jT:={g:=9,nx:=5069,args:=[.agg [.bA 1005 0 1 1 10,i 1],i 0],h:=[(995,.cells false [.str [97,64,121],i 7,i 0,.bool false]),(957,.cells false [.str [97,64,121],i 7]),(1005,.cells false [i 0,.str [115,64,120],.bA 957 0 1 1 2,.str [55],.bf,.bf,i 0,i 0,i 0,.bA 995 0 1 1 4])],v:=.tup [.bA 6820 0 1 1 3,.agg [i 0,i 0]],h':=[(6772,.cells false [i 0]),(6820,.cells false [i 0,.str [121],.bA 6772 0 1 1 1]),(995,.cells false [.str [97,64,121],i 7,i 0,.bool false]),(957,.cells false [.str [97,64,121],i 7]),(1005,.cells false [i 0,.str [115,64,120],.bA 957 0 1 1 2,.str [55],.bf,.bf,i 0,i 0,i 0,.bA 995 0 1 1 4])],fN:=6835}
def akF:mb prog XC:=⟨(jS prog lS id 60).1,m' 60,aG⟩
def XD:jT:={g:=168,nx:=10596,args:=[.agg [.str [99,108,105,101,110,116],.str [115,64,120],.bA 10004 0 1 1 2,.str [55],.bf,.bf,.bool false,.bf,i 0,.bool false,.bool false,.bA 9985 0 1 1 1],.bA 10499 0 8 8 1],h:=[(10499,.cells false (hB [50,50,48,32,109,120,13,10])),(9985,.cells false [i 0]),(10004,.cells false [.str [97,64,121],i 7])],v:=.tup [.agg [.str [99,108,105,101,110,116],.str [115,64,120],.bA 12078 0 1 1 2,.str [55],.bf,.bf,.bool false,.bA 13766 0 0 0 1,i 1,.bool false,.bool false,.bA 12106 0 1 1 1],.bA 13707 0 14 14 1,.agg [i 0,i 0]],h':=[(13707,.cells false (hB [104,101,108,108,111,32,99,108,105,101,110,116,13,10])),(12106,.cells false [i 0]),(13766,.cells false []),(12078,.cells false [.str [97,64,121],i 7]),(10499,.cells false (hB [50,50,48,32,109,120,13,10])),(9985,.cells false [i 0]),(10004,.cells false [.str [97,64,121],i 7])],fN:=13790}
def akG:mb prog XD:=⟨(jS prog lS id 60).1,m' 60,aG⟩
def XE:jT:={g:=169,nx:=13908,args:=[.agg [.str [109,120],i 12000,i 60,i 0,.bool false,.bool false,.str [],.bf,.bf,.bf,i 0,i 0,.bool false,i 0,.bool false,.bool false,i 0],.bA 13811 0 14 14 1],h:=[(13811,.cells false (hB [104,101,108,108,111,32,99,108,105,101,110,116,13,10]))],v:=.tup [.agg [.str [109,120],i 12000,i 60,i 0,.bool true,.bool false,.str [],.bf,.bf,.bf,i 0,i 0,.bool false,i 0,.bool false,.bool false,i 0],.bA 17143 0 1 1 2,.bf,.agg [i 0,i 0]],h':=[(17132,.cells false [.str [109,120],.str [115,105,122,101,32,49,50,48,48,48],.str [114,101,99,105,112,105,101,110,116,115,32,54,48]]),(17143,.cells false [i 250,.bA 17132 0 3 3 1]),(13811,.cells false (hB [104,101,108,108,111,32,99,108,105,101,110,116,13,10]))],fN:=17170}
def akH:mb prog XE:=⟨(jS prog lS id 60).1,m' 60,aG⟩
def XF:jT:={g:=168,nx:=18202,args:=[.agg [.str [99,108,105,101,110,116],.str [115,64,120],.bA 12078 0 1 1 2,.str [55],.bf,.bf,.bool false,.bA 13766 0 0 0 1,i 1,.bool false,.bool false,.bA 12106 0 1 1 1],.bA 18101 0 43 43 1],h:=[(18101,.cells false (hB [50,53,48,45,109,120,13,10,50,53,48,45,115,105,122,101,32,49,50,48,48,48,13,10,50,53,48,32,114,101,99,105,112,105,101,110,116,115,32,54,48,13,10])),(12106,.cells false [i 0]),(13766,.cells false []),(12078,.cells false [.str [97,64,121],i 7])],v:=.tup [.agg [.str [99,108,105,101,110,116],.str [115,64,120],.bA 19684 0 1 1 2,.str [55],.bf,.bf,.bool false,.bA 24916 0 0 0 1,i 2,.bool false,.bool false,.bA 19712 0 1 1 1],.bA 24857 0 19 19 1,.agg [i 0,i 0]],h':=[(24857,.cells false (hB [109,97,105,108,32,60,115,64,120,62,32,115,105,122,101,61,50,13,10])),(19712,.cells false [i 0]),(24916,.cells false []),(19684,.cells false [.str [97,64,121],i 7]),(18101,.cells false (hB [50,53,48,45,109,120,13,10,50,53,48,45,115,105,122,101,32,49,50,48,48,48,13,10,50,53,48,32,114,101,99,105,112,105,101,110,116,115,32,54,48,13,10])),(13766,.cells false []),(12106,.cells false [i 0]),(12078,.cells false [.str [97,64,121],i 7])],fN:=24940}
set_option maxRecDepth 1000000 in
def akI:mb prog XF:=⟨(jS prog lS id 60).1,m' 60,aG⟩
def XG:jT:={g:=169,nx:=25058,args:=[.agg [.str [109,120],i 12000,i 60,i 0,.bool true,.bool false,.str [],.bf,.bf,.bf,i 0,i 0,.bool false,i 0,.bool false,.bool false,i 0],.bA 24961 0 19 19 1],h:=[(24961,.cells false (hB [109,97,105,108,32,60,115,64,120,62,32,115,105,122,101,61,50,13,10]))],v:=.tup [.agg [.str [109,120],i 12000,i 60,i 0,.bool true,.bool true,.str [115,64,120],.bf,.bf,.bf,i 0,i 0,.bool false,i 0,.bool false,.bool false,i 0],.bA 29028 0 1 1 2,.bf,.agg [i 0,i 0]],h':=[(29017,.cells false [.str [111,107]]),(29028,.cells false [i 250,.bA 29017 0 1 1 1]),(24961,.cells false (hB [109,97,105,108,32,60,115,64,120,62,32,115,105,122,101,61,50,13,10]))],fN:=29055}
set_option maxRecDepth 1000000 in
def akJ:mb prog XG:=⟨(jS prog lS id 60).1,m' 60,aG⟩
def XH:jT:={g:=168,nx:=29407,args:=[.agg [.str [99,108,105,101,110,116],.str [115,64,120],.bA 19684 0 1 1 2,.str [55],.bf,.bf,.bool false,.bA 24916 0 0 0 1,i 2,.bool false,.bool false,.bA 19712 0 1 1 1],.bA 29306 0 8 8 1],h:=[(29306,.cells false (hB [50,53,48,32,111,107,13,10])),(19712,.cells false [i 0]),(24916,.cells false []),(19684,.cells false [.str [97,64,121],i 7])],v:=.tup [.agg [.str [99,108,105,101,110,116],.str [115,64,120],.bA 30889 0 1 1 2,.str [55],.bf,.bf,.bool false,.bA 32626 0 0 0 1,i 3,.bool false,.bool false,.bA 30917 0 1 1 1],.bA 32567 0 41 41 1,.agg [i 0,i 0]],h':=[(32567,.cells false (hB [114,99,112,116,32,60,97,64,121,62,32,110,111,116,105,102,121,61,102,97,105,108,117,114,101,44,100,101,108,97,121,44,115,117,99,99,101,115,115,13,10])),(30917,.cells false [i 0]),(32626,.cells false []),(30889,.cells false [.str [97,64,121],i 7]),(29306,.cells false (hB [50,53,48,32,111,107,13,10])),(24916,.cells false []),(19712,.cells false [i 0]),(19684,.cells false [.str [97,64,121],i 7])],fN:=32650}
set_option maxRecDepth 1000000 in
def akK:mb prog XH:=⟨(jS prog lS id 60).1,m' 60,aG⟩
def XI:jT:={g:=169,nx:=32768,args:=[.agg [.str [109,120],i 12000,i 60,i 0,.bool true,.bool true,.str [115,64,120],.bf,.bf,.bf,i 0,i 0,.bool false,i 0,.bool false,.bool false,i 0],.bA 32671 0 41 41 1],h:=[(32671,.cells false (hB [114,99,112,116,32,60,97,64,121,62,32,110,111,116,105,102,121,61,102,97,105,108,117,114,101,44,100,101,108,97,121,44,115,117,99,99,101,115,115,13,10]))],v:=.tup [.agg [.str [109,120],i 12000,i 60,i 0,.bool true,.bool true,.str [115,64,120],.bA 40245 0 1 1 2,.bf,.bf,i 0,i 0,.bool false,i 0,.bool false,.bool false,i 0],.bA 40298 0 1 1 2,.bf,.agg [i 0,i 0]],h':=[(40287,.cells false [.str [111,107]]),(40298,.cells false [i 250,.bA 40287 0 1 1 1]),(40245,.cells false [.str [97,64,121],i 7]),(32671,.cells false (hB [114,99,112,116,32,60,97,64,121,62,32,110,111,116,105,102,121,61,102,97,105,108,117,114,101,44,100,101,108,97,121,44,115,117,99,99,101,115,115,13,10]))],fN:=40325}
set_option maxRecDepth 1000000 in
def akL:mb prog XI:=⟨(jS prog lS id 60).1,m' 60,aG⟩
def XJ:jT:={g:=168,nx:=40677,args:=[.agg [.str [99,108,105,101,110,116],.str [115,64,120],.bA 30889 0 1 1 2,.str [55],.bf,.bf,.bool false,.bA 32626 0 0 0 1,i 3,.bool false,.bool false,.bA 30917 0 1 1 1],.bA 40576 0 8 8 1],h:=[(40576,.cells false (hB [50,53,48,32,111,107,13,10])),(30917,.cells false [i 0]),(32626,.cells false []),(30889,.cells false [.str [97,64,121],i 7])],v:=.tup [.agg [.str [99,108,105,101,110,116],.str [115,64,120],.bA 42159 0 1 1 2,.str [55],.bf,.bf,.bool false,.bA 43601 0 0 0 1,i 4,.bool false,.bool false,.bA 42187 0 1 1 1],.bA 43542 0 6 6 1,.agg [i 0,i 0]],h':=[(43542,.cells false (hB [100,97,116,97,13,10])),(42187,.cells false [i 0]),(43601,.cells false []),(42159,.cells false [.str [97,64,121],i 7]),(40576,.cells false (hB [50,53,48,32,111,107,13,10])),(32626,.cells false []),(30917,.cells false [i 0]),(30889,.cells false [.str [97,64,121],i 7])],fN:=43625}
set_option maxRecDepth 1000000 in
def akM:mb prog XJ:=⟨(jS prog lS id 60).1,m' 60,aG⟩
def XK:jT:={g:=169,nx:=43743,args:=[.agg [.str [109,120],i 12000,i 60,i 0,.bool true,.bool true,.str [115,64,120],.bA 40245 0 1 1 2,.bf,.bf,i 0,i 0,.bool false,i 0,.bool false,.bool false,i 0],.bA 43646 0 6 6 1],h:=[(43646,.cells false (hB [100,97,116,97,13,10])),(40245,.cells false [.str [97,64,121],i 7])],v:=.tup [.agg [.str [109,120],i 12000,i 60,i 1,.bool true,.bool true,.str [115,64,120],.bA 44684 0 1 1 2,.bf,.bf,i 0,i 0,.bool false,i 0,.bool false,.bool false,i 0],.bA 46239 0 1 1 2,.bf,.agg [i 0,i 0]],h':=[(46228,.cells false [.str [103,111,32,111,110]]),(46239,.cells false [i 354,.bA 46228 0 1 1 1]),(44684,.cells false [.str [97,64,121],i 7]),(40245,.cells false [.str [97,64,121],i 7]),(43646,.cells false (hB [100,97,116,97,13,10]))],fN:=46266}
def akN:mb prog XK:=⟨(jS prog lS id 60).1,m' 60,aG⟩
def XL:jT:={g:=168,nx:=46717,args:=[.agg [.str [99,108,105,101,110,116],.str [115,64,120],.bA 42159 0 1 1 2,.str [55],.bf,.bf,.bool false,.bA 43601 0 0 0 1,i 4,.bool false,.bool false,.bA 42187 0 1 1 1],.bA 46616 0 11 11 1],h:=[(46616,.cells false (hB [51,53,52,32,103,111,32,111,110,13,10])),(42187,.cells false [i 0]),(43601,.cells false []),(42159,.cells false [.str [97,64,121],i 7])],v:=.tup [.agg [.str [99,108,105,101,110,116],.str [115,64,120],.bA 48199 0 1 1 2,.str [55],.bf,.bf,.bool false,.bA 49667 0 0 0 1,i 5,.bool true,.bool false,.bA 48227 0 1 1 1],.bA 49606 0 5 5 1,.agg [i 0,i 0]],h':=[(49606,.cells false (hB [13,10,46,13,10])),(48227,.cells false [i 0]),(49667,.cells false []),(48199,.cells false [.str [97,64,121],i 7]),(46616,.cells false (hB [51,53,52,32,103,111,32,111,110,13,10])),(43601,.cells false []),(42187,.cells false [i 0]),(42159,.cells false [.str [97,64,121],i 7])],fN:=49691}
def akO:mb prog XL:=⟨(jS prog lS id 60).1,m' 60,aG⟩
def XM:jT:={g:=169,nx:=49809,args:=[.agg [.str [109,120],i 12000,i 60,i 1,.bool true,.bool true,.str [115,64,120],.bA 44684 0 1 1 2,.bf,.bf,i 0,i 0,.bool false,i 0,.bool false,.bool false,i 0],.bA 49712 0 5 5 1],h:=[(49712,.cells false (hB [13,10,46,13,10])),(44684,.cells false [.str [97,64,121],i 7])],v:=.tup [.agg [.str [109,120],i 12000,i 60,i 0,.bool true,.bool false,.str [],.bf,.bf,.bf,i 0,i 0,.bool false,i 0,.bool false,.bool false,i 1],.bA 51467 0 1 1 2,.bA 51443 0 1 1 5,.agg [i 0,i 0]],h':=[(51452,.cells false [.str [97,64,121],i 7]),(51443,.cells false [.str [115,64,120],.bA 51452 0 1 1 2,.str [109,120,45,49],.bf,.bf]),(51456,.cells false [.str [109,120,45,49]]),(51467,.cells false [i 250,.bA 51456 0 1 1 1]),(44684,.cells false [.str [97,64,121],i 7]),(49712,.cells false (hB [13,10,46,13,10]))],fN:=51526}
def akP:mb prog XM:=⟨(jS prog lS id 60).1,m' 60,aG⟩
def XN:jT:={g:=168,nx:=51944,args:=[.agg [.str [99,108,105,101,110,116],.str [115,64,120],.bA 48199 0 1 1 2,.str [55],.bf,.bf,.bool false,.bA 49667 0 0 0 1,i 5,.bool true,.bool false,.bA 48227 0 1 1 1],.bA 51843 0 10 10 1],h:=[(51843,.cells false (hB [50,53,48,32,109,120,45,49,13,10])),(48227,.cells false [i 0]),(49667,.cells false []),(48199,.cells false [.str [97,64,121],i 7])],v:=.tup [.agg [.str [99,108,105,101,110,116],.str [115,64,120],.bA 53426 0 1 1 2,.str [55],.bf,.bf,.bool false,.bf,i 5,.bool true,.bool true,.bA 53454 0 1 1 1],.bA 54849 0 6 6 1,.agg [i 0,i 0]],h':=[(54849,.cells false (hB [113,117,105,116,13,10])),(53454,.cells false [i 1]),(53426,.cells false [.str [97,64,121],i 7]),(51843,.cells false (hB [50,53,48,32,109,120,45,49,13,10])),(49667,.cells false []),(48227,.cells false [i 0]),(48199,.cells false [.str [97,64,121],i 7])],fN:=54912}
def akQ:mb prog XN:=⟨(jS prog lS id 60).1,m' 60,aG⟩
def XO:jT:={g:=169,nx:=55030,args:=[.agg [.str [109,120],i 12000,i 60,i 0,.bool true,.bool false,.str [],.bf,.bf,.bf,i 0,i 0,.bool false,i 0,.bool false,.bool false,i 1],.bA 54933 0 6 6 1],h:=[(54933,.cells false (hB [113,117,105,116,13,10]))],v:=.tup [.agg [.str [109,120],i 12000,i 60,i 3,.bool true,.bool false,.str [],.bf,.bf,.bf,i 0,i 0,.bool false,i 0,.bool false,.bool false,i 1],.bA 56953 0 1 1 2,.bf,.agg [i 0,i 0]],h':=[(56942,.cells false [.str [98,121,101]]),(56953,.cells false [i 221,.bA 56942 0 1 1 1]),(54933,.cells false (hB [113,117,105,116,13,10]))],fN:=57024}
def akR:mb prog XO:=⟨(jS prog lS id 60).1,m' 60,aG⟩
end Go.Proofs.YtijdnecnjenleaaGreatDoor
