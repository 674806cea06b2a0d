/-
  A region in whatever order its edges allow. First part: what an operation's outcome hangs on.
-/
import Derived.Test.YtijdnecnjenleaaGreatDoorEvCt
set_option linter.all false
namespace Go.Ev
open Go.RowKit
variable{w:World}{β:cD}{S:Nat->Prop}{st:bC}{a:Act}{c:Code}{og:Nat->Option Nat}{tm:List AV}{aq:Env}{d:Code}{fn:Func}{R:Option Nat}{F:jD}{x:Operand}{i:Nat}{v:AV}{w0:World}{bh:Nat->Prop}{kd:Ctx}{aj:Type}{f:FuncId}{tm':List AV}{args:Array Operand}{ae:Array TypeId}
structure aM(P:Program)(aq:Env):Prop where
 pure:∀g F,find aq g=some F->SumOK P g F
 xI:∀g F,find aq g=some F->b5 F
 opens:∀g F,q4 aq g=some F->fH P g F
 nat:∀g F,q4 aq g=some F->hA F
 iq:∀key np F,aq.iq=some (key,np,F)->np=(ra key).1.size/\Eh P key F/\hA F
theorem zI{f:Operand}{g:Nat}(h:xh aq f g=some F):q4 aq g=some F:=by unfold xh at h;grind
section ops
variable{R:Option Nat}{aj:Type}{P:Program}{w0 w:World}{bh S:Nat->Prop}{B:Ctx}{β:cD}{og:Nat->Option Nat}{st:bC}{a:Act}{o:Oper}{site:Nat}{y:dx->Option aj}{r:aj}
 {K:Act->World->Prop}{Q:Exit->Act->World->Prop}{aq:Env}{rowsV:List (Nat×Row)}
theorem Vq{m n:Nat}(h:Nat.blt m n=false):n<=m:=by grind[Nat.blt_eq]
theorem ahk(ah:Rel w S B β og st a)(aY:Out w0 bh B w S)(cN:∀id x,lookup rowsV id=some x->lookup st.rows id=some x)(j6:∀e,y e=some r->gX site e st.used=true){b:Builtin}
  (aw:o.op=.call {callee:=.builtin b,args:=args,argTypes:=ae})(h:BA P site b ae.toList (hz P st.tm ae.toList args.toList) rowsV y=some r)(bg:Good w0 bh B site o st y r K):o.cX R P a w K Q:=by
 rw[q7]at h
 unfold q6 at h
 split at h
 .grind[EC]
 .grind[NV]
 .grind[NW]
 .rename_i t id lo len h1 ak;split at h
  .rename_i e aQ;split at h
   .rename_i s e' es sp ay;split at h
    .rename_i aa;simp only[ba]at aa;obtain⟨ag,h⟩:=e7 h;exact N8 ah aY cN aw h1 ak aQ ay (Sh.beq_eq _ _ aa.1) aa.2 (bH ag) h bg
    .cases h
   .cases h
  .cases h
 .rename_i t b' x z h1 ak;split at h
  .rename_i e aQ;split at h
   .cases h
   .rename_i s2 eB bp;split at h
    .rename_i s;split at h
     .rename_i aa;simp only[ba]at aa;obtain⟨af,ao,a1⟩:=aa;have aU:=Sh.beq_eq _ _ af;have bc:=Sh.beq_eq _ _ ao;subst aU;obtain⟨ag,h⟩:=e7 h;have aR:=j6 _ h;exact agF ah aY cN (r8 rfl aR) aw h1 ak aQ bp bc a1 ag h bg
     .cases h
    .rename_i id;split at h
     .rename_i s e' es ay;split at h
      .rename_i aa;simp only[ba,h0]at aa;obtain⟨af,ao,a1,ca⟩:=aa;have aU:=Sh.beq_eq _ _ af;have bc:=Sh.beq_eq _ _ ao;subst aU;subst a1;obtain⟨ag,h⟩:=e7 h;have aR:=j6 _ h;exact agG ah aY cN (r8 rfl aR) aw h1 ak aQ bp ay bc ca ag h bg
      .cases h
     .cases h
    .cases h
  .cases h
 .cases h
theorem ahl{x:AV}{mx:Option Operand}{rows:List (Nat×Row)}{id:Nat}{bo:Row}(h:vz x mx rows=some (id,bo)):mx=none/\x=.own id/\lookup rows id=some bo:=by unfold vz at h;grind
theorem EM(bR:aM P aq)(ah:Rel w S B β og st a)(aY:Out w0 bh B w S)(cN:∀id x,lookup rowsV id=some x->lookup st.rows id=some x)(j6:∀e,y e=some r->gX site e st.used=true)
  (h:b7 P aq site o st.tm rowsV y=some r)(bg:Good w0 bh B site o st y r K):o.cX R P a w K Q:=by
 have h':=h
 unfold b7 at h
 split at h
 .grind[Ez]
 .rename_i x aw;exact Ez ah aY (.inr aw) h bg
 .grind[Nw]
 .rename_i t aw;split at h
  .rename_i cs bp;exact Nx ah aY (r8 rfl (j6 _ h)) aw bp h bg
  .cases h
 .rename_i t x aw;split at h
  .rename_i ay;exact Ny ah aY (r8 rfl (j6 _ h)) aw ay h bg
  .cases h
 .grind[N3]
 .rename_i t len parts aw;split at h
  .rename_i e aQ;split at h
   .rename_i ay;subst ay;split at h
    .rename_i aa;simp only[ba,h0]at aa;grind[ag5]
    .cases h
   .rename_i ay;split at h
    .cases h
    .rename_i aa;simp only[nr,jZ,not_or,DD,DG]at aa;obtain⟨af,ao,a1⟩:=aa;have Um:len<=1000:=Vq ao;have MY:P.cellsOf e<=1000:=Vq a1;split at h
     .rename_i z bp;split at h
      .rename_i q aH;obtain⟨vH,ids⟩:=q;split at h
       .rename_i es aR;split at h
        .rename_i cn;exact N5 ah aY cN (r8 rfl (j6 _ h)) aw aQ af Um MY ay bp aH aR cn h bg
        .cases h
       .cases h
      .cases h
     .cases h
  .cases h
 .grind[ND]
 .rename_i t x z aw;split at h
  .rename_i aa;simp only[ba,h0,yI,ne_eq]at aa;obtain⟨af,ao,a1⟩:=aa;split at h
   .grind[agO,Nat.le_of_ble_eq_true]
   .rename_i id i off ak;split at h
    .rename_i s e pre cs post qk;have ay:=agR qk;by_cases aU:i=pre.length
     .subst aU;rw[aS rfl,b4]at h;grind[agS,Nat.le_of_ble_eq_true]
     .rw[cZ aU,cU]at h;split at h
      .cases h
      split at h
      .rename_i p au;obtain⟨da,ids⟩:=p;split at h
       .rename_i oO;simp only[ba,jZ,h0]at oO;obtain⟨b2,bX,c3,mu⟩:=oO;by_cases bc:i<pre.length
        .rw[aS bc,b4]at h;grind[agT,Nat.le_of_ble_eq_true]
        .rw[cZ bc,cU]at h;obtain⟨ag,h⟩:=e7 h;split at h
         .rename_i c5;exact agU ah aY cN aw (ak.trans bM) au ay b2 bX c3 a1 (kA mu) c5 (bH ag) h bg
         .cases h
       .cases h
      .cases h
    split at h
    .rename_i p au;obtain⟨da,ids⟩:=p;split at h
     .rename_i s e es ay;split at h
      .rename_i oO;simp only[ba,jZ,h0]at oO;obtain⟨b2,bX,c3,mu,c5⟩:=oO;obtain⟨ag,h⟩:=e7 h;exact agP ah aY cN aw ak au ay b2 bX c3 a1 (kA mu) c5 (bH ag) h bg
      .cases h
     .cases h
    .cases h
   .cases h
  .cases h
 .grind[NA]
 .grind[afX,B0,NH]
 .grind[NI,NJ]
 .rename_i src dst x aw;split at h
  .grind[NK]
  .grind[NL]
  .rename_i e an aX;split at h
   .rename_i aa;simp only[ba]at aa;grind[uu,Ix]
   .cases h
  .cases h
 .grind[NB]
 .rename_i t x lo hi mx aw;split at h
  .rename_i aa;simp only[ba]at aa;obtain⟨ay,hh⟩:=aa;split at h
   .rename_i s aQ ak;split at h
    .rename_i hm;have je:mx=none:=by simpa using hm
     subst je;obtain⟨ag,h⟩:=e7 h;exact NN ah aY aw aQ ak ay hh ag h bg
    .cases h
   .rename_i n e gH aQ;split at h
    .rename_i aa;simp only[ba,GM]at aa;obtain⟨rfl,rfl,rfl,hi,aJ⟩:=aa;split at h
     .rename_i cs ids ak;split at h
      .rename_i aa;simp only[ba]at aa;grind[NP,Nat.le_of_ble_eq_true]
      .cases h
     .cases h
    .cases h
   .rename_i e aQ;split at h
    .grind[af6]
    split at h
    .rename_i id im s e' es sp Ob;split at h
     .cases h
     .rename_i an;have tn:k5 P e s=true:=DR;obtain⟨je,ak,l5⟩:=ahl Ob;subst je;split at h
      .rename_i oW;have l8:lo=none:=by
         cases lo with
         |none=>rfl
         |some _=>simp at oW
       subst l8;split at h
       .rename_i l;obtain⟨hy,h⟩:=e7 h;simp only[ba,fD]at hy;exact ag8 ah aY (r8 rfl (j6 _ h)) aw aQ ak (cN _ _ l5) tn hh hy.1 hy.2 h bg
       .cases h
      .split at h
       .split at h
        .split at h
         .rename_i xy;have ahm:hi=none:=by
            cases hi with
            |none=>rfl
            |some _=>simp at xy
          subst ahm;obtain⟨hy,h⟩:=e7 h;simp only[ba,fD]at hy;exact aha ah aY (r8 rfl (j6 _ h)) aw aQ ak (cN _ _ l5) tn ay hy.1 hy.2 h bg
         .cases h
        .cases h
       .obtain⟨ag,h⟩:=e7 h;exact ag7 ah aY aw aQ ak (cN _ _ l5) tn ay hh ag h bg
    .cases h
    split at h
    .rename_i s es ids au;split at h
     .cases h
     .rename_i an;have tn:k5 P e s=true:=DR;split at h
      .obtain⟨ag,h⟩:=e7 h;grind[agk]
      .rename_i m;split at h
       .rename_i k n cl ny xy hm;obtain⟨ag,h⟩:=e7 h;simp only[ba,h0,fD]at ag;obtain⟨rfl,eO,eW⟩:=ag;cases hi with
        |none=>simp at xy
        |some h'=>grind[agm]
       .cases h
      .rename_i m _;split at h
       .rename_i k ny hm;split at h
        .rename_i oO;simp only[ba,h0]at oO;grind[agn]
        .cases h
       .cases h
    .cases h
   .cases h
  .cases h
 .rename_i t x f aw;split at h
  .rename_i dB fU;split at h
   .cases h
   .rename_i bp;have sf:P.cellsOf dB.type≠0:=by simpa using bp
    split at h
    .rename_i id off ak;exact BY ah aY aw fU sf ak (.inl ⟨_,_,rfl,rfl⟩) h bg
    .rename_i id i off ak;exact BY ah aY aw fU sf ak (.inr (.inl ⟨_,_,_,rfl,rfl⟩)) h bg
    .rename_i s es i off ak;exact BY ah aY aw fU sf ak (.inr (.inr (.inr ⟨_,_,_,_,rfl,rfl⟩))) h bg
    .rename_i cs ak;exact BY ah aY aw fU sf ak (.inr (.inr (.inl ⟨_,rfl,rfl⟩))) h bg
    .cases h
  .cases h
 .grind[NM]
 .rename_i t x i aw;split at h
  .rename_i k n hi;split at h
   .rename_i e s es aQ ak;split at h
    .rename_i an;obtain⟨ag,h⟩:=e7 h;grind[ago]
    .cases h
   .rename_i e id aQ ak;split at h
    .rename_i im s e' es ay;split at h
     .rename_i an;obtain⟨ag,h⟩:=e7 h;grind[agr]
     .cases h
    .rename_i im s e' pre cs post ay;split at h
     .rename_i an;obtain⟨ag,h⟩:=e7 h;grind[ags]
     .cases h
    .cases h
   .rename_i e id lo len aQ ak;split at h
    .rename_i im s e' es dm ay;split at h
     .rename_i an;obtain⟨ag,h⟩:=e7 h;simp only[ba,fD]at ag;grind[ahd]
     .cases h
    .cases h
   .rename_i len e id off aQ ak;split at h
    .rename_i an;obtain⟨ag,h⟩:=e7 h;grind[NQ]
    .cases h
   .rename_i len e cs aQ ak;split at h
    .rename_i an;obtain⟨ag,h⟩:=e7 h;grind[agp]
    .cases h
   .cases h
  .cases h
 .rename_i t x i aw;split at h
  .rename_i k n hi;split at h
   .exact TY
   .rename_i len e cs aQ ak;split at h
    .cases h
    .rename_i qp;split at h
     .rename_i aa;simp only[ba,h0]at aa;obtain⟨k9,b2,bX,c3⟩:=aa;obtain⟨ag,h⟩:=e7 h;grind[NR]
     .cases h
   .cases h
  .cases h
 .grind[Nz]
 .grind[agq]
 .rename_i t l c aw;split at h
  .rename_i e k n cl m aQ ay aa;split at h
   .rename_i gp;obtain⟨ag,ao⟩:=e7 h;simp only[ba,h0,fD]at ag;obtain⟨rfl,eW,kq⟩:=ag;exact N9 ah aY (r8 rfl (j6 _ ao)) aw aQ ay aa gp eW kq ao bg
   .cases h
  .cases h
 .rename_i t aw;split at h
  .split at h
   .exact afS ah aY (r8 rfl (j6 _ h)) aw h bg
   .exact Ni ah aY (r8 rfl (j6 _ h)) aw h bg
  .cases h
 .rename_i t x k ok aw;split at h
  .rename_i bE ey id im es hm;split at h
   .rename_i ai;simp only[AV.force_eq]at h;obtain⟨jA,h⟩:=e7 h;cases aa:dq (cw P st.tm bE k) es with
    |true=>rw[aa,b4]at h;refine Ek ah aY cN aw hm ai jA (.inl ⟨aa,rfl⟩) ?_ bg;grind
    |false=>
     rw[aa,cU]at h;split at h
     .rename_i z bp;refine Ek ah aY cN aw hm ai jA (.inr ⟨aa,_,bp⟩) ?_ bg;grind
     .cases h
   .cases h
  .split at h
   .rename_i bE ey id im es hm;split at h
    .rename_i ai;simp only[ba,jZ]at ai;grind[AV.force_eq,afT]
    .cases h
   .cases h
 .rename_i t m k x aw;split at h
  .rename_i bE ey id es hm;split at h
   .rename_i ai;split at h
    .rename_i p au;split at h
     .rename_i aa;simp only[ba,jZ]at aa;simp only[AV.force_eq]at h;obtain⟨jA,h⟩:=e7 h;grind[Nj]
     .cases h
    .cases h
   .cases h
  .grind[AV.force_eq,afW]
  .cases h
 .grind[af5,ahk]
 .rename_i f args ae aw;split at h
  .rename_i g gF aR;split at h
   .rename_i F hF;split at h
    .rename_i gE;split at h
     .exact afw ah aY cN j6 aw aR (bR.opens g F (zI hF)) gE h bg
     .exact afv ah aY cN j6 aw aR (bR.opens g F (zI hF)) gE h bg
    .cases h
   split at h
   .rename_i p au;obtain⟨Ir,ids⟩:=p;split at h
    .rename_i F hF;split at h
     .rename_i gE;exact agX ah aY cN aw aR au (bR.pure g F hF) gE h bg
     .cases h
    .cases h
   .cases h
  .rename_i id aR;split at h
   .rename_i key np F hF;obtain⟨Vr,aN,_⟩:=bR.iq key np F hF;split at h
    .rename_i r4 tm' ay;split at h
     .rename_i aa;simp only[ba,h0]at aa;grind[afz]
     .cases h
    .cases h
   .cases h
  .cases h
 .cases h
end ops
section regions
variable{R:Option Nat}{aj:Type}{P:Program}{w0:World}{bh:Nat->Prop}{B:Ctx}{aq:Env}{Q:Exit->Act->World->Prop}
theorem EN(h:VRels w S β tm a.tmps.toList)(ops:Array Oper)(j:Nat):
  (∀b,k6 ops.toList tm j=.bool b->yielded ops a.tmps j=some b)/\(k6 ops.toList tm j=.undef->yielded ops a.tmps j=none):=by
 unfold k6 yielded
 simp only[yB]
 cases aw:ops[j]?with
 |none=>simp
 |some o=>
  simp only[j0]
  cases aX:o.dst with
  |none=>simp
  |some d=>
   simp only[j0]
   have pA:∀c,tm.getD d .J=c->c≠ .J->∃u,a.tmps[d]?=some u/\VRel w S β c u:=λc aa bO=>by
    cases aQ:tm[d]?with
    |none=>grind
    |some c'=>simp[List.getD,aQ]at aa;subst aa;obtain⟨u,hu,ar⟩:=h.at_ aQ;grind
   constructor
   .exact TU
   .exact TV
theorem ahn{d:Nat}{c:AV}(h:tm.getD d .J=c)(bO:c≠ .J):tm.set d c=tm:=by grind[List.set_getElem_self]
theorem Vs{ops:List Oper}{dst:Option Tmp}{k:bC->Option aj}{r:aj}(h:oT ops i dst st k=some r):k st=some r:=by
 unfold oT at h;split at h
 .split at h
  .rename_i d;split at h
   .rename_i b ag;have an:=ahn ag bb;cases b with
    |true=>simp_all
    |false=>simp_all
   .cases h
  .cases h
 .exact h
theorem B5(bR:aM P aq){ops:Array Oper}{rid:Nat}{k:bC->Option aj}{r:aj}(ai:∀st a w,k st=some r->eX w0 bh B st a w->Q .normal a w):
  ∀(l:List Oper)(i:Nat)(st:bC)(a:Act)(w:World),gI P aq rid ops.toList none k i l st=some r->eX w0 bh B st a w->wpListIn (l7 R) 0 P ops Q l a w
 |[],i,st,a,w,h,ah=>ai st a w h ah
 |o::rest,i,st,a,w,h,⟨S,β,og,ah,aY⟩=>by
  have ih:=B5 bR (ops:=ops) (rid:=rid) ai rest (i+1);have run:b7 P aq (rid*64+i) o st.tm st.rows (λe=>if gX (rid*64+i) e st.used then(apply (rid*64+i) o.dst e st).force λeU=>oT ops.toList i o.dst eU (gI P aq rid ops.toList none k (i+1) rest)else none)=some r->
    ∀K:Act->World->Prop,(∀a w,wpListIn (l7 R) 0 P ops Q rest a w->K a w)->o.cX R P a w K Q:=λbu K bg=>by
   refine EM bR ah aY (λ_ _ h=>h) (λe he=>?_) bu (λe cL w' he ak=>bg _ _ ?_)
   .grind
   .by_cases aR:gX (rid*64+i) e st.used=true
    .simp only[aR,kn,bC.force_eq]at he;grind[Vs]
    .simp[aR]at he
  have skip:gI P aq rid ops.toList none k (i+1) rest ⟨hl st.tm o.dst .undef,st.rows,st.used⟩=some r->wpListIn (l7 R) 0 P ops Q rest (a.put o.dst undef) w:=λan=>ih _ _ _ an ⟨S,β,og,ah.put o.dst (.undef _),aY⟩;refine wpListIn_step λK bg=>?_;simp only[gI]at h;split at h
  .exact T2
  .rename_i j want aB;obtain⟨zJ,zK⟩:=EN ah.tm ops j;simp only[Region.wanted,aB];split at h
   .rename_i b ag;rw[zJ b ag];cases p6:(b==want)with
    |true=>simp only[p6,b4]at h;have pM:b=want:=wZ;simp only[pM,ha,kn];exact run h K bg
    |false=>simp only[p6,cU]at h;have pM:¬(some b==some want)=true:=wZ;rw[c0 pM];exact Hx
   .rename_i ag;rw[zK ag];have:¬((none:Option Bool)==some want)=true:=bb;rw[c0 this];exact Hx
   .cases h
end regions
def yW(β:cD)(ids:List Nat):cD:=λi=>if ids.contains i then β i else none
theorem Vt{u:Value}(ids:List Nat)(h:VRel w S β v u):VRel w S (yW β ids) (v.only ids) u:=by
 have eD:∀(cs:List AV)(j:Nat)(c:AV),(AV.qc ids cs)[j]?=some c->∃c',cs[j]?=some c'/\c=c'.only ids:=by
  intro cs;induction cs with
  |nil=>grind[AV.qc]
  |cons x cs ih=>grind[AV.qc]
 have hlen:∀cs:List AV,(AV.qc ids cs).length=cs.length:=by
  intro cs;induction cs with
  |nil=>rfl
  |cons x cs ih=>simp[AV.qc,ih]
 induction h with
 |J β v=>exact .J _ v
 |undef=>exact .undef _
 |int β k n=>exact .int _ k n
 |bool β b=>exact .bool _ b
 |jC β b=>exact .jC _ b
 |nl β v h=>exact .nl _ v h
 |str β s=>exact .str _ s
 |agg β cs vs ay af _ ih=>refine .agg _ _ vs DN af λj c u aa hu=>?_;grind
 |tup β cs vs ay _ ih=>refine .tup _ _ vs DN λj c u aa hu=>?_;grind
 |ab β s es A c a xs an aa hm bq ay af ak hh _=>exact .ab _ s es A c a xs an aa hm bq ay af ak hh
 |bf β s A=>exact .bf _ s A
 |hP β s es i off a xs hi an iC ay af ak hh _=>exact .hP _ s es i off a xs hi an iC ay af ak hh
 |ref β cs a xs iC ay af ak hh _=>exact .ref _ cs a xs iC ay af ak hh
 |lE β t cs v hh _=>exact .lE _ t cs v hh
 |lF=>exact .lF _
 |ct β es vs ay hh _=>exact .ct _ es vs ay hh
 |ptr β id off g wd bP=>
  simp only[AV.only];split
  .rename_i aa;exact .ptr _ id off g wd yV
  .exact .J _ _
 |eptr β id i off g n c wd o bP=>
  simp only[AV.only];split
  .rename_i aa;exact .eptr _ id i off g n c wd o yV
  .exact .J _ _
 |own β id v wd bP=>
  simp only[AV.only];split
  .rename_i aa;exact .own _ id v wd yV
  .exact .J _ _
 |sub β id lo len A n c wd bP=>
  simp only[AV.only];split
  .rename_i aa;exact .sub _ id lo len A n c wd yV
  .exact .J _ _
 |fn β f cs vs ay _ ih=>refine .fn _ f _ vs DN λj c u aa hu=>?_;grind
def Iz{w:World}{S:Nat->Prop}{β:cD}(ids:List Nat):∀(cs:List AV)(us:List Value),VRels w S β cs us->VRels w S (yW β ids) (AV.qc ids cs) us
 |[],us,h=>G1
 |c::cs,us,h=>by obtain⟨u,lb,rfl,hu,an⟩:=h.inv;exact VRels.cons (Vt ids hu) (Iz ids cs lb an)
def Vu{w:World}{S:Nat->Prop}{β:cD}(dr ids:List Nat):∀(cs:List AV)(us:List Value)(i:Nat),VRels w S β cs us->VRels w S (yW β ids) (D5 dr ids i cs) us
 |[],us,i,h=>G1
 |c::cs,us,i,h=>by
  obtain⟨u,lb,rfl,hu,an⟩:=h.inv;refine VRels.cons ?_ (Vu dr ids cs lb (i+1) an);split
  .exact Vt ids hu
  .exact .J _ _
theorem IA(rows:List (Nat×Row))(ids:List Nat):∀(l:List Nat)(i:Nat)(r:Row),lookup (BG rows ids l) i=some r->i∈l/\∃jq,lookup rows i=some jq/\r=jq.only ids
 |[],i,r,h=>by grind[BG,lookup]
 |x::l,i,r,h=>by
  simp only[BG]at h;cases ak:lookup rows x with
  |none=>simp only[ak]at h;obtain⟨af,ao⟩:=IA rows ids l i r h;grind
  |some jq=>
   simp only[ak,lookup]at h;split at h
   .grind
   .obtain⟨af,ao⟩:=IA rows ids l i r h;grind
theorem IB{ids:List Nat}{x:Value×Nat}(h:yW β ids i=some x):i∈ids/\β i=some x:=by grind[yW]
theorem Rel.mask{B:Ctx}(h:Rel w S B β og st a)(dr ids:List Nat):Rel w S B (yW β ids) og (mask dr ids st) a:=by
 refine⟨Vu dr ids _ _ 0 h.tm,h.df,λi r aD=>?_,h.inj,h.lt,λi x ak=>(IB ak).1,λi x ak=>h.one i x (IB ak).2,h.dF,h.dZ,λi x au ak=>h.pid i x au (IB ak).2⟩;obtain⟨hi,jq,ay,rfl⟩:=IA st.rows ids ids i r aD;have aa:ids.contains i=true:=by simpa using hi
 have a7:=h.row i jq ay;cases jq with
 |box bW cs=>obtain⟨g,vs,t,aw,ag,hh,ar,r1,cQ,c6⟩:=a7;exact⟨g,vs,t,aw,yV,hh,Iz ids cs vs ar,r1,cQ,c6⟩
 |arr bW s e es dm=>obtain⟨au,v,sp,xs,dd,gh,ag,rest⟩:=a7;exact⟨au,v,sp,xs,dd,gh,yV,rest⟩
 |cj bW s e pre cs post=>obtain⟨au,di,g,bj,sp,xs,us,cm,af,ao,aw,ag,a1,iE,hR,jr,rest⟩:=a7;have Vv:=Iz ids cs us hR;exact⟨au,Vv.1.symm.trans (hR.1.trans di),g,bj,sp,xs,us,cm,af,ao,aw,yV,a1,iE,Vv,jr,rest⟩
theorem Rel.rename{B:Ctx}(h:Rel w S B β og st a){id n:Nat}{r:Row}(ay:lookup st.rows id=some r)(aR:lN n st.used):
  Rel w S B (fK β n (β id)) (fK (fK og id none) n (og id)) ⟨st.tm,setRow (mn st.rows id) n r,n::st.used⟩ a/\∀v,VRel w S β (.own id) v->VRel w S (fK β n (β id)) (.own n) v:=by
 have gK:∀i y,β i=some y->fK β n (β id) i=some y:=λi y aN=>by have bO:i≠n:=λe=>aR.1 (by rw[<-e];exact h.used i y aN);grind[fl]
 refine⟨⟨h.tm.mono (λ_ h=>h) (λ_ _=>rfl) gK,h.df,λi y aN=>?_,λi fG g hr vQ=>?_,λi g hr=>?_,λi y aN=>?_,λi y aN=>?_,h.dF,h.dZ,H9 h.pid aR.2⟩,λv ar=>?_⟩
 .rw[px]at aN;by_cases e:i=n
  .subst e;simp only[dE]at aN;cases aN;rw[cV];have a7:=h.row id r ay;cases r with
   |box bW cs=>obtain⟨g,vs,t,aw,ag,hh,ar,r1,cQ,c6⟩:=a7;exact⟨g,vs,t,aw,G5,hh,ar.mono (λ_ h=>h) (λ_ _=>rfl) gK,r1,cQ,c6⟩
   |arr bW s e es dm=>obtain⟨au,v,sp,xs,dd,gh,ag,rest⟩:=a7;exact⟨au,v,sp,xs,dd,gh,G5,rest⟩
   |cj bW s e pre cs post=>obtain⟨au,di,g,bj,sp,xs,us,cm,af,ao,aw,ag,a1,iE,hR,jr,rest⟩:=a7;exact⟨au,di,g,bj,sp,xs,us,cm,af,ao,aw,G5,a1,iE,hR.mono (λ_ h=>h) (λ_ _=>rfl) gK,jr,rest⟩
  .rw[c0 e,y7]at aN;by_cases e':i=id
   .grind
   .rw[c0 e']at aN;rw[fl _ _ _ _ e,fl _ _ _ _ e'];exact(h.row i y aN).gJ gK (λ_ h=>h) (λ_ _ h=>h) (λ_ _=>rfl) (λ_ _=>rfl)
 .have aux:∀i,i≠n->fK (fK og id none) n (og id) i=some g->og i=some g/\i≠id:=λi hi hr=>by grind[fl,cV]
  by_cases e:i=n<;>by_cases e':fG=n
  .rw[e,e']
  .subst e;rw[cV]at hr;obtain⟨af,ao⟩:=aux fG e' vQ;exact absurd (h.inj fG id g af hr) ao
  .subst e';rw[cV]at vQ;obtain⟨af,ao⟩:=aux i e hr;exact absurd (h.inj i id g af vQ) ao
  .exact h.inj i fG g (aux i e hr).1 (aux fG e' vQ).1
 .by_cases e:i=n
  .subst e;rw[cV]at hr;exact h.lt id g hr
  .rw[fl _ _ _ _ e]at hr;by_cases e':i=id
   .grind[cV]
   .rw[fl _ _ _ _ e']at hr;exact h.lt i g hr
 .by_cases e:i=n
  .subst e;simp
  .exact TS
 .by_cases e:i=n
  .subst e;rw[cV]at aN;exact h.one id y aN
  .rw[fl _ _ _ _ e]at aN;exact h.one i y aN
 .cases ar with
  |own _ _ _ wd ag=>exact .own _ n v wd G5
def Rel.Vw{B:Ctx}(h:Rel w S B β og st a){n:Nat}{s:Sh}(e:TypeId)(A:Option Addr)(aR:lN n st.used)(an:0<s.width):
  Rel w S B (fK β n (some (.slice A 0 0,s.width))) (fK og n none) ⟨st.tm,setRow st.rows n (.arr false s e [] none),n::st.used⟩ a/\VRel w S (fK β n (some (.slice A 0 0,s.width))) (.own n) (.slice A 0 0):=by
 have cG:=h.new n aR none (Below.refl _ _) (S':=S) (λ_ h=>h) (λ_ _ h=>h) h.dF (r:=.arr false s e [] none) (v:=.J) (u:=undef) (x:=.slice A 0 0) (wd:=s.width) (o:=none) rfl (λg aB=>w6)
  ⟨an,.slice A 0 0,[],[],bb,(λc h=>cM),cV _ _ _,bb,VRels.nil,.inl ⟨rfl,rfl,rfl,A,rfl⟩⟩ (.J _ _)
 exact⟨cG,.own _ n _ _ (cV _ _ _)⟩
section norm
variable{w0 w:World}{bh:Nat->Prop}{B:Ctx}{st:bC}{a:Act}
theorem eX.mask(h:eX w0 bh B st a w)(dr ids:List Nat):eX w0 bh B (mask dr ids st) a w:=by obtain⟨S,β,og,ah,aY⟩:=h;exact⟨S,_,og,ah.mask dr ids,aY⟩
theorem getD_some{t:Nat}(h:tm.getD t .J=v)(bO:v≠ .J):tm[t]?=some v:=bM
def aff{tmps:Array Value}(h:i<tmps.size):tmps.setIfInBounds i tmps[i]=tmps:=bM
theorem eX.qg(h:eX w0 bh B st a w)(x:Nat×Nat×TypeId):eX w0 bh B (qg st x) a w:=by
 obtain⟨S,β,og,ah,aY⟩:=h;unfold Go.Ev.qg;split
 .exact eX.mask ⟨S,β,og,ah,aY⟩ _ _
 split
 .exact l1
 .rename_i aa;have aR:lN x.2.1 st.used:=by simp only[nr,not_or,DG]at aa;exact⟨by simpa using aa.1,Nat.lt_of_not_le λh=>S5⟩
  split
  .rename_i id hid;split
   .rename_i r ay;obtain⟨af,ao⟩:=ah.rename ay aR;have aQ:=getD_some hid bb;obtain⟨u,hu,ar⟩:=ah.tm.at_ aQ;have:=af.put (some x.1) (v:=.own x.2.1) (u:=u) (ao u ar);have MG:(a.put (some x.1) u)=a:=by
      obtain⟨aL,he⟩:=oN.1 hu;have DV:x.1<a.tmps.size:=DQ;have xc:a.tmps[x.1]=u:=Hg;exact MD
    exact MF
   .exact l1
  .rename_i s an;split
   .rename_i hw;have aQ:=getD_some an bb;obtain⟨u,hu,ar⟩:=ah.tm.at_ aQ;cases ar with
    |bf _ _ A=>
     obtain⟨af,ao⟩:=ah.Vw x.2.2 A aR (by rw[sV]at hw;exact hw);have:=af.put (some x.1) (v:=.own x.2.1) (u:=.slice A 0 0) ao;have MG:(a.put (some x.1) (.slice A 0 0))=a:=by obtain⟨aL,he⟩:=oN.1 hu;have DV:x.1<a.tmps.size:=DQ;have xc:a.tmps[x.1]=.slice A 0 0:=Hg;exact MD
     exact MF
   .exact l1
  .rename_i id n an;split
   .rename_i s e es dm ay;split
    .rename_i hle;have p8:n<=es.length:=kA hle;have aQ:=getD_some an bb;obtain⟨u,hu,ar⟩:=ah.tm.at_ aQ;have eN:=ah.row id _ ay;obtain⟨A,c,bP,aa,di,bq⟩:=zs eN;have xq:=Ep bP ar;have lf:u=.slice A n c:=by
       rw[xq];rcases vl c with a7|a7
       .rw[dE a7];rfl
       .obtain⟨g,dM,rfl,_⟩:=bq a7;rw[c0 al];simp[Addr.add]
     have kK:=eN.free rfl;have cG:=ah.qo (site:=x.2.1) (id:=id) aR none (rQ w _) kK (x:=u) (wd:=s.width) (o':=og id) (v:=.J) (u:=undef) (r1:=.arr false s e (es.take n) none) (by rw[lf];rfl) (λg aB=>⟨.inl aB,ah.lt id g aB⟩) ?_ (.J _ _)
     .have:=cG.put (some x.1) (v:=.own x.2.1) (u:=u) (.own _ _ _ _ (cV _ _ _));have MG:((a.put none undef).put (some x.1) u)=a:=by
        obtain⟨aL,he⟩:=oN.1 hu;have DV:x.1<a.tmps.size:=DQ;have xc:a.tmps[x.1]=u:=Hg;exact MD
      exact MF
     .obtain⟨au,v,sp,xs,lA,gh,j1,af,b6,e2⟩:=eN;rw[bP]at j1;simp only[ej,gU,po]at j1;subst j1;have uE:es.take n++(es.drop n++sp)=es++sp:=by rw[<-nm,uh]
      have aL:(es.take n).length=n:=yQ;have avM:(es.drop n++sp).length=es.length-n+sp.length:=bb;refine⟨au,u,es.drop n++sp,xs,by rw[uE];exact lA,(λc h=>cM),cV _ _ _,af,by rw[uE];exact b6,?_⟩;rcases e2 with⟨rfl,rfl,aw,qm,tu⟩|⟨g,bj,aw,fo,fj,hh,je,zD,_⟩
      .cases tu;refine .inl ⟨bb,bb,aw,A,?_⟩;rw[lf];simp at p8;rw[p8]
      grind
    .exact l1
   .exact l1
  .exact l1
def Rel.Vx(h:Rel w S B β og st a){b c:Nat}{im:Bool}{cs:List AV}{da:AV}(ay:lookup st.rows b=some (.box im cs))(ar:cs[c]?=some v)(fo:∀u,VRel w S β v u->VRel w S β da u):
  Rel w S B β og ⟨st.tm,setRow st.rows b (.box im (cs.set c da)),st.used⟩ a:=by
 refine⟨h.tm,h.df,λi y aN=>?_,h.inj,h.lt,h.used,h.one,h.dF,h.dZ,h.pid⟩
 rw[px]at aN
 by_cases e:i=b
 .subst e;simp only[dE]at aN;cases aN;obtain⟨g,vs,t,aw,ag,hh,b6,rest⟩:=h.row i _ ay;refine⟨g,vs,t,aw,ag,hh,?_,rest⟩;obtain⟨u,hu,aD⟩:=b6.at_ ar;have:=b6.set c (fo u aD);obtain⟨aL,he⟩:=oN.1 hu;rwa[<-he,GC aL]at this
 .rw[c0 e]at aN;exact h.row i y aN
def Rel.aho(h:Rel w S B β og st a){b c:Nat}{im:Bool}{s:Sh}{e:TypeId}{pre cs post:List AV}{da:AV}(ay:lookup st.rows b=some (.cj im s e pre cs post))(ar:cs[c]?=some v)(fo:∀u,VRel w S β v u->VRel w S β da u):
  Rel w S B β og ⟨st.tm,setRow st.rows b (.cj im s e pre (cs.set c da) post),st.used⟩ a:=by
 refine⟨h.tm,h.df,λi y aN=>?_,h.inj,h.lt,h.used,h.one,h.dF,h.dZ,h.pid⟩
 rw[px]at aN
 by_cases e':i=b
 .subst e';simp only[dE]at aN;cases aN;obtain⟨au,di,g,bj,sp,xs,us,cm,af,ao,aw,ag,a1,iE,hR,jr,rest⟩:=h.row i _ ay;refine⟨au,by rw[oJ];exact di,g,bj,sp,xs,us,cm,af,ao,aw,ag,a1,iE,?_,jr,rest⟩;obtain⟨u,hu,aD⟩:=hR.at_ ar;have:=hR.set c (fo u aD);obtain⟨aL,he⟩:=oN.1 hu;rwa[<-he,GC aL]at this
 .rw[c0 e']at aN;exact h.row i y aN
def Vy{S:Nat->Prop}{β:cD}:∀{es:List AV}{dL:List Value},MN es=true->VRels w S β es dL->∃bj:List (Value×Value),dL=bj.map λq=>Value.tuple #[q.1,q.2]
 |[],dL,_,h=>⟨[],h.gf⟩
 |e::es,dL,au,h=>by
  obtain⟨z,Nk,rfl,a7,an⟩:=h.inv;have af:=ec.1 au e bb;obtain⟨bj,rfl⟩:=Vy (ec.2 λa cI=>ec.1 au a (oK _ cI)) an;split at af
  .cases a7 with
   |tup _ _ cm Oc aN=>have EO:VRels w S β _ cm:=⟨Oc,aN⟩;obtain⟨EP,ahp,rfl,_,Od⟩:=EO.inv;obtain⟨o4,ahq,rfl,_,Oe⟩:=Od.inv;obtain rfl:=Oe.gf;exact⟨(EP,o4)::bj,rfl⟩
  .cases af
def Rel.ahr(ah:Rel w S B β og st a)(aY:Out w0 bh B w S){b:Nat}{es:List AV}{p:List AV×List Nat}(ag:lookup st.rows b=some (.box false [.tup es]))(au:dp (cB st.rows depth) es=some p)(vR:b∉p.2)(Of:MN es=true):
  eX w0 bh B ⟨st.tm,setRow (il p.2 st.rows) b (.box false [.ct p.1]),st.used⟩ a w:=by
 have dt:∀id∈p.2,∃r,lookup st.rows id=some r:=qa (λv q aH=>qU depth v q aH) es p au
 have hF:=ah.freeze p.2
 have Em:lookup (il p.2 st.rows) b=some (.box false [.tup es]):=by rw[yU,ag];simp[vR]
 refine⟨cr S og p.2,β,og,⟨hF.tm,hF.df,λi y aN=>?_,hF.inj,hF.lt,hF.used,hF.one,hF.dF,hF.dZ,hF.pid⟩,aY.freeze ah p.2 dt⟩
 rw[px]at aN
 by_cases e:i=b
 .subst e;simp only[dE]at aN;cases aN;obtain⟨g,vs,t,aw,bP,hh,b6,_⟩:=ah.row i _ ag;obtain⟨_,_,_,hb,_,_,_,hi,rX,dy⟩:=hF.row i _ Em;rw[aw]at hb;cases hb;refine⟨g,vs,t,aw,bP,hh,?_,hi,rX,dy⟩;obtain⟨c,fr,rfl,aa,aJ⟩:=b6.inv;obtain rfl:=aJ.gf;cases aa with
  |tup _ _ dL j' bp=>have sf:VRels w S β es dL:=⟨j',bp⟩;have Vz:=zn (λv da ids u h ar=>oU (λid r aD=>ah.row id r aD) depth v da ids u h ar) es p dL au sf;obtain⟨bj,rfl⟩:=Vy Of sf;rw[g']at j';refine VRels.cons (.ct _ _ _ (by have:=Vz.1;rwa[g']at this) λj c u aa hu=>Vz.2 j c _ aa (by rw[k0,hu];rfl)) VRels.nil
 .rw[c0 e]at aN;exact hF.row i y aN
theorem eX.zg(h:eX w0 bh B st a w)(x:Nat×Nat×Nat×TypeId):eX w0 bh B (zg st x) a w:=by
 obtain⟨S,β,og,ah,aY⟩:=h;unfold Go.Ev.zg;split
 .exact l1
 .rename_i aa;have aR:lN x.2.2.1 st.used:=by simp only[nr,not_or,DG]at aa;exact⟨by simpa using aa.1,Nat.lt_of_not_le λh=>S5⟩
  split
  .rename_i im cs ag;have My:x.1≠x.2.2.1:=by intro e;obtain⟨g,vs,t,_,bP,_⟩:=ah.row x.1 _ ag;exact aR.1 (by rw[<-e];exact ah.used _ _ bP)
   split
   .rename_i id hid;split
    .rename_i r ay;split
     .exact l1
     .rename_i bO;obtain⟨af,ao⟩:=ah.rename ay aR;have aQ:=getD_some hid bb;refine⟨S,_,_,af.Vx (b:=x.1) (c:=x.2.1) (im:=im) (cs:=cs) (v:=.own id) ?_ aQ ?_,aY⟩
      .exact Mx
      .intro u hu;cases hu with
       |own _ _ _ wd bP=>
        refine ao u ?_;by_cases e:id=x.2.2.1
        .exfalso;have a7:=ah.row id r ay;cases r with
         |box _ _=>obtain⟨_,_,_,_,j1,_⟩:=a7;exact aR.1 vp
         |arr _ _ _ _ _=>obtain⟨_,_,_,_,_,_,j1,_⟩:=a7;exact aR.1 vp
         |cj _ _ _ _ _ _=>obtain⟨_,_,_,_,_,_,_,_,_,_,_,j1,_⟩:=a7;exact aR.1 vp
        .rw[fl _ _ _ _ e]at bP;exact .own _ id u wd bP
    .exact l1
   .rename_i s an;split
    .rename_i hw;have aQ:=getD_some an bb;obtain⟨g,vs,t,dQ,bP,VA,b6,ahs⟩:=ah.row x.1 _ ag;obtain⟨u,hu,ar⟩:=b6.at_ aQ;cases ar with
     |bf _ _ A=>
      obtain⟨af,ao⟩:=ah.Vw x.2.2.2 A aR (by rw[sV]at hw;exact hw);have gK:∀i y,β i=some y->fK β x.2.2.1 (some (.slice A 0 0,s.width)) i=some y:=λi y aN=>by have bO:i≠x.2.2.1:=λe=>aR.1 (by rw[<-e];exact ah.used i y aN);rw[fl _ _ _ _ bO];exact aN
      refine⟨S,_,_,⟨af.tm,af.df,λi y aN=>?_,af.inj,af.lt,af.used,af.one,af.dF,af.dZ,af.pid⟩,aY⟩;rw[px]at aN;by_cases e:i=x.1
      .subst e;simp only[dE]at aN;cases aN;rw[fl _ _ _ _ My];refine⟨g,vs,t,dQ,gK _ _ bP,VA,?_,ahs⟩;have:=(b6.mono (λ_ h=>h) (λ_ _=>rfl) gK).set x.2.1 ao;obtain⟨aL,he⟩:=oN.1 hu;have ER:vs.set x.2.1 (.slice A 0 0)=vs:=by rw[<-he];exact GC aL
       rw[ER]at this;exact this
      .rw[c0 e]at aN;exact af.row i y aN
    .exact l1
   .split
    .rename_i es _ _;split
     .split
      .rename_i p au;split
       .rename_i VB;simp only[ba,jZ]at VB;obtain⟨vR,lL,Of⟩:=VB;subst lL;exact ah.ahr aY ag au (by simpa using vR) Of
       .exact l1
      .exact l1
     .split
      .rename_i k id jA;split
       .rename_i r ay;split
        .exact l1
        .rename_i bO;obtain⟨af,ao⟩:=ah.rename ay aR;have aQ:=getD_some jA bb;refine⟨S,_,_,af.Vx (b:=x.1) (c:=0) (im:=im) (cs:=[.tup es]) (v:=.tup es) ?_ rfl ?_,aY⟩
         .exact Mx
         .intro u hu;cases hu with
          |tup _ _ dL j' bp=>
           have sf:VRels w S _ es dL:=⟨j',bp⟩;obtain⟨z,nH,Og⟩:=sf.at_ aQ;have mq:VRel w S (fK β x.2.2.1 (β id)) (.tup [k,.own x.2.2.1]) z:=by
            cases Og with
            |tup _ _ cm Oc aN=>
             have EO:VRels w S _ [k,.own id] cm:=⟨Oc,aN⟩;obtain⟨EP,ahp,rfl,h4,Od⟩:=EO.inv;obtain⟨o4,ahq,rfl,q1,Oe⟩:=Od.inv;obtain rfl:=Oe.gf;have aht:VRel w S (fK β x.2.2.1 (β id)) (.own x.2.2.1) o4:=by
              cases q1 with
              |own _ _ _ wd bP=>
               refine ao o4 ?_;by_cases e:id=x.2.2.1
               .exfalso;have a7:=ah.row id r ay;cases r with
                |box _ _=>obtain⟨_,_,_,_,j1,_⟩:=a7;exact aR.1 vp
                |arr _ _ _ _ _=>obtain⟨_,_,_,_,_,_,j1,_⟩:=a7;exact aR.1 vp
                |cj _ _ _ _ _ _=>obtain⟨_,_,_,_,_,_,_,_,_,_,_,j1,_⟩:=a7;exact aR.1 vp
               .rw[fl _ _ _ _ e]at bP;exact .own _ id o4 wd bP
             have VC:VRels w S (fK β x.2.2.1 (β id)) [k,.own x.2.2.1] [EP,o4]:=VRels.cons h4 (VRels.cons aht VRels.nil);exact .tup _ _ _ VC.1 VC.2
           have:=sf.set (x.2.1-1) mq;obtain⟨aL,he⟩:=oN.1 nH;rw[<-he,GC aL]at this;exact .tup _ _ _ this.1 this.2
       .exact l1
      .exact l1
    .exact l1
  .rename_i im s e pre cs post ag;have My:x.1≠x.2.2.1:=by intro e;obtain⟨_,_,_,_,_,_,_,_,_,_,_,bP,_⟩:=ah.row x.1 _ ag;exact aR.1 (by rw[<-e];exact ah.used _ _ bP)
   split
   .rename_i id hid;split
    .rename_i r ay;split
     .exact l1
     .rename_i bO;obtain⟨af,ao⟩:=ah.rename ay aR;have aQ:=getD_some hid bb;refine⟨S,_,_,af.aho (b:=x.1) (c:=x.2.1) (im:=im) (cs:=cs) (v:=.own id) ?_ aQ ?_,aY⟩
      .exact Mx
      .intro u hu;cases hu with
       |own _ _ _ wd bP=>
        refine ao u ?_;by_cases e:id=x.2.2.1
        .exfalso;have a7:=ah.row id r ay;cases r with
         |box _ _=>obtain⟨_,_,_,_,j1,_⟩:=a7;exact aR.1 vp
         |arr _ _ _ _ _=>obtain⟨_,_,_,_,_,_,j1,_⟩:=a7;exact aR.1 vp
         |cj _ _ _ _ _ _=>obtain⟨_,_,_,_,_,_,_,_,_,_,_,j1,_⟩:=a7;exact aR.1 vp
        .rw[fl _ _ _ _ e]at bP;exact .own _ id u wd bP
    .exact l1
   .exact l1
  .exact l1
theorem foldl_rel{α:Type}{f:bC->α->bC}(aR:∀st x,eX w0 bh B st a w->eX w0 bh B (f st x) a w):∀(l:List α)(st:bC),eX w0 bh B st a w->eX w0 bh B (l.foldl f st) a w
 |[],_,h=>h
 |x::l,st,h=>foldl_rel aR l _ (aR st x h)
theorem eX.norm(h:eX w0 bh B st a w)(N:Norm):eX w0 bh B (norm N st) a w:=by grind[Go.Ev.norm,eX.mask,foldl_rel,eX.zg,eX.qg]
def VD:∀(is:List Nat)(vs tm:List AV)(j:Nat)(v:AV),(vA tm is vs)[j]?=some v->tm[j]?=some v\/∃n:Nat,is[n]?=some j/\vs[n]?=some v
 |[],vs,tm,j,v,h=>by simp only[vA]at h;exact .inl h
 |i::is,[],tm,j,v,h=>by simp[vA]at h;exact .inl h
 |i::is,x::vs,tm,j,v,h=>by
  simp only[vA]at h;rcases VD is vs _ j v h with h|⟨n,af,ao⟩
  .rw[List.getElem?_set]at h;split at h
   .rename_i e;split at h
    .cases h;exact .inr ⟨0,by simp[e],rfl⟩
    .cases h
   .exact .inl h
  .exact .inr ⟨n+1,s5,vt⟩
def VE:∀(is:List Nat)(vs tm:List AV),(vA tm is vs).length=tm.length
 |[],vs,tm=>by simp only[vA]
 |i::is,[],tm=>rfl
 |i::is,x::vs,tm=>by simp[vA,VE is vs]
def Oh(rows:List (Nat×Row)):∀(is:List Nat)(id:Nat)(r:Row),lookup (BH is (is.map λi=>lookup rows i)) id=some r->lookup rows id=some r
 |[],id,r,h=>by simp[BH,lookup]at h
 |i::is,id,r,h=>by
  simp only[iZ]at h;cases ay:lookup rows i with
  |none=>rw[ay]at h;exact Oh rows is id r h
  |some x=>
   rw[ay]at h;simp only[BH,lookup]at h;split at h
   .rename_i e;cases h;rw[<-e];exact ay
   .exact Oh rows is id r h
def Oi(gJ ids:List Nat):∀(i:Nat)(tm:List AV),(D5 gJ ids i tm).length=tm.length
 |_,[]=>rfl
 |i,v::vs=>by simp[D5,Oi gJ ids (i+1) vs]
def ahu(st:bC)(x:Nat×Nat×TypeId):(qg st x).tm.length=st.tm.length:=by
 unfold qg
 repeat' split
 all_goals simp[zf,mask,Oi]
def ahv(st:bC)(x:Nat×Nat×Nat×TypeId):(zg st x).tm.length=st.tm.length:=by
 unfold zg
 repeat' split
 all_goals rfl
def VF{α:Type}{f:bC->α->bC}(aR:∀st x,(f st x).tm.length=st.tm.length):∀(l:List α)(st:bC),(l.foldl f st).tm.length=st.tm.length
 |[],_=>rfl
 |x::l,st=>by rw[jw,VF aR l,aR]
theorem ahw(N:Norm)(st:bC):(norm N st).tm.length=st.tm.length:=by simp_all[norm,mask,Oi,VF,ahv,ahu]
def eX.expand(h:eX w0 bh B st a w)(N:Norm)(ay:st.tm.length=N.len):eX w0 bh B (Go.Ev.expand N (tf N (Go.Ev.norm N st)) (ux N (Go.Ev.norm N st))) a w:=by
 obtain⟨S,β,og,ah,aY⟩:=h.norm N;refine⟨S,β,og,⟨⟨?_,λj c u aa hu=>?_⟩,ah.df,λid r aD=>ah.row id r (Oh _ _ _ _ aD),ah.inj,ah.lt,λid x ak=>?_,ah.one,ah.dF,ah.dZ,ah.pid⟩,aY⟩
 .simp only[Go.Ev.expand,VE,yL];rw[ah.tm.1,ahw,ay]
 .rcases VD _ _ _ _ _ aa with af|⟨n,af,ao⟩
  .have:=(DB.1 (pk af)).2;subst this;exact .J _ _
  .simp only[tf,k0,af,jm,ej]at ao;rw[<-ao];cases aP:(Go.Ev.norm N st).tm[j]?with
   |none=>simp only[List.getD,aP,Option.getD_none];exact .J _ _
   |some c'=>simp only[List.getD,aP,Dy];exact ah.tm.2 j c' u aP hu
 .exact ah.used id x ak
end norm
section code
variable{R:Option Nat}{P:Program}{w0:World}{bh:Nat->Prop}{B:Ctx}{aq:Env}{K:List (Nat×Loop)}
def exOf:Ex->Exit
 |.normal=>.normal
 |.exit id=>.exit id
 |.ret=>.ret
def uG(P:Program)(aq:Env):Prop:=
 ∀(aj:Type)(w0:World)(bh:Nat->Prop)(B:Ctx)(id:Nat)(ops:Array Oper)(k:bC->Option aj)(r:aj)(st:bC)(a:Act)(w:World)(Q:Exit->Act->World->Prop)(R:Option Nat),ops.size<=64->xm aq ops st.tm=true->id<67108864->
  gI P aq id ops.toList (some (ancTab ops.toList)) k 0 ops.toList st=some r->eX w0 bh B st a w->(∀st a w,k st=some r->eX w0 bh B st a w->Q .normal a w)->(Code.region id ops true).cX R P Q a w
def dj(P:Program)(aq:Env)(K:List (Nat×Loop))(b:Code)(l:Loop):Prop:=
 (∀(aj:Type)(vs:List AV)(rs:List (Option Row))(k:Ex->List AV->List (Option Row)->Option aj)(r:aj),l.L aj vs rs k=some r->
  ∃m p,iter l.N (λst=>er P aq K b (Ex×bC) st λe bB=>some (e,bB)) m vs rs=some p/\k p.1 p.2.1 p.2.2=some r)/\
 ∀(aj:Type)(vs:List AV)(rs:List (Option Row))(k:Ex->List AV->List (Option Row)->Option aj),l.L aj vs rs k=(l.L (Ex×List AV×List (Option Row)) vs rs λe v x=>some (e,v,x)).bind λq=>k q.1 q.2.1 q.2.2
def ch(P:Program)(aq:Env)(K:List (Nat×Loop))(c:Code):Prop:=∀b∈c7 c,∀l,lH K (mP b)=some l->dj P aq K b l
def ch.ES(h:ch P aq K (.seq c d)):ch P aq K c:=λb ag=>h b Bn
def ch.IC(h:ch P aq K (.seq c d)):ch P aq K d:=λb ag=>h b Bn
def ch.B6(h:ch P aq K (.cond x c d)):ch P aq K c:=λb ag=>h b Bn
def ch.B7(h:ch P aq K (.cond x c d)):ch P aq K d:=λb ag=>h b Bn
def ch.block(h:ch P aq K (.block i c)):ch P aq K c:=λb ag=>h b Bn
def ch.loop(h:ch P aq K (.loop c)):ch P aq K c:=λb ag=>h b Bn
def eb.ET{B j5:Nat->Prop}{id:Nat}{o:Option Nat}{r:Row}(h:eb w S B β id o r)(dy:∀g,o=some g->¬B g->¬j5 g):eb w S j5 β id o r:=by
 cases r with
 |box bW cs=>obtain⟨g,vs,t,aw,ag,hh,ar,hi,aP,fj⟩:=h;exact⟨g,vs,t,aw,ag,hh,ar,hi,aP,dy g aw fj⟩
 |arr bW s e es dm=>
  obtain⟨au,v,sp,xs,dd,gh,ag,af,ar,e2⟩:=h;refine⟨au,v,sp,xs,dd,gh,ag,af,ar,?_⟩;rcases e2 with h|⟨g,bj,aw,fo,fj,rest⟩
  .exact .inl h
  .exact .inr ⟨g,bj,aw,fo,dy g aw fj,rest⟩
 |cj bW s e pre cs post=>obtain⟨au,di,g,bj,sp,xs,us,cm,af,ao,aw,ag,a1,iE,hR,jr,fj,rest⟩:=h;exact⟨au,di,g,bj,sp,xs,us,cm,af,ao,aw,ag,a1,iE,hR,jr,dy g aw fj,rest⟩
def Rel.xJ{B:Ctx}(h:Rel w S B β og st a){D:Nat}(x:Obj)(dS:∀id r,lookup st.rows id=some r->og id≠some D)(cu:¬S D):Rel (w.putObj D x) S B β og st a:=by have hw:∀b,S b->(w.putObj D x).heap[b]?=w.heap[b]?:=λb ag=>World.putObj_heap_other (λe=>cu (by rw[<-e];exact ag));refine⟨h.tm.mono (λ_ h=>h) hw (λ_ _ h=>h),h.df,λid r aD=>?_,h.inj,λid g aB=>by rw[World.putObj_size];exact h.lt id g aB,h.used,h.one,λb ag=>by rw[World.putObj_size];exact h.dF b ag,λb ag=>by rw[World.putObj_size];exact h.dZ b ag,h.pid⟩;exact(h.row id r aD).gJ (λ_ _ h=>h) (λ_ h=>h) (λ_ _ h=>h) hw (λg aB=>World.putObj_heap_other (λe=>dS id r aD (by rw[<-e];exact aB)))
def Kept.xJ{B:Nat->Prop}{w':World}(h:Kept B w w'){D:Nat}(x:Obj)(dS:¬B D):Kept B w (w'.putObj D x):=⟨h.os,h.tape,h.output,by rw[World.putObj_size];exact h.size,λk ai=>(World.putObj_heap_other (λe=>dS (by rw[<-e];exact ai))).trans (h.block k ai)⟩
def markD(D:Nat):Deferred:={target:=.collected D,args:= #[]}
structure Ext(w0:World)(bh:Nat->Prop)(kd:Ctx)(w1:World)(hc:Nat->Prop)(dR:Ctx):Prop where
 kept:oZ kd w0 w1
 sin:∀b,hc b->bh b\/¬kd b
 sub:∀b,bh b->hc b
 up:∀b,kd b->dR b
 kH:dR.kH=kd.kH
 marks:∃mW:List Nat,dR.df=mW.map markD++kd.df/\mW.Nodup/\∀D∈mW,dR D/\¬kd D/\¬hc D/\w1.heap[D]?=some (.deferred (some []))
theorem Ext.refl(h:Glb kd w0):Ext w0 bh kd w0 bh kd:=⟨oZ.refl h,λ_ h=>.inl h,λ_ h=>h,λ_ h=>h,rfl,[],bb,List.nodup_nil,λD h=>cM⟩
def vV(w0:World)(bh:Nat->Prop)(kd:Ctx)(st:bC)(a:Act)(w:World):Prop:=∃w1 hc dR,Ext w0 bh kd w1 hc dR/\eX w1 hc dR st a w
def eX.e(h:eX w0 bh kd st a w):vV w0 bh kd st a w:=by obtain⟨S,β,og,ah,aY⟩:=h;exact⟨w0,bh,kd,Ext.refl aY.gL.js,S,β,og,ah,aY⟩
def Rel.behind{w1:World}{hc:Nat->Prop}{dR:Ctx}(cg:Ext w0 bh kd w1 hc dR)(h:Rel w S dR β og st a):Rel w S kd β og st {a with defers:=kd.df}:=⟨h.tm,rfl,λid r aD=>(h.row id r aD).ET (λg _ aJ ag=>aJ (cg.up g ag)),h.inj,h.lt,h.used,h.one,h.dF,λb ag=>h.dZ b (cg.up b ag),λid x au ak=>by have:=h.pid id x au ak;rw[cg.kH]at this;exact this⟩
def Oj{P:Program}{w1:World}{hc:Nat->Prop}{dR:Ctx}{Z:Ending->World->Prop}(cg:Ext w0 bh kd w1 hc dR)(a7:kd.df=[])(ah:Rel w S dR β og st a)(aY:Out w1 hc dR w S)
  (sg:∀w',eX w0 bh kd st {a with defers:=kd.df} w'->∃v,(results fn a.tmps).run P w'=.ok v w'/\Z (.returned v) w'):LeavesInM Fence.wide 0 P fn a.tmps Z a.defers .returning w:=by
 obtain⟨mW,aU,bc,bw⟩:=cg.marks
 have Ok:Kept kd w0 w:=(cg.kept.toKept).trans ⟨aY.gL.os,aY.gL.tape,aY.gL.output,aY.gL.size,λk ai=>aY.gL.block k (cg.up k ai)⟩
 have Ol:∀D∈mW,w.heap[D]?=some (.deferred (some [])):=λD dS=>(aY.gL.block D (bw D dS).1).trans (bw D dS).2.2.2
 have ahx:∀b,S b->bh b\/¬kd b:=λb ag=>(aY.sin b ag).elim (cg.sin b) λh=>.inr λh'=>h (cg.up b h')
 have cN:∀b,bh b->S b:=λb ag=>aY.sub b (cg.sub b ag)
 have key:∀(l:List Nat)(w:World),l.Nodup->(∀D∈l,D∈mW)->(∀D∈l,w.heap[D]?=some (.deferred (some [])))->Rel w S dR β og st a->Kept kd w0 w->LeavesInM Fence.wide 0 P fn a.tmps Z (l.map markD) .returning w:=by
  intro l;induction l with
  |nil=>intro w _ _ _ ah ai;show∃v,_;exact sg w ⟨S,β,og,ah.behind cg,⟨⟨ai,cg.kept.js⟩,ahx,cN⟩⟩
  |cons D l ih=>intro w aJ dt hh ah ai;obtain⟨mX,uH⟩:=A9.1 aJ;obtain⟨d1,d2,d3,_⟩:=bw D (dt D bb);have ahy:¬S D:=λan=>(aY.sin D an).elim d3 λh=>h d1;refine⟨bb,.inl ⟨D,_,rfl,run_takeDeferred (hh D bb),?_⟩⟩;refine ih (w.putObj D (.deferred none)) uH (λx ak=>dt x lv) (λx ak=>?_) (ah.xJ _ (λid r aD aB=>(ah.row id r aD).place.2 D aB d1) ahy) (ai.xJ _ d2);rw[World.putObj_heap_other (λe=>mX (by rw[<-e];exact ak))];exact hh x lv
 rw[ah.df,aU,a7,jy]
 exact key mW w bc (λ_ h=>h) Ol ah Ok
def iQ(aq:Env)(R:Option Nat)(c:Code):Prop:=∀q∈rS c,∀key site,lH aq.j4 (mP q.2.2)=some (key,site)->R=none/\q=ra key
def iQ.ES(h:iQ aq R (.seq c d)):iQ aq R c:=λq aH=>h q G7
def iQ.IC(h:iQ aq R (.seq c d)):iQ aq R d:=λq aH=>h q G7
def iQ.B6(h:iQ aq R (.cond x c d)):iQ aq R c:=λq aH=>h q G7
def iQ.B7(h:iQ aq R (.cond x c d)):iQ aq R d:=λq aH=>h q G7
def iQ.block(h:iQ aq R (.block i c)):iQ aq R c:=h
def iQ.loop(h:iQ aq R (.loop c)):iQ aq R c:=h
def iQ.no(h:aq.j4=[])(c:Code):iQ aq R c:=λq aH key site e=>by rw[h]at e;cases e
theorem ahz(bR:aM P aq){key:Int}{site iB:Nat}{gF:List AV}{g:Operand}{bj:Array Tmp}{assign body:Code}{k:Ex->bC->Option aj}{r:aj}{Q:Exit->Act->World->Prop}
  (aH:(bj,assign,body)=ra key)(aB:val st.tm g=.fn iB gF)(hF:q4 aq iB=some F)(gE:entersB P iB=true)(gx:hasBody P iB=true)(nC:lN site st.used)
  (h:nw site F (.own site::gF) (setRow st.rows site (vB key st)) (λe=>if gX site e (site::st.used)then(apply site none e ⟨st.tm,setRow st.rows site (vB key st),site::st.used⟩).force λhG=>D6 site hG k else none)=some r)
  (ah:vV w0 bh B st a w)(ai:∀e st a w,k e st=some r->vV w0 bh B st a w->Q (exOf e) a w):(Code.rangeFunc g bj assign body).cX none P Q a w:=by
 obtain⟨w1,hc,dR,cg,S,β,og,ah,aY⟩:=ah
 refine wpIn_rangeFunc λf _=>?_
 obtain⟨bo,mw⟩:∃bo:Go.Loop,bo={state:=.ready,pending:=none,fn:=f,tmps:=a.tmps,params:=bj,assign,body,defers:=w.heap.size}:=⟨_,rfl⟩
 obtain⟨iu,xK⟩:∃iu,iu=(w.alloc (.deferred (some []))).alloc (.loop bo):=⟨_,rfl⟩
 have zL:=eV ah.tm g
 rw[aB]at zL
 generalize xL:a.eval g=ahA at zL
 cases zL with
 |fn _ _ _ hn di ir=>
 have cx:iu.heap.size=w.heap.size+2:=by rw[xK];simp
 have ID:Below w.heap.size w iu:=by rw[xK];exact((Below.refl _ w).alloc (dc _) _).alloc bb _
 have Om:iu.heap[w.heap.size]?=some (.deferred (some [])):=by rw[xK,Below.heap_alloc (w.alloc (.deferred (some []))) (.loop bo) w.heap.size bb];exact World.alloc_heap_new w _
 have vN:iu.heap[w.heap.size+1]?=some (.loop bo):=by rw[xK];have:=World.alloc_heap_new (w.alloc (.deferred (some []))) (.loop bo);simpa using this
 have aL:∀b,S b->b<iu.heap.size:=λb ag=>by have:=ah.dF b ag;omega
 have rk:Rel iu S dR β og st a:=ah.grow ID (λ_ h=>h) (λ_ _ h=>h) aL
 obtain⟨hs,lz⟩:∃hs:Ctx,hs=⟨λb=>dR b\/b=w.heap.size,dR.kH,markD w.heap.size::dR.df⟩:=⟨_,rfl⟩
 obtain⟨a2,On⟩:∃a2:Act,a2={a with defers:=markD w.heap.size::a.defers}:=⟨_,rfl⟩
 have rf:∀g,¬dR g->g≠w.heap.size->¬hs g:=λg af ao a1=>by rw[lz]at a1;exact a1.elim af ao
 have k8:Rel iu S hs β og st a2:=by
  refine⟨by rw[On];exact rk.tm,by rw[On,lz];show markD _::a.defers=markD _::dR.df;rw[ah.df],λid r aD=>(rk.row id r aD).ET (λg aB aJ=>rf g aJ (λe=>by have:=ah.lt id g aB;omega)),rk.inj,rk.lt,rk.used,rk.one,rk.dF,λb ag=>?_,λid x au ak=>by rw[lz];exact rk.pid id x au ak⟩;rw[lz]at ag;rcases ag with ag|ag
  .exact rk.dZ b ag
  .omega
 have gK:∀id y,β id=some y->fK β site (some (.func (.yield (w.heap.size+1)) #[] #[],1)) id=some y:=λid y aN=>by have bO:id≠site:=λe=>nC.1 (by rw[<-e];exact ah.used id y aN);rw[fl _ _ _ _ bO];exact aN
 have dQ:∀id,og id=some (w.heap.size+1)->False:=λid aB=>by have:=ah.lt id _ aB;omega
 have IE:¬S (w.heap.size+1):=λan=>by have:=ah.dF _ an;omega
 have ahB:VRels iu S (fK β site (some (.func (.yield (w.heap.size+1)) #[] #[],1))) (AV.qc (ze st.rows) st.tm) a.tmps.toList:=by refine(Iz (ze st.rows) _ _ rk.tm).mono (λ_ h=>h) (λ_ _=>rfl) (λid x ak=>?_);exact gK _ _ (IB ak).2
 have Oo:Rel iu S hs (fK β site (some (.func (.yield (w.heap.size+1)) #[] #[],1))) (fK og site (some (w.heap.size+1))) ⟨st.tm,setRow st.rows site (vB key st),site::st.used⟩ a2:=by
  refine⟨k8.tm.mono (λ_ h=>h) (λ_ _=>rfl) gK,k8.df,λid y aN=>?_,λid eg g aB dK=>?_,λid g aB=>?_,λid y aN=>?_,λid y aN=>?_,k8.dF,k8.dZ,H9 k8.pid nC.2⟩
  .rw[px]at aN;by_cases e:id=site
   .subst e;simp only[dE]at aN;cases aN;rw[cV];refine⟨w.heap.size+1,.tuple #[.int .i64 key]::a.tmps.toList,.func (.yield (w.heap.size+1)) #[] #[],rfl,cV _ _ _,.inr (.inl ⟨bo,key,a.tmps.toList,false,vN,by rw[mw];rfl,by rw[mw];rfl,by rw[mw];exact aH,rfl,by rw[mw],rfl⟩),VRels.cons ?_ ahB,λ_=>IE,(λh=>cM),λag=>?_⟩
    .exact .tup _ [.int .i64 key] [.int .i64 key] rfl λj c u aa hu=>by
      cases j with
      |zero=>simp at aa hu;subst aa;subst hu;exact .int _ _ _
      |succ j=>simp at aa
    .rw[lz]at ag;rcases ag with ag|ag
     .have:=ah.dZ _ ag;omega
     .omega
   .rw[c0 e]at aN;rw[fl _ _ _ _ e];exact(k8.row id y aN).gJ gK (λ_ h=>h) (λ_ _ h=>h) (λ_ _=>rfl) (λ_ _=>rfl)
  .by_cases e:id=site<;>by_cases e':eg=site
   .rw[e,e']
   .subst e;rw[cV]at aB;cases aB;rw[fl _ _ _ _ e']at dK;exact(dQ _ dK).elim
   .subst e';rw[cV]at dK;cases dK;rw[fl _ _ _ _ e]at aB;exact(dQ _ aB).elim
   .rw[fl _ _ _ _ e]at aB;rw[fl _ _ _ _ e']at dK;exact ah.inj id eg g aB dK
  .by_cases e:id=site
   .subst e;rw[cV]at aB;cases aB;omega
   .rw[fl _ _ _ _ e]at aB;exact k8.lt id g aB
  .by_cases e:id=site
   .subst e;exact vi
   .rw[fl _ _ _ _ e]at aN;exact oK _ (ah.used id y aN)
  .by_cases e:id=site
   .subst e;rw[cV]at aN;cases aN;rfl
   .rw[fl _ _ _ _ e]at aN;exact ah.one id y aN
 have B8:Kept dR w1 iu:=(aY.gL.toKept).trans (Kept.xz ID ah.dZ)
 have ahC:Glb hs iu:=λw' ai=>aY.gL.here w' ((Kept.xz ID ah.dZ).trans ⟨ai.os,ai.tape,ai.output,ai.size,λb ag=>ai.block b G4⟩)
 have IF:Out iu S hs iu S:=⟨oZ.refl ahC,λ_ h=>.inl h,λ_ h=>h⟩
 have ahD:Ext w0 bh B iu S hs:=by
  obtain⟨mW,aU,bc,bw⟩:=cg.marks;refine⟨cg.kept.trans ⟨B8.os,B8.tape,B8.output,B8.size,λb ag=>B8.block b (cg.up b ag)⟩,λb ag=>(aY.sin b ag).elim (cg.sin b) λh=>.inr λh'=>h (cg.up b h'),λb ag=>aY.sub b (cg.sub b ag),λb ag=>by rw[lz];exact .inl (cg.up b ag),by rw[lz];exact cg.kH,w.heap.size::mW,by rw[lz];show markD _::dR.df=_;rw[aU];rfl,A9.2 ⟨λdt=>?_,bc⟩,λD dS=>?_⟩
  .have:=ah.dZ _ (bw _ dt).1;omega
  .rcases gv.1 dS with rfl|dS
   .refine⟨Mn,λag=>?_,λan=>?_,Om⟩
    .have:=ah.dZ _ (cg.up _ ag);omega
    .have:=ah.dF _ an;omega
   .obtain⟨d1,d2,d3,d4⟩:=bw D dS;exact⟨by rw[lz];exact .inl d1,d2,λan=>(aY.sin D an).elim d3 λh=>h d1,(B8.block D d1).trans d4⟩
 have jE:VRels iu S (fK β site (some (.func (.yield (w.heap.size+1)) #[] #[],1))) (.own site::gF) (.func (.yield (w.heap.size+1)) #[] #[]::hn):=VRels.cons (.own _ site _ 1 (cV _ _ _)) (VRels.mono (w:=w) (S:=S) (β:=β) ⟨di,ir⟩ (λ_ h=>h) (λb an=>ID.block b (ah.dF b an)) gK)
 obtain⟨ahE,ahF,ahG,ahH,ahI,ahJ,uI,ep,k7,l6,Oq,ahK,HS,uB⟩:=M0 (site:=site) Oo IF (rowsV:=setRow st.rows site (vB key st)) (λ_ _ h=>h) (λe he=>by
  by_cases aR:gX site e (site::st.used)=true
  .exact aR
  .simp[aR]at he) none jE h
 have e8:=(bR.opens iB F hF) aj iu ahE ahF ahG ahH ahI ahJ _ _ r ep k7 l6 Oq ahK
 have Ot:∀args w,(callFunc iB args).run P w=.ok (.enter iB args) w:=λargs w=>by
  unfold hasBody at gx;unfold entersB at gE;cases dW:P.funcs[iB]?with
  |none=>rw[dW]at gx;cases gx
  |some fn=>
   simp only[dW,jZ]at gE gx;have Hz:fn.body.isNone=false:=by cases vT:fn.body<;>simp_all
   exact TH
 refine⟨w.heap.size+1,[markD w.heap.size],iu,{target:=.fn (.func iB) hn.toArray,args:= #[.func (.yield (w.heap.size+1)) #[] #[]]},iu,iB,#[.func (.yield (w.heap.size+1)) #[] #[]]++hn.toArray,iu,?_,?_,λ_ _=>trivial,?_,λh=>cM,?_⟩
 .rw[xK,mw];exact run_enterLoop_outer _ _ _ _ _
 .simp only[resolve,xL];simp[go_sem]
 .simp[go_sem,Ot]
 .have EU:=e8.calls gx;have Ou:(.func (.yield (w.heap.size+1)) #[] #[]::hn).toArray= #[.func (.yield (w.heap.size+1)) #[] #[]]++hn.toArray:=ml;rw[Ou]at EU;refine CallsIn.mono (CallsIn.at (R0:=none) (yM.2 EU)) λe iR j8=>?_;obtain⟨u,v,c1,cf,S',bD,dO,rfl,xM,bq⟩:=j8;obtain⟨e,l3,mQ,ko,aN,EV,hOr,ahL⟩:=uB u v c1 cf iR S' bD dO xM bq;by_cases aR:gX site e (site::st.used)=true
  .simp only[aR,kn,bC.force_eq]at aN;generalize apply site none e ⟨st.tm,setRow st.rows site (vB key st),site::st.used⟩=hG at aN EV;unfold D6 at aN;have fin:∀(d:Bool)(EW cs:List AV),EW=vL key d\/EW.length=(qj key d).length->lookup hG.rows site=some (.box false (.tup EW::cs))->k (bif d then .ret else .normal) (zf hG site)=some r->∃jump Ov,(Instr.endLoop (w.heap.size+1)).run P iR=.ok jump Ov/\
      (match jump with
       |none=>Q .normal {a with defers:=[markD w.heap.size]++a.defers} Ov
       |some c=>c.wpIn (l7 none) 0 P Q {a with defers:=[markD w.heap.size]++a.defers} Ov):=λd EW cs BZ kO aN=>by
     obtain⟨g2,afF,v2,jR,hy,ahM,xu,rX,_⟩:=EV.row site _ kO;have w9:=ahL site _ (cV β site (some (.func (.yield (w.heap.size+1)) #[] #[],1)));rw[hy]at w9;simp only[ej,gU,po]at w9;subst w9;rcases ahM with⟨_,au,_⟩|⟨jq,r4,us,eZ,EX,nK,rl,_,zo,_,zM⟩|⟨_,_,_,_,au⟩|⟨_,_,_,_,au⟩;rotate_left 2
     .cases au
     .cases au
     .cases au
     .have zw:eZ=d:=by
        have VG:EW.length=(qj key d).length:=BZ.elim (λe=>by rw[e];cases d<;>rfl) id;obtain⟨v,fr,dw,ak,_⟩:=xu.inv;rw[zo]at dw;simp only[jY]at dw;cases ak with
        |tup _ _ xs ay _=>grind[qj,Value.tuple.injEq,Array.toList_inj]
      subst zw;have ahN:g2=w.heap.size+1:=by simp only[Value.func.injEq,Fn.yield.injEq]at zM;exact zM.1.symm
      subst ahN;have eE:vV w0 bh B (zf hG site) a2 (iR.putObj (w.heap.size+1) (.loop {jq with state:=.exhausted})):=by
       refine⟨iu,S,hs,ahD,l3,_,ko,(Rel.mask EV (List.range hG.tm.length) ((ze hG.rows).filter λi=> !(i==site))).xJ _ (λid r aD aB=>?_) (rX rfl),⟨⟨hOr.gL.toKept.xJ _ ?_,hOr.gL.js⟩,hOr.sin,hOr.sub⟩⟩
       .obtain⟨dt,_⟩:=IA _ _ _ _ _ aD;have:=EV.inj id site _ aB jR;subst this;simp at dt
       .intro ag;exact(EV.row site _ kO).place.2 _ jR ag
      have cI:({a with defers:=[markD w.heap.size]++a.defers}:Act)=a2:=by rw[On];rfl
      cases eZ with
      |false=>refine⟨none,_,by rw[<-(show jq.pending=none from rl)];exact run_endLoop EX (by rw[nK];simp),?_⟩;show Q .normal {a with defers:=[markD w.heap.size]++a.defers} _;rw[cI];exact ai .normal _ a2 _ aN eE
      |true=>refine⟨some .ret,_,by rw[<-(show jq.pending=some .ret from rl)];exact run_endLoop EX (by rw[nK];simp),?_⟩;show Code.wpIn (l7 none) 0 P .ret Q {a with defers:=[markD w.heap.size]++a.defers} _;rw[cI];exact wpIn_ret (ai .ret _ a2 _ aN eE)
   split at aN
   .rename_i q n cs kO;exact fin false [.int q n] cs (.inr rfl) kO aN
   .rename_i q n cs kO;exact fin true [.int q n,.bool true] cs (.inr rfl) kO aN
   .cases aN
  .simp[aR]at aN
def xN(bR:aM P aq)(dS:uG P aq):∀(c:Code),ch P aq K c->iQ aq R c->∀(aj:Type)(st:bC)(k:Ex->bC->Option aj)(r:aj)(a:Act)(w:World)(Q:Exit->Act->World->Prop),er P aq K c aj st k=some r->vV w0 bh B st a w->
  (∀e st a w,k e st=some r->vV w0 bh B st a w->Q (exOf e) a w)->c.cX R P Q a w:=by
 intro c
 induction c with
 |skip=>intro _ _ aj st k r a w Q h ah ai;exact wpIn_skip (ai .normal st a w h ah)
 |label l=>intro _ _ aj st k r a w Q h ah ai;exact wpIn_label (ai .normal st a w h ah)
 |region id ops draw=>
  intro lP h5 aj st k r a w Q h ah ai
  simp only[er]at h
  split at h
  .rename_i cx;split at h
   .rename_i aX;split at h
    .rename_i hT;subst aX;simp only[ba]at hT;obtain⟨w1,hc,dR,cg,ah⟩:=ah;exact dS aj w1 hc dR id ops _ r st a w Q R (kA cx) hT.1 (sV▸hT.2) h ah (λst a w an ak=>ai .normal st a w an ⟨w1,hc,dR,cg,ak⟩)
    .cases h
   .rename_i aX;have EY:draw=false:=by simpa using aX
    subst EY;obtain⟨w1,hc,dR,cg,ah⟩:=ah;exact wpIn_region_list (B5 bR (λst a w an ak=>ai .normal st a w an ⟨w1,hc,dR,cg,ak⟩) ops.toList 0 st a w h ah)
  .cases h
 |seq x z rm sh=>
  intro lP h5 aj st k r a w Q h ah ai
  refine wpIn_seq (rm lP.ES h5.ES aj st _ r a w _ h ah λe bB cL w' he ak=>?_)
  cases e with
  |normal=>exact sh lP.IC h5.IC aj bB k r cL w' Q he ak ai
  |exit id=>exact ai (.exit id) bB cL w' he ak
  |ret=>exact ai .ret bB cL w' he ak
 |cond c x z rm sh=>
  intro lP h5 aj st k r a w Q h ah ai
  simp only[er]at h
  split at h
  .rename_i t aa;have o1:a.eval c=.bool t:=by obtain⟨_,_,_,_,S,β,og,Ow,_⟩:=ah;have:=eV Ow.tm c;rw[aa]at this;exact this.oP
   refine wpIn_cond o1 ?_;cases t with
   |true=>exact rm lP.B6 h5.B6 aj st k r a w Q h ah ai
   |false=>exact sh lP.B7 h5.B7 aj st k r a w Q h ah ai
  .rename_i aa;split at h
   .obtain⟨af,ao⟩:=afn h;obtain⟨t,o1⟩:∃t,a.eval c=.bool t:=by
      obtain⟨_,_,_,_,S,β,og,Ow,_⟩:=ah;have:=eV Ow.tm c;rw[aa]at this;generalize hu:a.eval c=u at this;cases this with
      |jC _ b=>exact⟨b,rfl⟩
    refine wpIn_cond o1 ?_;cases t with
    |true=>exact rm lP.B6 h5.B6 aj st k r a w Q af ah ai
    |false=>exact sh lP.B7 h5.B7 aj st k r a w Q ao ah ai
   .cases h
  .cases h
 |block id b ih=>
  intro lP h5 aj st k r a w Q h ah ai
  refine wpIn_block (ih lP.block h5.block aj st _ r a w _ h ah λe bB cL w' he ak=>?_)
  cases e with
  |normal=>exact ai .normal bB cL w' he ak
  |ret=>exact ai .ret bB cL w' he ak
  |exit i=>
   simp only at he
   simp only[exOf,Exit.inBlock]
   split at he
   .rename_i e;rw[dE e];exact ai .normal bB cL w' he ak
   .rename_i e;rw[c0 e];exact ai (.exit i) bB cL w' he ak
 |loop b ih=>
  intro lP h5 aj st k r a w Q h ah ai
  simp only[er]at h
  split at h
  .rename_i l ay;split at h
   .rename_i hlen;have M5:st.tm.length=l.N.len:=cH hlen;rw[bC.force_eq]at h;obtain⟨m,p,au,VH⟩:=(lP b (by simp[c7]) l ay).1 aj _ _ _ r h;refine wpIn_loop_rounds m ?_;have key:∀m vs rs a w,iter l.N (λst=>er P aq K b (Ex×bC) st λe bB=>some (e,bB)) m vs rs=some p->vV w0 bh B (expand l.N vs rs) a w->Code.roundsIn (l7 R) 0 P b Q m a w:=by
      intro m;induction m with
      |zero=>intro vs rs a w hi;simp[iter]at hi
      |succ m EZ=>
       intro vs rs a w hi ah;rw[roundsIn_succ];simp only[iter]at hi;cases ag:er P aq K b (Ex×bC) (expand l.N vs rs) λe bB=>some (e,bB)with
       |none=>simp[ag]at hi
       |some q=>
        simp only[ag]at hi;split at hi
        .rename_i pL;have ahO:q.2.tm.length=l.N.len:=cH pL;refine ih lP.loop h5.loop (Ex×bC) _ _ q a w _ ag ah λe bB cL w' he ak=>?_;simp only[ej]at he;subst he;have E0:vV w0 bh B (expand l.N (tf l.N (norm l.N bB)) (ux l.N (norm l.N bB))) cL w':=by obtain⟨w1,hc,dR,cg,ak⟩:=ak;exact⟨w1,hc,dR,cg,ak.expand l.N ahO⟩
         cases e with
         |normal=>exact EZ _ _ cL w' hi E0
         |exit id=>simp only[ej]at hi;subst hi;exact ai (.exit id) _ cL w' VH E0
         |ret=>simp only[ej]at hi;subst hi;exact ai .ret _ cL w' VH E0
        .cases hi
    obtain⟨w1,hc,dR,cg,ah⟩:=ah;exact key m _ _ a w au ⟨w1,hc,dR,cg,ah.expand l.N M5⟩
   .cases h
  .refine wpIn_loop_rounds aq.vy ?_;have key:∀(m:Nat)(st:bC)(a:Act)(w:World),BJ (λaj st k=>er P aq K b aj st k) m aj st k=some r->vV w0 bh B st a w->Code.roundsIn (l7 R) 0 P b Q m a w:=by
     intro m;induction m with
     |zero=>intro st a w h;cases h
     |succ m EZ=>
      intro st a w h ah;rw[roundsIn_succ];refine ih lP.loop h5.loop aj st _ r a w _ h ah λe bB cL w' he ak=>?_;cases e with
      |normal=>exact EZ bB cL w' he ak
      |exit id=>exact ai (.exit id) bB cL w' he ak
      |ret=>exact ai .ret bB cL w' he ak
   exact key aq.vy st a w h ah
 |exit id=>intro _ _ aj st k r a w Q h ah ai;exact wpIn_exit (ai (.exit id) st a w h ah)
 |ret=>intro _ _ aj st k r a w Q h ah ai;exact wpIn_ret (ai .ret st a w h ah)
 |rangeFunc g bj assign body _ _=>
  intro lP h5 aj st k r a w Q h ah ai
  simp only[er]at h
  split at h
  .rename_i key site VI;obtain⟨rfl,aH⟩:=h5 (bj,assign,body) (by simp[rS]) key site VI;split at h
   .rename_i iB gF aB;split at h
    .rename_i F hF;split at h
     .rename_i aa;simp only[ba,jZ]at aa;obtain⟨⟨gE,gx⟩,hu,an⟩:=aa;exact ahz bR aH aB hF gE gx ⟨yX,sV▸an⟩ h ah ai
     .cases h
    .cases h
   .cases h
  .cases h
 |scope b _=>intro _ _ aj st k r a w Q h;simp[er]at h
 |goto l=>intro _ _ aj st k r a w Q h;simp[er]at h
 |refuse VJ=>intro _ _ aj st k r a w Q h;simp[er]at h
def resRun(tmps:Array Value):ResultVar->Sem Value
 |.tmp t=>pure (tmps.getD t undef)
 |.cell ad t=>do loadVar t (<-asAddr (tmps.getD ad undef))
theorem ahP(ah:Rel w S B β og st a){si:ResultVar}(h:D7 P st.rows st.tm si=some v):
  ∃u,(resRun a.tmps si).run P w=.ok u w/\VRel w S β v u:=by
 cases si with
 |tmp t=>
  simp only[D7,ej]at h
  subst h
  exact⟨_,rfl,xA ah.tm t⟩
 |cell t ty=>
  simp only[D7]at h
  have aB:=xA ah.tm t
  split at h
  .rename_i id off au;rw[au]at aB;split at h
   .rename_i im cs ay;obtain⟨g,vs,v0,aw,ag,ep,b6,_⟩:=ah.row id _ ay;generalize he:a.tmps.getD t undef=u at aB;cases aB with
    |ptr _ _ _ fm wd cp=>rw[ag]at cp;simp only[ej,gU]at cp;obtain⟨tq,⟨b',hh⟩,af⟩:=ep.ptr cp.1;subst tq;have avN:=UX (P:=P) (t:=ty) (cs:=cs.drop off) (z:=λx=>some x) (r:=v) (w:=w) (S:=S) (β:=β) (ad:=⟨g,off,none⟩) (xs:=vs.drop off) h (b6.drop off) (λu hu=>af u (jx hu)) (λj u hu=>by rw[hd,sb (jQ.plain hh (m:=true))];simpa using hu);grind[resRun,asAddr]
   .cases h
  .cases h
theorem Ox{w:World}{S:Nat->Prop}{β:cD}{og:Nat->Option Nat}{st:bC}{a:Act}(ah:Rel w S B β og st a):∀(rs:List ResultVar)(vs:List AV),uy P st.rows st.tm rs=some vs->
  ∃us,(rs.mapM (resRun a.tmps)).run P w=.ok us w/\VRels w S β vs us
 |[],vs,h=>by simp[uy]at h;subst h;exact⟨[],bb,VRels.nil⟩
 |si::rs,vs,h=>by
  simp only[uy]at h;cases af:D7 P st.rows st.tm si with
  |none=>simp[af]at h
  |some v=>
   cases ao:uy P st.rows st.tm rs with
   |none=>simp[af,ao]at h
   |some fr=>simp[af,ao]at h;subst h;obtain⟨u,hu,jt⟩:=ahP ah af;obtain⟨us,e6,b6⟩:=Ox ah rs fr ao;simp_all[VRels.cons]
def ahQ(eE:eX w0 bh B st a w){k:AV->Option aj}{r:aj}(h:finish P fn st k=some r):
  ∃v u S',k v=some r/\(results fn a.tmps).run P w=.ok u w/\VRel w S' cq v u/\(∀b,S' b->bh b\/¬B b)/\(∀b,S' b->b<w.heap.size):=by
 obtain⟨S,β,og,ah,aY⟩:=eE
 rw[MO]at h
 unfold HH at h
 cases af:uy P st.rows st.tm fn.results.toList with
 |none=>simp[af]at h
 |some vs=>
  cases ao:dp (cB st.rows depth) vs with
  |none=>simp[af,ao]at h
  |some p=>
   simp only[af,ao]at h
   obtain⟨us,e6,b6⟩:=Ox ah _ _ af
   have au:=zn (w:=w) (S:=S) (β:=β) (og:=og) (f:=cB st.rows depth) (oU ah.row depth) _ _ _ ao b6
   replace au:=Ee au
   have dt:∀id∈p.2,∃r,lookup st.rows id=some r:=qa (rows:=st.rows) (qU depth) _ _ ao
   have mr:=aY.freeze ah p.2 dt
   have j7:=ah.freeze p.2
   have ts:(results fn a.tmps).run P w=.ok (if h:us.toArray.size=1 then us.toArray[0]else .tuple us.toArray) w:=L9
   refine⟨_,_,cr S og p.2,h,ts,?_,mr.sin,j7.dF⟩
   unfold one
   split
   .rename_i x ak;rw[ak]at au;obtain⟨u,lb,rfl,hu,aJ⟩:=au.inv;rw[aJ.gf];simpa using hu
   .rename_i ak;have bO:us.length≠1:=by
      rw[au.1];intro ay
      match aH:AV.lG p.1,ay with
      |[x],_=>exact ak x aH
    have:¬us.toArray.size=1:=yY;rw[dif_neg this];exact .tup _ _ _ au.1 au.2
def VK(bR:aM P aq)(dS:uG P aq)(dW:P.funcs[f]?=some fn){F:Summ}(hF:∀aj aA k r,F aj aA k=some r->∃K,(∀c,fn.body=some c->ch P aq K c)/\jc P aq K fn aj aA k=some r)(h5:∀c,fn.body=some c->iQ aq none c):SumOK P f F:=by
 intro aj w S aA args k r cu ar bu;obtain⟨cu,iG⟩:=cu;obtain⟨K,lP,he⟩:=hF aj aA k r bu;unfold jc at he;cases ag:fn.body with
 |none=>simp[ag]at he
 |some c=>
  simp only[ag,bC.force_eq]at he;refine Goes.of dW ag (yM.1 (callsIn_of_wp_marks (F:=Fence.wide) (n:=0) dW ag trivial ?_));have xa:∀m,VRels w S cq (List.replicate m AV.undef) (List.replicate m undef):=by
   intro m;induction m with
   |zero=>exact VRels.nil
   |succ m ih=>exact VRels.cons (.undef _) ih
  have eE:eX w S ⟨λb=>b<w.heap.size,cq,[]⟩ (bC.mk (aA++List.replicate (fn.ntmps-aA.length) .undef) [] []) {tmps:=args.toArray++Array.replicate (fn.ntmps-args.toArray.size) undef,defers:=[]} w:=by
   refine⟨S,cq,λ_=>none,⟨?_,rfl,λid r aD=>by simp[lookup]at aD,λ_ _ _ h=>by(cases h),λ_ _ h=>by(cases h),λ_ _ h=>by(cases h),λ_ _ h=>by(cases h),cu,λ_ h=>h,λ_ _ _ h=>cM⟩,⟨oZ.refl iG,λ_ h=>.inl h,λ_ h=>h⟩⟩;have:(args.toArray++Array.replicate (fn.ntmps-args.toArray.size) undef).toList=args++List.replicate (fn.ntmps-aA.length) undef:=by simp[ar.1]
   show VRels w S cq _ (args.toArray++Array.replicate (fn.ntmps-args.toArray.size) undef).toList;rw[this];exact ar.append (xa _)
  refine xN (R:=none) bR dS c (lP c ag) (h5 c ag) aj _ _ _ _ w _ he eE.e λe bB cL w' ai ak=>?_;have fin:finish P fn bB k=some r->LeavesInM Fence.wide 0 P fn cL.tmps (λe w'=>∃u v S',e=.returned u/\k v=some r/\Below w.heap.size w w'/\(∀b,S' b->S b\/w.heap.size<=b)/\(∀b,S' b->b<w'.heap.size)/\VRel w' S' cq v u) cL.defers .returning w':=λaR=>by obtain⟨w1,hc,dR,cg,l3,mQ,ko,k8,vF⟩:=ak;refine Oj cg rfl k8 vF λOy ak=>?_;obtain⟨da,u,S',hp,bu,jN,hI,nK⟩:=ahQ ak aR;obtain⟨l3,β,og,ah,aY⟩:=ak;exact⟨u,bu,u,da,S',rfl,hp,aY.gL.toKept.below,λb ag=>(hI b ag).imp id λh=>Nat.le_of_not_lt h,nK,jN⟩
  cases e with
  |ret=>exact fin ai
  |normal=>exact fin ai
  |exit id=>cases ai
def E1(bR:aM P aq)(dS:uG P aq)(dW:P.funcs[f]?=some fn){F:Summ}(hF:∀aj aA k r,F aj aA k=some r->∃K,(∀c,fn.body=some c->ch P aq K c)/\jc P aq K fn aj aA k=some r)(aD:aq.j4=[]:=by rfl):SumOK P f F:=VK bR dS dW hF λc _=>iQ.no aD c
def VL(rows:List (Nat×Row)):∀(n b j:Nat)(x:Option Row),(r5 rows n b)[j]?=some x->x=lookup rows (b+j)
 |0,b,j,x,h=>by simp[r5]at h
 |n+1,b,j,x,h=>by
  cases j with
  |zero=>simp[r5]at h;exact h.symm
  |succ j=>simp only[r5,L1]at h;rw[VL rows n (b+1) j x h];congr 1;omega
def VM(rows:List (Nat×Row)):∀(ids:List Nat)(rs:List Row),rowsOf rows ids=some rs->∀(j:Nat)(r:Row),rs[j]?=some r->∃i,ids[j]?=some i/\lookup rows i=some r
 |[],rs,h,j,r,aP=>by simp[rowsOf]at h;subst h;simp at aP
 |i::is,rs,h,j,r,aP=>by
  simp only[rowsOf]at h;split at h
  .cases h
  .rename_i q aH;split at h
   .rename_i jq aD;cases h;cases j with
    |zero=>simp at aP;subst aP;exact⟨i,rfl,aD⟩
    |succ j=>simpa using VM rows is q aH j r (by simpa using aP)
   .cases h
def Oz(eE:eX w0 bh B st a w){np:Nat}(l6:∀id x,B.kH id=some x->id<bY){k:AV->List (Option Row)->List Row->Option aj}{r:aj}(h:tg P fn np st k=some r):
  ∃u,(results fn a.tmps).run P w=.ok u w/\∃v c1 cf S' bD dO,k v c1 cf=some r/\uz w0 bh B B.kH c1 cf v u w S' bD dO:=by
 obtain⟨S,β,og,ah,aY⟩:=eE
 unfold tg at h
 split at h
 .cases h
 .rename_i vs af;split at h
  .cases h
  .rename_i p ao;obtain⟨cF,fz⟩:=p;simp only at h;generalize M4:(reach (il fz st.rows) depth (cF++HI (r5 (il fz st.rows) np aE)) []).filter (λi=>Nat.blt i aE)=ids at h;have aL:∀i∈ids,i<aE:=λi hi=>by rw[<-M4]at hi;have:=(GF.1 hi).2;exact sV▸this
   split at h
   .cases h
   .rename_i cf aJ;split at h
    .rename_i aa;simp only[ba]at aa;obtain⟨zj,Vr,k3⟩:=aa;have HQ:=MS ids zj;obtain⟨us,e6,b6⟩:=Ox ah _ _ af;have au:=BK (w:=w) (S:=S) (β:=β) (og:=og) (f:=ij st.rows depth) (HL ah.row depth) _ _ _ ao b6;have dt:∀id∈fz,∃r,lookup st.rows id=some r:=qa (rows:=st.rows) (MB depth) _ _ ao;have mr:=aY.freeze ah fz dt;have j7:=ah.freeze fz;have HN:aE+1000000<bY:=gn;have avO:np<=1000000:=kA Vr;have hm:∀id x j,β id=some x->toR ids id=some j->(if j<bY then(if aE<=j then β j else none)else(ids[j-bY]?).bind β)=some x:=λid x j ak aP=>by
       unfold toR at aP;split at aP
       .rename_i hle;cases aP;have p8:aE<=id:=kA hle;rw[dE (l6 id x (ah.pid id x p8 ak)),dE p8];exact ak
       .cases hi:idx ids id with
        |none=>simp[hi]at aP
        |some rU=>simp[hi]at aP;subst aP;rw[c0 al,A6,BM ids id rU hi];exact ak
     have zN:=HK (w:=w) (S:=cr S og fz) (β:=β) (bD:=λj=>if j<bY then(if aE<=j then β j else none)else(ids[j-bY]?).bind β) hm au;replace zN:=Ee zN;have ts:(results fn a.tmps).run P w=.ok (if h:us.toArray.size=1 then us.toArray[0]else .tuple us.toArray) w:=L9;refine⟨_,ts,_,_,_,cr S og fz,(λj=>if j<bY then(if aE<=j then β j else none)else(ids[j-bY]?).bind β),(λj=>if j<bY then(if aE<=j then og j else none)else(ids[j-bY]?).bind og),h,⟨aY.gL.toKept,λb ag=>.inl (aY.sub b ag),mr.sin,?_,λj r aP=>?_,λj r aP=>?_,λid eg g aB dK=>?_,λid g aB=>?_,λid x ak=>?_,j7.dF,λid x aL ak=>?_⟩⟩
     .unfold one;split
      .rename_i x ak;rw[ak]at zN;obtain⟨u,lb,rfl,hu,aJ⟩:=zN.inv;rw[aJ.gf];simpa using hu
      .rename_i ak;have bO:us.length≠1:=by
         rw[zN.1];intro ay
         match aH:AV.lG (AV.nt (toR ids) cF),ay with
         |[x],_=>exact ak x aH
       have:¬us.toArray.size=1:=yY;rw[dif_neg this];exact .tup _ _ _ zN.1 zN.2
     .rw[k0]at aP;cases aH:(r5 (il fz st.rows) np aE)[j]?with
      |none=>simp[aH]at aP
      |some x=>
       have ak:=VL _ _ _ _ _ aH;have vC:j<np:=by
        have:(r5 (il fz st.rows) np aE).length=np:=by
         have aux:∀n b,(r5 (il fz st.rows) n b).length=n:=by
          intro n;induction n with
          |zero=>intro b;rfl
          |succ n ih=>intro b;simp[r5,ih]
         exact aux np aE
        rw[<-this];exact(oN.1 aH).1
       simp only[aH,jm,ej]at aP;cases x with
       |none=>simp at aP
       |some bo=>
        simp only[jm,ej]at aP;subst aP;have a7:=(j7.row (aE+j) bo ak.symm).forget;have aU:(if aE+j<bY then(if aE<=aE+j then og (aE+j)else none)else(ids[aE+j-bY]?).bind og)=og (aE+j):=by rw[dE al,dE al]
        rw[aU];refine a7.iN hm (λx ak=>?_) (λg _ h=>h);rw[dE al,dE al];exact ak
     .rw[k0]at aP;cases aH:cf[j]?with
      |none=>simp[aH]at aP
      |some bo=>
       simp only[aH,jm,ej]at aP;subst aP;obtain⟨i,hi,ay⟩:=VM _ _ _ aJ j bo aH;have a7:=(j7.row i bo ay).forget;have aU:(if bY+j<bY then(if aE<=bY+j then og (bY+j)else none)else(ids[bY+j-bY]?).bind og)=og i:=by rw[c0 al,A6,hi];rfl
       rw[aU];refine a7.iN hm (λx ak=>?_) (λg _ h=>h);rw[c0 al,A6,hi];exact ak
     .have VN:∀id,(if id<bY then(if aE<=id then og id else none)else(ids[id-bY]?).bind og)=some g->(aE<=id/\id<bY/\og id=some g)\/(∃j i,id=bY+j/\ids[j]?=some i/\i<aE/\og i=some g):=λid h=>by
        split at h
        .split at h
         .rename_i af ao;exact .inl ⟨ao,af,h⟩
         .cases h
        .rename_i af;cases hi:ids[id-bY]?with
         |none=>simp[hi]at h
         |some i=>exact .inr ⟨id-bY,i,al,hi,aL i (pk hi),by simpa[hi]using h⟩
      rcases VN id aB with⟨bJ,a2,a3⟩|⟨j,i,rfl,a2,a3,a4⟩<;>rcases VN eg dK with⟨eO,eW,kq⟩|⟨et,fG,rfl,eW,kq,IG⟩
      .exact ah.inj id eg g a3 kq
      .have:=ah.inj id fG g a3 IG;omega
      .have:=ah.inj i eg g a4 kq;omega
      .have:=ah.inj i fG g a4 IG;subst this;rw[HQ j et i a2 eW]
     .split at aB
      .split at aB
       .exact ah.lt _ g aB
       .cases aB
      .cases hi:ids[id-bY]?with
       |none=>simp[hi]at aB
       |some i=>exact ah.lt i g (by simpa[hi]using aB)
     .split at ak
      .split at ak
       .exact ah.one _ x ak
       .cases ak
      .cases hi:ids[id-bY]?with
       |none=>simp[hi]at ak
       |some i=>exact ah.one i x (by simpa[hi]using ak)
     .rw[dE aL]at ak;split at ak
      .rename_i hle;exact ah.pid id x hle ak
      .cases ak
    .cases h
def uJ:List Row->List Row->Prop
 |[],[]=>True
 |.box i cs::rs,r::kG=>r=.box i cs/\uJ rs kG
 |.cj i s e p cs q::rs,r::kG=>r=.cj i s e p cs q/\uJ rs kG
 |.arr i s e es dm::rs,r::kG=>(∃sp,r=.arr i s e es (some sp)/\(∀x∈es++sp,cb s x=true)/\∀c,dm=some c->c=sp)/\uJ rs kG
 |_,_=>False
def VO{w:World}{S B:Nat->Prop}{β:cD}{og:Nat->Option Nat}:∀(rs:List Row)(b:Nat),(∀(j:Nat)(r:Row),rs[j]?=some r->eb w S B β (b+j) (og (b+j)) r)->∃kG,uJ rs kG/\kG.length=rs.length/\∀(j:Nat)(r:Row),kG[j]?=some r->eb w S B β (b+j) (og (b+j)) r
 |[],b,_=>⟨[],trivial,rfl,λj r h=>k1⟩
 |r::rs,b,h=>by
  obtain⟨kG,i1,i2,i3⟩:=VO rs (b+1) (λj r aP=>by have:=h (j+1) r (by simpa using aP);rwa[show b+(j+1)=b+1+j from al]at this);have key:∀jq,eb w S B β b (og b) jq->∀(j:Nat)(x:Row),(jq::kG)[j]?=some x->eb w S B β (b+j) (og (b+j)) x:=λjq tr j x aP=>bM;have a7:=h 0 r rfl;cases r with
  |box i cs=>exact⟨.box i cs::kG,⟨rfl,i1⟩,by simp[i2],key _ a7⟩
  |cj i s e p cs q=>exact⟨.cj i s e p cs q::kG,⟨rfl,i1⟩,by simp[i2],key _ a7⟩
  |arr i s e es dm=>obtain⟨au,v,sp,xs,dd,gh,rest⟩:=a7;exact⟨.arr i s e es (some sp)::kG,⟨⟨sp,rfl,dd,gh⟩,i1⟩,by simp[i2],key _ ⟨au,v,sp,xs,dd,(λc aa=>by cases aa;rfl),rest⟩⟩
def OA:∀(rs:List Row)(b j:Nat)(r:Row),rs[j]?=some r->lookup (ik b rs) (b+j)=some r
 |[],b,j,r,h=>k1
 |x::rs,b,j,r,h=>by
  cases j with
  |zero=>simp at h;simp[ik,lookup,h]
  |succ j=>have:=OA rs (b+1) j r qT;simp only[ik,lookup];rw[c0 al,show b+(j+1)=b+1+j from al];exact this
def ahR{x:Nat×Nat×TypeId}{k:bC->Option aj}{r:aj}(h:MP st x k=some r):k (qg st x)=some r:=by
 unfold MP at h;unfold qg;split at h
 .rename_i aa;rw[dE aa];exact h
 rename_i ri;rw[c0 ri];split at h
 .rename_i aa;rw[dE aa];exact h
 .rename_i aa;rw[c0 aa];split at h
  .rename_i id n an;rw[an];simp only;split at h
   .rename_i s e es dm ay;obtain⟨ag,h⟩:=e7 h;simp only[ag,kn];exact h
   .exact h
  .unfold qg at h;rw[c0 ri,c0 aa]at h;exact h
def OB{aj:Type}:∀{H:List (Nat×Nat×TypeId)}{st:bC}{k:bC->Option aj}{r:aj},homes H st k=some r->k (H.foldl qg st)=some r
 |[],_,_,_,h=>h
 |_::H,_,_,_,h=>OB (H:=H) (ahR h)
def ahS(bR:aM P aq)(dS:uG P aq)(dW:P.funcs[f]?=some fn)(hF:∀aj aA rows k r,F aj aA rows k=some r->rows.length<=1000000/\∀rows',uJ rows rows'->∃K H,(∀c,fn.body=some c->ch P aq K c)/\th P aq K H fn aj aA rows' k=some r)(h5:∀c,fn.body=some c->iQ aq none c):fH P f F:=by
 intro aj w S B β og aA rows args k r ep k7 l6 ar bu;obtain⟨k7,iG⟩:=k7;obtain⟨k3,qZ⟩:=hF aj aA rows k r bu;obtain⟨rows',gA,hlen,rV⟩:=VO (w:=w) (S:=S) (B:=B) (β:=β) (og:=og) rows aE (λj r aP=>ep.row _ _ (OA rows aE j r aP));obtain⟨K,H,lP,he⟩:=qZ rows' gA;have HN:aE+1000000<bY:=gn;unfold th at he;cases ag:fn.body with
 |none=>simp[ag]at he
 |some c=>
  simp only[ag,bC.force_eq]at he;refine Goes.of dW ag (yM.1 (callsIn_of_wp_marks (F:=Fence.wide) (n:=0) dW ag trivial ?_));have xa:∀m,VRels w S β (List.replicate m AV.undef) (List.replicate m undef):=by
   intro m;induction m with
   |zero=>exact VRels.nil
   |succ m ih=>exact VRels.cons (.undef _) ih
  have eE:eX w S ⟨B,β,[]⟩ (bC.mk (aA++List.replicate (fn.ntmps-aA.length) .undef) (ik aE rows') (List.range' aE rows'.length)) {tmps:=args.toArray++Array.replicate (fn.ntmps-args.toArray.size) undef,defers:=[]} w:=by
   refine⟨S,β,og,⟨?_,rfl,λid r aD=>?_,ep.inj,ep.lt,λid x ak=>?_,ep.one,ep.dF,ep.dZ,λid x _ ak=>ak⟩,⟨oZ.refl iG,λ_ h=>.inl h,λ_ h=>h⟩⟩
   .have:(args.toArray++Array.replicate (fn.ntmps-args.toArray.size) undef).toList=args++List.replicate (fn.ntmps-aA.length) undef:=by simp[ar.1]
    exact Tr
   .exact Tm
   .obtain⟨af,ao⟩:=l6 id x ak;show id∈List.range' aE rows'.length;rw[A8,hlen];exact⟨af,ao⟩
  have OC:∀id x,(Ctx.mk B β []).kH id=some x->id<bY:=λid x ak=>by have:=(l6 id x ak).2;omega
  refine xN (R:=none) bR dS c (lP c ag) (h5 c ag) aj _ _ _ _ w _ he eE.e λe bB cL w' ai ak=>?_;have fin:(homes H bB λst=>tg P fn rows'.length st k)=some r->LeavesInM Fence.wide 0 P fn cL.tmps (λe w'=>∃u v c1 cf S' bD dO,e=.returned u/\k v c1 cf=some r/\uz w S B β c1 cf v u w' S' bD dO) cL.defers .returning w':=λaR=>by obtain⟨w1,hc,dR,cg,l3,mQ,ko,k8,vF⟩:=ak;refine Oj cg rfl k8 vF λOy ak=>?_;have kI:=foldl_rel (λst x h=>eX.qg h x) H bB ak;obtain⟨u,bu,v,c1,cf,S',bD,dO,hp,bq⟩:=Oz kI OC (OB aR);exact⟨u,bu,u,v,c1,cf,S',bD,dO,rfl,hp,bq⟩
  cases e with
  |ret=>exact fin ai
  |normal=>exact fin ai
  |exit id=>cases ai
def IH(bR:aM P aq)(dS:uG P aq)(dW:P.funcs[f]?=some fn)(hF:∀aj aA rows k r,F aj aA rows k=some r->rows.length<=1000000/\∀rows',uJ rows rows'->∃K H,(∀c,fn.body=some c->ch P aq K c)/\th P aq K H fn aj aA rows' k=some r)(aD:aq.j4=[]:=by rfl):fH P f F:=ahS bR dS dW hF λc _=>iQ.no aD c
end code
section cps
variable{aj:Type}{P:Program}{aq:Env}{site:Nat}
def E2{α:Type}(b:Bool)(x:Option α)(y:α->Option aj):(bif b then x.bind y else none)=(bif b then x else none).bind y:=by cases b<;>rfl
def II(t:TypeId)(cs:List AV)(y:AV->Option aj):lJ P t cs y=(lJ P t cs some).bind y:=by
 unfold lJ
 repeat' split
 all_goals rfl
theorem ahT(op:BinOp)(k:IntKind)(m n:Int)(y:AV->Option aj):binInt op k m n y=(binInt op k m n some).bind y:=by unfold binInt;grind
theorem ahU(op:BinOp)(k:IntKind)(m n:Int)(y:AV->Option aj):binShift op k m n y=(binShift op k m n some).bind y:=by unfold binShift;grind
theorem ahV(op:BinOp)(m n:List UInt8)(y:AV->Option aj):binStr op m n y=(binStr op m n some).bind y:=by unfold binStr;grind
theorem OD(op:BinOp)(t:TypeId)(x z:AV)(y:AV->Option aj):evBin P op t x z y=(evBin P op t x z some).bind y:=by unfold evBin;grind[ahT,ahU,ahV]
theorem OE(op:BinOp)(t:TypeId)(x:AV)(y:AV->Option aj):s' P op t x y=(s' P op t x some).bind y:=by unfold s';grind
def ahW(rows:List (Nat×Row))(t:TypeId)(x:AV)(y:dx->Option aj):tc P rows t x y=(tc P rows t x some).bind y:=by
 unfold tc
 repeat' split
 all_goals rfl
def ahX(b:Builtin)(ae:List TypeId)(args:List AV)(rows:List (Nat×Row))(y:dx->Option aj):BA P site b ae args rows y=(BA P site b ae args rows some).bind y:=by
 rw[q7,q7];unfold q6
 repeat' split
 all_goals first|rfl|exact ahW _ _ _ _|(rw[<-E2];rfl)
def ahY(b:Builtin)(ae:List TypeId)(args:List AV)(rows:List (Nat×Row))(y:dx->Option aj):ur P site b ae args rows y=(ur P site b ae args rows some).bind y:=by
 unfold ur;simp only[Bv]
 repeat' split
 all_goals first|rfl|(rw[<-E2];rfl)
theorem ahZ(e:TypeId)(x:AV)(lo hi mx:Option AV)(rows:List (Nat×Row))(y:dx->Option aj):te P e x lo hi mx rows y=(te P e x lo hi mx rows some).bind y:=by unfold te;grind
def mY(aq:Env):Prop:=(∀g F,find aq g=some F->b5 F)/\(∀g F,q4 aq g=some F->hA F)/\∀key np F,aq.iq=some (key,np,F)->hA F
theorem IJ(hF:hA F)(aA:List AV)(rows:List (Nat×Row))(y:dx->Option aj):nw site F aA rows y=(nw site F aA rows some).bind y:=by
 unfold nw;split
 .rfl
 .split
  .rfl
  .split
   .rw[hF aj,hF dx];grind
   .rfl
def VP{α:Type}(b:Bool)(x z:Option α)(y:α->Option aj):(bif b then x else z).bind y=bif b then x.bind y else z.bind y:=by cases b<;>rfl
def ah0{α:Type}{b:Bool}{x gH z pG:α}(h:x=gH)(h':z=pG):(bif b then x else z)=bif b then gH else pG:=by rw[h,h']
theorem ah1(hF:hA F)(aA:List AV)(rows:List (Nat×Row))(y:dx->Option aj):uv site F aA rows y=(uv site F aA rows some).bind y:=by
 unfold uv;split
 .rfl
 .rw[hF aj,hF dx];grind
theorem ah2(op:BinOp)(t:TypeId)(x:Option Row)(y:dx->Option aj):q9 P op t x (λv=>y {v})=(q9 P op t x λv=>some {v}).bind y:=by unfold q9;grind
theorem VQ(k:AV)(g:AV->Nat->dx)(e:dx)(y:dx->Option aj):∀es:List AV,r2 k es (λv n=>y (g v n)) (y e)=(r2 k es (λv n=>some (g v n)) (some e)).bind y:=by
 intro es;induction es generalizing g with
 |nil=>rfl
 |cons a es ih=>simp_all[r2,VP]
def OF(cG:mY aq)(o:Oper)(tm:List AV)(rows:List (Nat×Row))(y:dx->Option aj):b7 P aq site o tm rows y=(b7 P aq site o tm rows some).bind y:=by
 have ay:∀(t:TypeId)(cs:List AV),lJ P t cs (λv=>y {v})=(lJ P t cs λv=>some {v}).bind y:=λt cs=>by rw[II (P:=P) t cs (λv=>y {v}),II (P:=P) t cs (λv=>some ({v:=v}:dx))];cases lJ P t cs some<;>rfl
 have ag:∀(op:BinOp)(t:TypeId)(x z:AV),evBin P op t x z (λv=>y {v})=(evBin P op t x z λv=>some {v}).bind y:=λop t x z=>by rw[OD (P:=P) op t x z (λv=>y {v}),OD (P:=P) op t x z (λv=>some ({v:=v}:dx))];cases evBin P op t x z some<;>rfl
 have aJ:∀(op:BinOp)(t:TypeId)(x:AV),s' P op t x (λv=>y {v})=(s' P op t x λv=>some {v}).bind y:=λop t x=>by rw[OE (P:=P) op t x (λv=>y {v}),OE (P:=P) op t x (λv=>some ({v:=v}:dx))];cases s' P op t x some<;>rfl
 unfold b7;split
 all_goals repeat' split
 all_goals first
  |rfl
  |exact ay _ _
  |exact ag _ _ _ _
  |exact aJ _ _ _
  |exact ah2 _ _ _ _
  |exact ahX _ _ _ _ _
  |exact ahY _ _ _ _ _
  |exact ahZ _ _ _ _ _ _ _
  |(rename_i t _;cases t<;>rfl)
  |(rw[<-E2];rw[ay])
  |(rw[<-E2];rfl)
  |(generalize slb _ _ _=b;cases b<;>simp only[b4,cU]<;>first|rfl|(rw[<-E2];rfl))
  |(rw[uu,uu];split<;>first|rfl|(split<;>rfl))
  |(rename_i F hF _ _;exact IJ (cG.2.1 _ F (zI hF)) _ _ _)
  |(rename_i F hF _ _;exact ah1 (cG.2.1 _ F (zI hF)) _ _ _)
  |(exact IJ (cG.2.2 _ _ _ vu) _ _ _)
  |(rename_i F hF _;rw[cG.1 _ F hF aj,cG.1 _ F hF dx];generalize F AV _ some=x;cases x<;>rfl)
  |skip
 all_goals try simp only[AV.force_eq]
 all_goals repeat' (first|exact ay _ _|exact VQ _ (λv _=>{v:=v}) _ _ _|exact VQ _ (λ_ n=>{v:=.undef,mod:=some (_,.box false [.tup (lK _ _ n)])}) _ _ _|(rw[VP];refine ah0 ?_ ?_)|rfl|split)
end cps
section congr
variable{aj:Type}{P:Program}{aq:Env}{site:Nat}
theorem val_congr(h:∀t,x=.tmp t->tm.getD t .J=tm'.getD t .J):val tm x=val tm' x:=by
 cases x with
 |tmp t=>exact h t rfl
 |_=>rfl
def my(h:∀t,x=.tmp t->tm.getD t .J=tm'.getD t .J)(t:TypeId):cw P tm t x=cw P tm' t x:=by
 cases x with
 |tmp t=>exact h t rfl
 |_=>rfl
theorem IK{tm tm':List AV}:∀(ae:List TypeId)(xs:List Operand),(∀x∈xs,∀t,x=.tmp t->tm.getD t .J=tm'.getD t .J)->hz P tm ae xs=hz P tm' ae xs
 |_,[],_=>by grind[hz]
 |[],x::xs,h=>by simp only[hz];rw[val_congr (h x bb),IK [] xs (λy aN=>h y y1)]
 |t::ae,x::xs,h=>by simp only[hz];rw[my (h x bb),IK ae xs (λy aN=>h y y1)]
theorem VR(x:Option Operand)(h:∀z,x=some z->∀t,z=.tmp t->tm.getD t .J=tm'.getD t .J):x.map (val tm)=x.map (val tm'):=by
 cases x with
 |none=>rfl
 |some z=>grind[val_congr]
def OG(o:Oper)(rows:List (Nat×Row))(y:dx->Option aj)(h:∀x∈o.op.operands.toList,∀t,x=Operand.tmp t->tm.getD t .J=tm'.getD t .J):b7 P aq site o tm rows y=b7 P aq site o tm' rows y:=by
 obtain⟨dst,op,type,pos,after,guard⟩:=o;simp only at h;cases op with
 |move x=>simp only[b7];rw[my (h x iz)]
 |assign x=>simp only[b7];rw[my (h x iz)]
 |pick c x z=>simp only[b7];rw[val_congr (h c iz),my (h x iz),my (h z iz)]
 |alloc t=>rfl
 |box t x=>simp only[b7];rw[my (h x iz)]
 |build t parts=>
  simp only[b7];have:(parts.toList.map λp=>(p.1,cw P tm (D0 P t p.1) p.2))=parts.toList.map λp=>(p.1,cw P tm' (D0 P t p.1) p.2):=by apply p5;intro p au;rw[my (h p.2 SP)]
  rw[this]
 |buildSlice t len parts=>
  simp only[b7];have:∀e,(parts.toList.map λp=>cw P tm e p.2)=parts.toList.map λp=>cw P tm' e p.2:=by intro e;apply p5;intro p au;rw[my (h p.2 SP)]
  simp only[this]
 |makeInterface t x=>simp only[b7];rw[my (h x iz)]
 |makeSlice t l c=>simp only[b7];rw[val_congr (h l iz),val_congr (h c iz)]
 |makeMap t r=>cases r<;>rfl
 |lookup t x k ok=>have ai:∀t,cw P tm t k=cw P tm' t k:=λt=>my (h k iz) t;simp only[b7,ai,val_congr (h x iz)]
 |mapUpdate t m k x=>have ai:∀t,cw P tm t k=cw P tm' t k:=λt=>my (h k iz) t;have ak:∀t,cw P tm t x=cw P tm' t x:=λt=>my (h x iz) t;simp only[b7,ai,ak,val_congr (h m iz)]
 |mapEntry t m k=>rfl
 |entryStore t m s x=>rfl
 |load t x=>simp only[b7];rw[val_congr (h x iz)]
 |store t x z=>simp only[b7];rw[val_congr (h x iz),my (h z iz)]
 |nilCheck x=>simp only[b7];rw[val_congr (h x iz)]
 |binOp op t x z b'=>simp only[b7];rw[my (h x iz),my (h z iz)]
 |unOp op t x=>simp only[b7];rw[my (h x iz)]
 |convert s d x=>simp only[b7];rw[my (h x iz)]
 |makeFunc fn first captured=>
  cases fn<;>simp only[b7];have:captured.toList.map (val tm)=captured.toList.map (val tm'):=by apply p5;intro x ak;rw[val_congr (h x (by simp only[Op.operands,L0,gD];exact .inr ak))]
  rw[this]
 |slice t x lo hi mx=>
  simp only[b7];have a7:val tm x=val tm' x:=val_congr (h x iz);have af:=VR (tm:=tm) (tm':=tm') lo (λz bp=>h z (by subst bp;simp[Op.operands]));have ao:=VR (tm:=tm) (tm':=tm') hi (λz bp=>h z (by subst bp;simp[Op.operands]));rw[a7,af,ao];cases mx with
  |none=>rfl
  |some m=>have a1:val tm m=val tm' m:=val_congr (h m iz);cases m<;>first|simp only[jm,a1]|rfl
 |fieldAddr t x f=>simp only[b7];rw[val_congr (h x iz)]
 |field t x f=>simp only[b7];rw[my (h x iz)]
 |indexAddr t x i=>simp only[b7];rw[val_congr (h x iz),val_congr (h i iz)]
 |index t x i=>simp only[b7];rw[my (h x iz),val_congr (h i iz)]
 |extract x i=>simp only[b7];rw[val_congr (h x iz)]
 |range t x=>rfl
 |next x b=>rfl
 |call c=>
  obtain⟨callee,args,ae⟩:=c;cases callee with
  |builtin b=>simp only[b7];rw[IK ae.toList args.toList (λx ak=>h x SC)]
  |value f=>simp only[b7];rw[IK ae.toList args.toList (λx ak=>h x SC),val_congr (h f (by simp[Op.operands,Call.operands]))]
  |invoke r m=>rfl
 |_=>rfl
def Row.core:Row->Row:=Row.freeze
def pN(rows rows':List (Nat×Row)):Prop:=∀id,(lookup rows id).map Row.core=(lookup rows' id).map Row.core
def pN.box{rows rows':List (Nat×Row)}(h:pN rows rows')(id:Nat):(∃cs im eQ,lookup rows id=some (.box im cs)/\lookup rows' id=some (.box eQ cs))\/(∃s e es sp im eQ,lookup rows id=some (.arr im s e es sp)/\lookup rows' id=some (.arr eQ s e es sp))\/(lookup rows id=none/\lookup rows' id=none)\/(∃s e pre cs post im eQ,lookup rows id=some (.cj im s e pre cs post)/\lookup rows' id=some (.cj eQ s e pre cs post)):=by
 have:=h id;cases af:lookup rows id with
 |none=>cases ao:lookup rows' id with
  |none=>exact .inr (.inr (.inl ⟨rfl,rfl⟩))
  |some r=>simp[af,ao]at this
 |some r=>cases ao:lookup rows' id with
  |none=>simp[af,ao]at this
  |some jq=>
   simp only[af,ao,jm,ej]at this;cases r<;>cases jq<;>simp[Row.core,Row.freeze]at this
   .subst this;exact .inl ⟨_,_,_,rfl,rfl⟩
   .obtain⟨rfl,rfl,rfl,rfl⟩:=this;exact .inr (.inl ⟨_,_,_,_,_,_,rfl,rfl⟩)
   .obtain⟨rfl,rfl,rfl,rfl,rfl⟩:=this;exact .inr (.inr (.inr ⟨_,_,_,_,_,_,_,rfl,rfl⟩))
def B9{f g:AV->Option (AV×List Nat)}(h:∀v,f v=g v):∀cs,dp f cs=dp g cs:=λcs=>by rw[show f=g from funext h]
def OH{rows rows':List (Nat×Row)}(h:pN rows rows'):∀(n:Nat)(v:AV),cB rows n v=cB rows' n v:=by
 intro n;induction n with
 |zero=>intro v;rfl
 |succ n ih=>
  intro v;have eD:=B9 ih;cases v<;>simp only[cB]
  case ptr id off=>rcases h.box id with⟨cs,im,eQ,af,ao⟩|⟨s,e,es,sp,im,eQ,af,ao⟩|⟨af,ao⟩|⟨s,e,p,cs,q,im,eQ,af,ao⟩<;>simp only[af,ao,eD]
  case eptr id i off=>rcases h.box id with⟨cs,im,eQ,af,ao⟩|⟨s,e,es,sp,im,eQ,af,ao⟩|⟨af,ao⟩|⟨s,e,p,cs,q,im,eQ,af,ao⟩<;>simp only[af,ao]
  case own id=>rcases h.box id with⟨cs,im,eQ,af,ao⟩|⟨s,e,es,sp,im,eQ,af,ao⟩|⟨af,ao⟩|⟨s,e,p,cs,q,im,eQ,af,ao⟩<;>simp only[af,ao,eD]
  case sub id lo n=>rcases h.box id with⟨cs,im,eQ,af,ao⟩|⟨s,e,es,sp,im,eQ,af,ao⟩|⟨af,ao⟩|⟨s,e,p,cs,q,im,eQ,af,ao⟩<;>simp only[af,ao]
  case agg cs=>rw[eD]
  case tup cs=>rw[eD]
  case fn f cs=>rw[eD]
theorem B'{rows rows':List (Nat×Row)}(h:pN rows rows')(v:AV):ta rows v=ta rows' v:=by
 cases v<;>simp only[ta]
 case own id=>rcases h.box id with⟨cs,im,eQ,af,ao⟩|⟨s,e,es,sp,im,eQ,af,ao⟩|⟨af,ao⟩|⟨s,e,p,cs,q,im,eQ,af,ao⟩<;>simp only[af,ao]
 case sub id lo n=>rcases h.box id with⟨cs,im,eQ,af,ao⟩|⟨s,e,es,sp,im,eQ,af,ao⟩|⟨af,ao⟩|⟨s,e,p,cs,q,im,eQ,af,ao⟩<;>simp only[af,ao]
def VS{rows rows':List (Nat×Row)}(h:pN rows rows')(v:AV):y' rows v=y' rows' v:=by
 cases v<;>simp only[y']
 case own id=>rcases h.box id with⟨cs,im,eQ,af,ao⟩|⟨s,e,es,sp,im,eQ,af,ao⟩|⟨af,ao⟩|⟨s,e,p,cs,q,im,eQ,af,ao⟩<;>simp only[af,ao]
theorem ah3{rows rows':List (Nat×Row)}(h:pN rows rows')(x:AV)(mx:Option Operand):(vz x mx rows).map (λp=>(p.1,p.2.core))=(vz x mx rows').map (λp=>(p.1,p.2.core)):=by
 unfold vz;split
 .rename_i id;have:=h id;grind
 .rfl
def VT{rows rows':List (Nat×Row)}(h:pN rows rows')(e:TypeId)(x:AV)(lo hi mx:Option AV)(y:dx->Option aj):te P e x lo hi mx rows y=te P e x lo hi mx rows' y:=by
 cases x<;>simp only[te]
 case own id=>rcases h.box id with⟨cs,im,eQ,af,ao⟩|⟨s,e,es,sp,im,eQ,af,ao⟩|⟨af,ao⟩|⟨s,e,p,cs,q,im,eQ,af,ao⟩<;>simp only[af,ao]
theorem VU{f:Operand}{g:Nat}{gF:List AV}(aa:changes aq (.call {callee:=.value f,args:=args,argTypes:=ae})=false)(aR:val tm f=.fn g gF):xh aq f g=none\/aq.D2.contains g=true:=by
 cases f with
 |func g0=>simp only[val,AV.fn.injEq]at aR;obtain⟨rfl,_⟩:=aR;simp only[changes,Bool.and_eq_false_iff,L4,GM,Bb]at aa;exact aa
 |tmp t=>grind[changes,xh]
 |const v=>grind[changes,xh]
 |global v=>grind[changes,xh]
theorem VV{f:Operand}{id:Nat}(aa:changes aq (.call {callee:=.value f,args:=args,argTypes:=ae})=false)(aR:val tm f=.own id):aq.iq=none:=by
 cases f with
 |func g0=>simp[val]at aR
 |tmp t=>simp_all[changes]
 |const v=>simp_all[changes]
 |global v=>simp_all[changes]
theorem ah4{rows rows':List (Nat×Row)}(h:pN rows rows')(t:TypeId)(x:AV):(mapOf P rows t x=none/\mapOf P rows' t x=none)\/∃bE ey id im eQ es,mapOf P rows t x=some (bE,ey,id,im,es)/\mapOf P rows' t x=some (bE,ey,id,eQ,es):=by
 unfold mapOf;split
 .rename_i bE ey id aQ;rcases h.box id with⟨cs,im,eQ,af,ao⟩|⟨s,e,es,sp,im,eQ,af,ao⟩|⟨af,ao⟩|⟨s,e,p,cs,q,im,eQ,af,ao⟩
  .grind
  .exact Br
  .exact Br
  .exact Br
 .exact .inl ⟨rfl,rfl⟩
theorem ah5{rows rows':List (Nat×Row)}(h:pN rows rows')(t:TypeId)(x:AV):(r3 P rows t x=none/\r3 P rows' t x=none)\/∃bE ey id im eQ es,r3 P rows t x=some (bE,ey,id,im,es)/\r3 P rows' t x=some (bE,ey,id,eQ,es):=by
 unfold r3;split
 .rename_i bE ey id aQ;rcases h.box id with⟨cs,im,eQ,af,ao⟩|⟨s,e,es,sp,im,eQ,af,ao⟩|⟨af,ao⟩|⟨s,e,p,cs,q,im,eQ,af,ao⟩
  .grind
  .exact Br
  .exact Br
  .exact Br
 .exact .inl ⟨rfl,rfl⟩
theorem ah6{rows rows':List (Nat×Row)}(h:pN rows rows')(op:BinOp)(t:TypeId)(id:Nat)(y:AV->Option aj):q9 P op t (lookup rows id) y=q9 P op t (lookup rows' id) y:=by
 rcases h.box id with⟨cs,im,eQ,af,ao⟩|⟨s,e,es,sp,im,eQ,af,ao⟩|⟨af,ao⟩|⟨s,e,p,cs,q,im,eQ,af,ao⟩<;>rw[af,ao]
 .simp_all[q9]
 .unfold q9;grind
 simp_all[q9]
theorem OI{rows rows':List (Nat×Row)}(h:pN rows rows')(o:Oper)(aa:changes aq o.op=false)(tm:List AV)(y:dx->Option aj):b7 P aq site o tm rows y=b7 P aq site o tm rows' y:=by
 obtain⟨dst,op,type,pos,after,guard⟩:=o;simp only at aa;have au:=OH h depth;have OJ:=B9 au;cases op with
 |buildSlice t len parts=>simp only[b7,OJ]
 |load t x=>
  simp only[b7];cases val tm x<;>simp only
  case ptr id off=>rcases h.box id with⟨cs,im,eQ,af,ao⟩|⟨s,e,es,sp,im,eQ,af,ao⟩|⟨af,ao⟩|⟨s,e,p,cs,q,im,eQ,af,ao⟩<;>simp only[af,ao]
  case eptr id i off=>rcases h.box id with⟨cs,im,eQ,af,ao⟩|⟨s,e,es,sp,im,eQ,af,ao⟩|⟨af,ao⟩|⟨s,e,p,cs,q,im,eQ,af,ao⟩<;>simp only[af,ao]
 |store t x z=>simp[changes]at aa
 |makeInterface t x=>simp only[b7,au]
 |slice t x lo hi mx=>
  have OK:aq.ext.contains site=false:=by
   simp only[changes]at aa;cases he:aq.ext with
   |nil=>simp
   |cons a l=>rw[he]at aa;simp at aa
  have an:=ah3 h (val tm x) mx;simp only[b7,au,OK,A7,p2,A4,VT h];split
  .split
   .rfl
   .rfl
   .by_cases hcut:aq.cut.contains site=true
    .rw[dE hcut,dE hcut]
    rw[c0 hcut,c0 hcut];cases af:vz (val tm x) mx rows with
    |none=>grind
    |some p=>
     cases ao:vz (val tm x) mx rows' with
     |none=>rw[af,ao]at an;simp at an
     |some q=>
      rw[af,ao]at an;obtain⟨id,r⟩:=p;obtain⟨eg,jq⟩:=q;simp only[jm,ej,gU]at an;obtain⟨rfl,an⟩:=an;cases r<;>cases jq<;>simp[Row.core,Row.freeze]at an
      .rfl
      .obtain⟨rfl,rfl,rfl,rfl⟩:=an;rename_i im s e es sp eQ;rfl
      .rfl
   .rfl
  .rfl
 |indexAddr t x i=>
  simp only[b7];cases val tm i<;>simp only;cases P.underlying t with
  |none=>rfl
  |some d=>
   cases d<;>try rfl
   case array=>cases val tm x<;>rfl
   cases val tm x<;>try rfl
   case own id=>rcases h.box id with⟨cs,im,eQ,af,ao⟩|⟨s,e,es,sp,im,eQ,af,ao⟩|⟨af,ao⟩|⟨s,e,p,cs,q,im,eQ,af,ao⟩<;>simp only[af,ao]
   case sub id lo len=>rcases h.box id with⟨cs,im,eQ,af,ao⟩|⟨s,e,es,sp,im,eQ,af,ao⟩|⟨af,ao⟩|⟨s,e,p,cs,q,im,eQ,af,ao⟩<;>simp only[af,ao]
 |call c=>
  obtain⟨callee,args,ae⟩:=c;cases callee with
  |builtin b=>
   simp only[b7];by_cases hcut:aq.cut.contains site=true
   .rw[dE hcut,dE hcut];unfold ur;grind[changes]
   rw[c0 hcut,c0 hcut];rw[q7,q7];unfold q6;split
   .simp only[tc,B' h,VS h]
   .rfl
   .rfl
   all_goals first|(simp[changes]at aa;done)|rfl
  |value f=>
   simp only[b7,OJ];split
   .rename_i g gF aR;rcases VU aa aR with ak|ak
    .rw[ak]
    .simp only[ak,kn,uv,OJ]
   .rename_i id aR;rw[VV aa aR]
   .rfl
  |invoke r m=>rfl
 |makeFunc fn first captured=>cases fn<;>rfl
 |convert s d x=>simp only[b7,uu,B' h]
 |makeMap t r=>cases r<;>rfl
 |lookup t x k ok=>grind[b7,ah4,ah5]
 |binOp op t x z b'=>simp only[b7,ah6 h]
 |mapUpdate t m k x=>simp[changes]at aa
 |_=>rfl
theorem ah7{rows rows':List (Nat×Row)}:∀(n:Nat)(v:AV),v.refs=[]->cB rows n v=cB rows' n v:=by
 intro n;induction n with
 |zero=>intro v _;rfl
 |succ n ih=>
  intro v ar;have eD:∀cs:List AV,AV.rY cs=[]->dp (cB rows n) cs=dp (cB rows' n) cs:=by
   intro cs;induction cs with
   |nil=>intro _;rfl
   |cons c cs ah8=>grind[AV.rY,List.append_eq_nil_iff,dp]
  cases v<;>simp only[cB]<;>try rfl
  case ptr=>simp[AV.refs]at ar
  case eptr=>simp[AV.refs]at ar
  case own=>simp[AV.refs]at ar
  case sub=>simp[AV.refs]at ar
  case agg cs=>rw[eD cs ar]
  case tup cs=>rw[eD cs ar]
  case fn f cs=>rw[eD cs ar]
def VW{rows rows':List (Nat×Row)}(n:Nat):∀cs:List AV,(∀c∈cs,c.refs=[])->dp (cB rows n) cs=dp (cB rows' n) cs
 |[],_=>rfl
 |c::cs,h=>by have af:=ah7 (rows:=rows) (rows':=rows') n c (h c bb);have ao:=VW (rows:=rows) (rows':=rows') n cs (λx ak=>h x lv);simp only[dp,af,ao]
def VX(s:Sh)(v:Value):(p' s v).refs=[]:=S2
def VY:∀(l:List Sh)(vs:List Value),AV.rY (xf l vs)=[]
 |_,[]=>rfl
 |l,v::vs=>by simp[xf,AV.rY,VX,VY]
def ah9(s:Sh)(v:Value):(oS s v).refs=[]:=by
 unfold oS;split
 .split
  .exact VY _ _
  .rfl
 .split<;>rfl
 .exact VX _ _
def aia(v:Value):(DY v).refs=[]:=by unfold DY;split<;>rfl
theorem IL(tm:List AV):∀(ae:List TypeId)(xs:List Operand),xs.all isConst=true->∀c∈hz P tm ae xs,c.refs=[]
 |_,[],_,c,aa=>by grind[hz]
 |[],x::xs,h,c,aa=>by
  simp only[lq,ba]at h;simp only[hz,gv]at aa;rcases aa with rfl|aa
  .cases x<;>simp[isConst]at h;exact aia _
  .exact IL tm [] xs h.2 c aa
 |t::ae,x::xs,h,c,aa=>by
  simp only[lq,ba]at h;simp only[hz,gv]at aa;rcases aa with rfl|aa
  .cases x<;>simp[isConst]at h;exact ah9 _ _
  .exact IL tm ae xs h.2 c aa
theorem aib{rows rows':List (Nat×Row)}(o:Oper)(aa:gi aq o.op=false)(tm:List AV)(y:dx->Option aj):b7 P aq site o tm rows y=b7 P aq site o tm rows' y:=by
 obtain⟨dst,op,type,pos,after,guard⟩:=o;simp only at aa;cases op<;>first|rfl|(simp[gi]at aa;done)|skip
 .have aa:vx _=false:=aa;simp only[b7,aa];rfl
 .have aa:aq.conv=false:=aa;simp only[b7,aa,A7];rfl
 .rename_i fn first captured
  cases fn<;>rfl
 .rename_i c;obtain⟨callee,args,ae⟩:=c;cases callee with
  |builtin b=>simp[gi]at aa
  |invoke r m=>simp[gi]at aa
  |value f=>
   cases f with
   |tmp t=>simp[gi]at aa
   |const v=>simp[gi]at aa
   |global v=>simp[gi]at aa
   |func g=>simp only[gi,mM,L4,GM,Bb]at aa;obtain⟨af,ao⟩:=aa;have ak:xh aq (.func g) g=none:=af;simp only[b7,val,ak,jy];rw[VW (rows:=rows) (rows':=rows') depth _ (IL tm ae.toList args.toList vt)]
def zO{rows rows':List (Nat×Row)}(h:∀id,lookup rows id=lookup rows' id):pN rows rows':=λid=>by rw[h id]
def VZ{rows rows':List (Nat×Row)}(h:∀id,lookup rows id=lookup rows' id):∀(n:Nat)(v:AV),ij rows n v=ij rows' n v:=by
 have au:=OH (zO h) depth;intro n;induction n with
 |zero=>intro v;rfl
 |succ n ih=>intro v;have eD:=B9 ih;cases v<;>simp only[ij,h,au,eD]
def V0{rows rows':List (Nat×Row)}(h:∀id,lookup rows id=lookup rows' id){f tx:List AV->List Nat->List Nat}(aR:∀cs acc,f cs acc=tx cs acc):∀(is acc:List Nat),qe rows f is acc=qe rows' tx is acc
 |[],_=>rfl
 |i::is,acc=>by simp only[qe,h,aR,V0 h aR is]
def V1{rows rows':List (Nat×Row)}(h:∀id,lookup rows id=lookup rows' id):∀(n:Nat)(aA:List AV)(acc:List Nat),reach rows n aA acc=reach rows' n aA acc
 |0,_,_=>rfl
 |n+1,_,_=>V0 h (V1 h n) _ _
def V2{rows rows':List (Nat×Row)}(h:∀id,lookup rows id=lookup rows' id):∀(ids:List Nat),q2 rows ids=q2 rows' ids
 |[]=>rfl
 |i::is=>by simp only[q2,h,V2 h is,B9 (VZ h depth)]
def aic{rows rows':List (Nat×Row)}(h:∀id,lookup rows id=lookup rows' id)(F:jD)(aA:List AV)(y:dx->Option aj):nw site F aA rows y=nw site F aA rows' y:=by simp only[nw,B9 (VZ h depth),V1 h,V2 h]
def IM{rows rows':List (Nat×Row)}(h:∀id,lookup rows id=lookup rows' id)(o:Oper)(tm:List AV)(y:dx->Option aj):b7 P aq site o tm rows y=b7 P aq site o tm rows' y:=by
 by_cases aa:changes aq o.op=false
 .exact OI (zO h) o aa tm y
 .obtain⟨dst,op,type,pos,after,guard⟩:=o;simp only[DD]at aa;have au:=OH (zO h) depth;cases op with
  |store t x z=>simp only[b7,BB,h,au]
  |call c=>
   obtain⟨callee,args,ae⟩:=c;cases callee with
   |builtin b=>
    simp only[b7];by_cases hcut:aq.cut.contains site=true
    .rw[dE hcut,dE hcut];unfold ur;simp only[h,B' (zO h),Bv,q5]
    rw[c0 hcut,c0 hcut];rw[q7,q7];unfold q6;simp only[h,B' (zO h),q5,VS (zO h),tc]
   |value f=>simp only[b7,aic h,uv,B9 au,h]
   |invoke r m=>simp[changes]at aa
  |slice t x lo hi mx=>simp only[b7,vz,h,au,VT (zO h)]
  |mapUpdate t m k x=>simp only[b7,mapOf,r3,h,au]
  |_=>simp[changes]at aa
end congr
end Go.Ev
